/- Part. -/
import Derived.Test.YtdhcheegbnnlbaaGreatDoorC20
set_option linter.all false
open Go.Ab.Mem renaming next_bump → bN, next_put → nP, get_bump → gB, get_put → gP
open Nat renaming le_of_ble_eq_true → bA, le_add_right_of_le → lA
open List renaming getD_eq_getElem?_getD → gD', getElem?_eq_getElem → gE', length_append → aL, append_assoc → aA, getElem?_append_left → aB', getElem?_append_right → aC', getElem?_map → gM', length_map → lM
open Prod.mk renaming injEq → pI
open Go.Ab.CallI renaming ex2 → cX, con0 → cZ
open Go.Ab.TidyE renaming pure → tP
open Go.Ab.Cells renaming ofList → ofL
open Go.Ab.View renaming temps → vT
open Nat renaming reduceLT → yA, reduceEqDiff → yB, reduceAdd → yC, reduceMul → yD, reduceSub → yE, reducePow → yF, reduceLeDiff → yG
open Int renaming reduceEq → yH, reduceLT → yI, reduceLE → yJ
namespace Go.Ab
open Go.Proofs
noncomputable section
set_option maxRecDepth 10000
section
variable{X Y:St}{i j k n q x:Nat}{pid g c:Int}{v a b:BitVec 32}{r:Proc}
theorem e_fd{o:Option Nat}:eX (fdS X i k o)=fdS (eX X) i k o:=by unfold fdS;rw[e_setP,eX_p];rfl
theorem e_ref:eX (refX X x)=refX (eX X) x:=rfl
theorem e_closeF:eX (closeF X i k x)=closeF (eX X) i k x:=by unfold closeF;rw[e_drop,e_answer,e_fd]
theorem e_dup:eX (dupX X i x k)=dupX (eX X) i x k:=by unfold dupX;rw[e_answer,e_fd,e_ref]
theorem e_addF{w:Bool}:eX (addF X i k q w)=addF (eX X) i k q w:=by
 unfold addF
 rw[eX_p,show({eP (X.p i) with fds:=(eP (X.p i)).fds.set k (some (eX X).F.length)}:Proc)=eP {X.p i with fds:=(X.p i).fds.set k (some X.F.length)} from rfl,eX_set];rfl
theorem e_pipe0:eX (pipe0A X)=pipe0A (eX X):=rfl
theorem e_pipeA{a0 a1:Nat}:eX (pipeA X i a0 a1)=pipeA (eX X) i a0 a1:=by unfold pipeA;rw[e_addF,e_addF,e_pipe0];rfl
theorem e_pipeB{Z:St×Int}{a0 a1:Nat}:eX (pipeB Z i a0 a1)=pipeB (eX Z.1,Z.2) i a0 a1:=by unfold pipeB;rw[e_ite,e_answer,e_code,e_pipeA]
theorem e_writeP{l:List (BitVec 8)}:(eX (writeX X i a l).1,(writeX X i a l).2)=writeX (eX X) i a l:=by rw[e_write.1,e_write.2]
theorem e_pipeC{F:List Nat}:eX (pipeC X i a F)=pipeC (eX X) i a F:=by unfold pipeC;rw[e_ite,e_ite,e_code,e_code,e_pipeB,e_writeP];rfl
theorem e_readY:eX (readY X q k)=readY (eX X) q k:=by unfold readY;rw[e_ite,e_wake];rfl
theorem e_readZ{Z:St×Int}:eX (readZ Z i q k)=readZ (eX Z.1,Z.2) i q k:=by unfold readZ;rw[e_ite,e_answer,e_code,e_readY]
theorem e_readP:eX (readPX X i q a b)=readPX (eX X) i q a b:=by
 unfold readPX
 rw[e_ite,e_ite,e_code,e_setP,e_readZ,e_writeP,eX_p];rfl
theorem e_wrY{l:List (BitVec 8)}:eX (wrY X q l)=wrY (eX X) q l:=by unfold wrY;rw[e_ite,e_wake];rfl
theorem e_wrZ{o:Option (List (BitVec 8))}:eX (wrZ X i q k o)=wrZ (eX X) i q k o:=by
 cases o with
 |none=>exact e_code
 |some l=>unfold wrZ;rw[e_answer,e_wrY]
theorem e_writePX:eX (writePX X i q a b)=writePX (eX X) i q a b:=by
 unfold writePX
 rw[e_ite,e_ite,e_ite,e_code,e_code,e_setP,e_wrZ,eX_p,e_read];rfl
theorem e_end:endX (eX X) i a=endX X i a:=by unfold endX;rw[eX_p];rfl
theorem e_filesF{a0 a1 a2:BitVec 32}{F:List Nat}:eX (filesF X i g a0 a1 a2 F)=filesF (eX X) i g a0 a1 a2 F:=by
 unfold filesF
 rw[e_ite,e_pipeC,e_end]
 cases endX X i a0 with
 |none=>simp only[e_code]
 |some x=>simp only[e_ite,e_readP,e_writePX,e_closeF,e_code,e_dup];rfl
theorem e_files{a0 a1 a2:BitVec 32}:eX (filesX X i g a0 a1 a2)=filesX (eX X) i g a0 a1 a2:=by unfold filesX;rw[e_filesF,eX_p];rfl
theorem e_sig{s:Sg}:eX (sigS X i s)=sigS (eX X) i s:=by unfold sigS;rw[e_setP,eX_p];rfl
theorem e_turn{s:Sg}:eX (turnX X i v s c)=turnX (eX X) i v s c:=by unfold turnX;rw[e_ite,e_answer,e_code,e_sig]
theorem e_kill:eX (killX X i pid a)=killX (eX X) i pid a:=by
 unfold killX
 rw[e_ite,e_ite,e_ite,e_code,e_code,e_post,e_answer,e_live]
theorem e_ret:eX (retX X i)=retX (eX X) i:=by unfold retX;rw[e_ite,e_code,e_setP,eX_p];rfl
theorem e_sigs{a0 a1:BitVec 32}:eX (sigsX X i g a0 a1)=sigsX (eX X) i g a0 a1:=by
 unfold sigsX
 rw[e_ite,e_ite,e_ite,e_kill,e_turn,e_turn,e_ret,eX_p];rfl
theorem e_place:placeX (eX X) i a=placeX X i a:=by unfold placeX;rw[e_word,eX_p,e_at];rfl
theorem e_futS{w:Fut}{Z:St×BitVec 32}:(eX (futS w a Z j).1,(futS w a Z j).2)=futS w a (eX Z.1,Z.2) j:=by
 unfold futS
 simp only[eX_p]
 show _=if futEq (Z.1.p j).fut w=true∧Z.2.toNat<a.toNat then _ else _
 split
 ·simp only[e_ready,e_answer]
 ·rfl
theorem e_futI{w:Fut}:∀{l:List Nat} {Z:St×BitVec 32},(eX (futI w a l Z).1,(futI w a l Z).2)=futI w a l (eX Z.1,Z.2)
 |[],_=>rfl
 |j::l,Z=>by
  show(eX (futI w a l (futS w a Z j)).1,(futI w a l (futS w a Z j)).2)=futI w a l (futS w a (eX Z.1,Z.2) j)
  rw[e_futI,e_futS]
theorem e_futW{w:Fut}:eX (futW X i w)=futW (eX X) i w:=by
 unfold futW
 rw[eX_p,show({eP (X.p i) with wait:=4,fut:=w}:Proc)=eP {X.p i with wait:=4,fut:=w} from rfl,eX_set];rfl
theorem e_futB{a0 a1:BitVec 32}{o:Option Fut}:eX (futexB X i g a0 a1 o)=futexB (eX X) i g a0 a1 o:=by
 cases o with
 |none=>exact e_code
 |some w=>
  unfold futexB
  rw[e_ite,e_ite,e_futW,e_code,e_answer,e_word]
  have h:(eX (futI w a1 X.fut (X,0#32)).1,(futI w a1 X.fut (X,0#32)).2)=futI w a1 (eX X).fut (eX X,0#32):=e_futI
  simp only[<-h]
theorem e_futex{a0 a1:BitVec 32}:eX (futexX X i g a0 a1)=futexX (eX X) i g a0 a1:=by unfold futexX;rw[e_futB,e_place]
theorem e_sleep:eX (sleepX X i a)=sleepX (eX X) i a:=by unfold sleepX;rw[e_setP,eX_p];rfl
theorem e_stepC:eX (stepC X i)=stepC (eX X) i:=by unfold stepC;rw[e_setP,eX_p];rfl
theorem e_print:eX (printX X i a)=printX (eX X) i a:=by unfold printX;rw[e_stepC,e_see]
theorem e_others{a0 a1 a2:BitVec 32}(hg:g≠21):eX (othersX X i g a0 a1 a2)=othersX (eX X) i g a0 a1 a2:=by
 unfold othersX
 rw[if_neg hg,if_neg hg]
 rw[<-e_mapPages.1,<-e_mapPages.2,<-e_unmapPages.1,<-e_unmapPages.2,eX_p]
 simp only[e_ite,e_exit,e_fork,e_wait,e_answer,e_sleep,e_code,e_print];rfl
theorem e_callB{l:List (BitVec 32)}(hg:g≠21):eX (callB X i g l)=callB (eX X) i g l:=by
 unfold callB
 rw[e_ite,e_ite,e_ite,e_files,e_sigs,e_futex,e_others hg]
theorem e_call(hg:((X.p i).cpu.r.getD 0 0#32).toNat≠21):eX (callX X i)=callX (eX X) i:=by
 unfold callX
 have h:ofN (X.p i).cpu.r≠21:=by
  unfold ofN
  split
  ·decide
  ·omega
 rw[e_ite,e_callB h,e_code,eX_p];rfl
def eC(Z:Cr):Cr:=⟨eX Z.X,Z.c,Z.t⟩
theorem eC_ite{p:Prop} [Decidable p]{A B:Cr}:eC (if p then A else B)=if p then eC A else eC B:=by split<;>rfl
theorem e_coreE{x:Ins}:eC (coreE X i x)=coreE (eX X) i x:=by
 unfold coreE
 simp only[eX_p,e_word,e_byte]
 show _=if x.op=24 then _ else _
 rw[<-e_write.1,<-e_write.2,<-e_write.1,<-e_write.2]
 simp only[eC_ite]
 simp only[eC];rfl
theorem e_core:eC (coreX X i)=coreX (eX X) i:=by
 unfold coreX
 rw[eC_ite,e_coreE,eX_p,e_word];rfl
theorem e_coreS{Z:Cr}(h:Z.t=1->((Z.X.p i).cpu.r.getD 0 0#32).toNat≠21):eX (coreS Z i)=coreS (eC Z) i:=by
 unfold coreS
 by_cases h1:Z.t=1
 ·rw[if_pos h1,if_pos (show(eC Z).t=1 from h1)];exact e_call (h h1)
 ·rw[if_neg h1,if_neg (show¬(eC Z).t=1 from h1),e_ite,e_ite,e_exit,e_exit,e_setP]
  have:(eC Z).X.p i=eP (Z.X.p i):=eX_p
  rw[this];rfl
theorem e_hand{s:Sg}:eX (handX X i s g)=handX (eX X) i s g:=by
 unfold handX
 rw[eX_p,show handP (eP (X.p i)) s g=eP (handP (X.p i) s g) from rfl,eX_set];rfl
def noAff(X:St)(i:Nat):Prop:=∀w,wordX X i (X.p i).cpu.pc=some w->(w>>>24).toNat=24->((X.p i).cpu.r.getD 0 0#32).toNat≠21
theorem coreX_t(h:(coreX X i).t=1):(coreX X i).X=X∧∃w,wordX X i (X.p i).cpu.pc=some w∧(w>>>24).toNat=24:=by
 unfold coreX at h⊢
 split at h
 ·rename_i hf
  rw[if_pos hf]
  have hop:(fetchX (wordX X i (X.p i).cpu.pc) (X.p i).cpu).1.op=24:=by
   generalize(fetchX (wordX X i (X.p i).cpu.pc) (X.p i).cpu).1=y at h
   unfold coreE at h
   simp only at h
   split at h
   ·assumption
   ·split at h
    ·cases h
    ·repeat' (split at h)
     all_goals cases h
  refine⟨by unfold coreE;rw[if_pos hop],?_⟩
  unfold fetchX at hf hop
  split at hf
  ·cases hf
  ·rename_i h4
   rw[if_neg h4] at hop
   cases hw:wordX X i (X.p i).cpu.pc with
   |none=>rw[hw] at hf;cases hf
   |some w=>
    rw[hw] at hf hop
    simp only at hf hop
    cases hd:decodeX w with
    |none=>rw[hd] at hf;cases hf
    |some y=>
     rw[hd] at hop
     refine⟨w,rfl,?_⟩
     unfold decodeX at hd
     split at hd
     ·cases hd
      have:((w>>>24).toNat:Int)=24:=hop
      omega
     ·cases hd
 ·exfalso
  change (fetchX _ _).2=1 at h
  unfold fetchX at h
  split at h
  ·cases h
  ·split at h
   ·cases h
   ·split at h<;>cases h
theorem e_step(h:noAff X i):eX (stepX X i)=stepX (eX X) i:=by
 unfold stepX stepB
 rw[eX_p]
 show _=if(nextSg (X.p i).sig).2.1=1 then _ else _
 rw[e_ite,e_ite,e_exit,e_sig,e_see,e_hand,e_coreS,e_core,e_sig];rfl
 intro ht
 obtain⟨h1,w,h2,h3⟩:=coreX_t ht
 rw[h1]
 have hs:((sigS X i (nextSg (X.p i).sig).2.2).p i).cpu=(X.p i).cpu∧((sigS X i (nextSg (X.p i).sig).2.2).p i).pages=(X.p i).pages:=by
  unfold sigS
  show((X.P.set i _).getD i proc0).cpu=_∧((X.P.set i _).getD i proc0).pages=_
  by_cases hi:i<X.P.length
  ·rw[getD_set_self hi];exact⟨rfl,rfl⟩
  ·rw[List.set_eq_of_length_le (by omega)];exact⟨rfl,rfl⟩
 have hr:∀k,readX (sigS X i (nextSg (X.p i).sig).2.2) i (X.p i).cpu.pc k=readX X i (X.p i).cpu.pc k:=by
  intro k
  induction k with
  |zero=>rfl
  |succ k ih=>
   unfold readX
   rw[ih]
   have:∀a,byteX (sigS X i (nextSg (X.p i).sig).2.2) i a=byteX X i a:=λa=>by
    unfold byteX atX
    rw[hs.2];rfl
   simp only[this]
 rw[hs.1] at h2⊢
 refine h w ?_ h3
 unfold wordX at h2⊢
 rwa[hr] at h2
def eR(R:Rn):Rn:=⟨eX R.X,R.s,R.e⟩
theorem e_told:eR (toldR X)=toldR (eX X):=rfl
theorem e_run(h:∀i,liveX X pid=some i->(X.p i).wait=0->noAff X i):eR (runR X pid)=runR (eX X) pid:=by
 unfold runR
 rw[e_live]
 show _=if X.halted=true then _ else _
 split
 ·rfl
 ·cases hl:liveX X pid with
  |none=>rfl
  |some i=>
   unfold runB
   simp only[eX_p]
   show _=if(X.p i).wait=0 then _ else _
   split
   ·rename_i hw
    rw[e_told,e_step (h i hl hw)]
   ·rfl
theorem e_room:roomX (eX X)=roomX X:=rfl
theorem e_wrds{l:List (BitVec 32)}:eX (wrds X l n)=wrds (eX X) l n:=e_fold λ_ _=>e_write.1
theorem e_new{b c:BootR}(h1:b.frames=c.frames)(h2:b.procs=c.procs)(h3:b.cap=c.cap)(h4:b.prog=c.prog):eX (newX b)=eX (newX c):=by
 have h:∀b:BootR,eX (newX b)={wrds (mapPagesX (eX (new0 b)) 0 0#32 (BitVec.ofNat 32 (pgsN b.prog.length)) 1#32).1 b.prog b.prog.length with l:=[0]}:=λb=>by
  unfold newX
  rw[<-e_mapPages.1,<-e_wrds];rfl
 rw[h b,h c]
 have e:eX (new0 b)=eX (new0 c):=by
  unfold new0 eX
  simp only[h1,h2,h3];rfl
 rw[e,h4]
end
end
end Go.Ab
namespace Go.Ab
open Go.Proofs
noncomputable section
set_option maxHeartbeats 4000000
set_option maxRecDepth 10000
section
variable{m m' M mr:Mem}{n:Nat}{L L' L1 L2:Loc}{X X' X1 X2 Y W:St}{v w:Value}{fl:List Value}{pid:Int}{a:BitVec 32}
def accW(g:Nat->Option (BitVec 8)):Nat->Option (BitVec 32)
 |0=>some 0#32
 |k+1=>match accW g k,g k with
  |some w,some b=>some (w|||((b.setWidth 32)<<<(8#32*BitVec.ofNat 32 k).toNat))
  |_,_=>none
def byP(X:St)(pid:Int)(a:BitVec 32)(k:Nat):Option (BitVec 8):=(liveX X pid).bind λi=>byteX X i (a+BitVec.ofNat 32 k)
def wordP(X:St)(pid:Int)(a:BitVec 32):Option (BitVec 32):=accW (byP X pid a) 4
theorem accW_none{g:Nat->Option (BitVec 8)}{k:Nat}(h:accW g k=none):∀{n:Nat},k<=n->accW g n=none
 |0,hk=>by
  obtain rfl:k=0:=by omega
  exact h
 |n+1,hk=>by
  by_cases e:k=n+1
  ·rw[<-e];exact h
  ·unfold accW;rw[accW_none h (n:=n) (by omega)]
theorem wordP_of{i:Nat}{w:BitVec 32}(hl:liveX X pid=some i)(h:wordX X i a=some w):wordP X pid a=some w:=by
 unfold wordX at h
 cases hr:readX X i a 4 with
 |none=>rw[hr] at h;cases h
 |some l=>
  rw[hr] at h
  cases h
  have step:∀k l,readX X i a (k+1)=some l->∃l0 b,readX X i a k=some l0∧byteX X i (a+BitVec.ofNat 32 k)=some b∧l=l0++ [b]:=λk l h=>by
   unfold readX at h
   split at h
   ·cases h
   ·split at h
    ·cases h
    ·split at h
     ·cases h
     ·cases h;exact⟨_,_,by assumption,by assumption,rfl⟩
  obtain⟨l3,b3,h3,e3,rfl⟩:=step 3 _ hr
  obtain⟨l2,b2,h2,e2,rfl⟩:=step 2 _ h3
  obtain⟨l1,b1,h1,e1,rfl⟩:=step 1 _ h2
  obtain⟨l0,b0,h0,e0,rfl⟩:=step 0 _ h1
  cases h0
  have hb:∀k,byP X pid a k=byteX X i (a+BitVec.ofNat 32 k):=λk=>by unfold byP;rw[hl];rfl
  have s1:accW (byP X pid a) 1=some (0#32|||(b0.setWidth 32)<<<(8#32*BitVec.ofNat 32 0).toNat):=by unfold accW;rw[hb,e0];rfl
  have s2:accW (byP X pid a) 2=some (0#32|||(b0.setWidth 32)<<<(8#32*BitVec.ofNat 32 0).toNat|||(b1.setWidth 32)<<<(8#32*BitVec.ofNat 32 1).toNat):=by unfold accW;rw[hb,e1,s1]
  have s3:accW (byP X pid a) 3=some (0#32|||(b0.setWidth 32)<<<(8#32*BitVec.ofNat 32 0).toNat|||(b1.setWidth 32)<<<(8#32*BitVec.ofNat 32 1).toNat|||(b2.setWidth 32)<<<(8#32*BitVec.ofNat 32 2).toNat):=by unfold accW;rw[hb,e2,s2]
  have s4:accW (byP X pid a) 4=some (0#32|||(b0.setWidth 32)<<<(8#32*BitVec.ofNat 32 0).toNat|||(b1.setWidth 32)<<<(8#32*BitVec.ofNat 32 1).toNat|||(b2.setWidth 32)<<<(8#32*BitVec.ofNat 32 2).toNat|||(b3.setWidth 32)<<<(8#32*BitVec.ofNat 32 3).toNat):=by unfold accW;rw[hb,e3,s3]
  unfold wordP
  rw[s4]
  congr 1
  have t0:(8#32*BitVec.ofNat 32 0).toNat=0:=rfl
  have t1:(8#32*BitVec.ofNat 32 1).toNat=8:=rfl
  have t2:(8#32*BitVec.ofNat 32 2).toNat=16:=rfl
  have t3:(8#32*BitVec.ofNat 32 3).toNat=24:=rfl
  rw[t0,t1,t2,t3,BitVec.zero_or,BitVec.shiftLeft_zero]
  rfl
theorem word_ok(h:FAt m L X)(hg:GX X):Con EE.P 16 [PT L.f,In pid,Um a] m (.tuple [Um ((wordP X pid a).getD 0#32), .bool (wordP X pid a).isSome].toArray) m:=by
 refine Con.of EE_ok fn16 (bA rfl) Grow.rfl λhm=>?_
 simp only[XX,XY,F16,yA,yC]
 refine WX.loop_of (λkk tt M=>∃(k j:Nat) (w:BitVec 32),k<=4∧kk=4-k∧tt=T 35 [(9,Um (BitVec.ofNat 32 k)),(8,Um w),(0,PT L.f),(1,In pid),(2,Um a)]∧M=m.bump j∧accW (byP X pid a) k=some w) ?_ (k:=4) (t1:=T 35 [(9,Um 0#32),(8,Um 0#32),(0,PT L.f),(1,In pid),(2,Um a)]) (vT ⟨rfl,rfl,rfl,rfl,rfl,trivial⟩) ⟨0,_,_,by omega,rfl,rfl,rfl,rfl⟩
 rintro kk tt M ⟨k,j,w,hk,rfl,rfl,rfl,hw⟩
 have ek:(BitVec.ofNat 32 k).toNat=k:=by rw[BitVec.toNat_ofNat];omega
 by_cases hk2:k<4
 ·have g1:=decide_eq_true (show((BitVec.ofNat 32 k).toNat:Int)<4 by omega)
  have g2:((BitVec.ofNat 32 k).toNat:Int)<4:=by omega
  have h1:∀x:BitVec 32,binV EE.P .mul 36 (.int .u32 8) (Um x)=some (Um (8#32*x)):=λx=>bin_mul.trans (by rw[show(8:Int)=((8#32:BitVec 32).toNat:Int) from rfl,mul32])
  have h2:∀x y:BitVec 32,binV EE.P .shl 36 (Um x) (Um y)=some (Um (x<<<y.toNat)):=λx y=>uu_shl (Int.natCast_nonneg _)
  have h3:∀x:BitVec 32,binV EE.P .add 36 (Um x) (.int .u32 1)=some (Um (x+1#32)):=λx=>uu_add (b:=1#32)
  simp only[XX,XY,F16,yA,yB,yC,g2,add32]
  refine cZ (fbyte_ok (h.bump _) hg) ?_
  have eS:accW (byP X pid a) (k+1)=match some w,byP X pid a k with
   |some w,some b=>some (w|||((b.setWidth 32)<<<(8#32*BitVec.ofNat 32 k).toNat))
   |_,_=>none:=by
   show(match accW (byP X pid a) k,byP X pid a k with|some w,some b=>_|_,_=>_)=_
   rw[hw]
  rw[show((liveX X pid).bind λi=>byteX X i (a+BitVec.ofNat 32 k))=byP X pid a k from rfl]
  cases hb:byP X pid a k with
  |none=>
   rw[hb] at eS
   have e0:wordP X pid a=none:=accW_none eS (by omega)
   rw[by_0,e0]
   simp only[XX,XY,F16,yA,yB,yC,roundQ_ret,Option.getD_none,Option.isSome_none]
   exact tP rfl λy hy=>gA
  |some b=>
   rw[hb] at eS
   have e1:byV (some b)= .tuple [By b, .bool true].toArray:=rfl
   rw[e1]
   simp only[XX,XY,F16,yA,yB,yC,h1,h2,h3,conv_8w,uu_or,roundQ_normal]
   have e2:BitVec.ofNat 32 k+1#32=BitVec.ofNat 32 (k+1):=by rw[<-BitVec.ofNat_add]
   rw[e2]
   exact⟨4-(k+1),_,_,by omega,vT (l':=[(9,Um (BitVec.ofNat 32 (k+1))),(8,Um (w|||(b.setWidth 32)<<<(8#32*BitVec.ofNat 32 k).toNat)),(0,PT L.f),(1,In pid),(2,Um a)]) ⟨rfl,rfl,rfl,rfl,rfl,trivial⟩,k+1,_,_,by omega,rfl,rfl,rfl,eS⟩
 ·obtain rfl:k=4:=by omega
  have e0:wordP X pid a=some w:=hw
  have g1:¬(((4#32:BitVec 32).toNat:Int)<4):=by decide
  rw[e0]
  simp only[XX,XY,F16,yA,yB,yC,yE,g1,roundQ_exit]
  exact tP rfl λy hy=>gA
theorem fl113:(EE.P.fieldsOf 113).toList.map (λf=>(f.type,f.offset))=[(3,0),(3,1),(3,2),(36,3)]:=kr
theorem u113:EE.P.underlying 113=some (.struct (EE.P.fieldsOf 113)):=kr
theorem neq_seen{a0 a1 a2:Int}{a3:BitVec 32}{xo yo:Operand}:eqA EE.P .neq 113 xo yo (.agg #[In a0,In a1,In a2,Um a3]) (.agg #[In a0,In a1,In a2,Um a3]) m=some (.bool false):=by
 refine eqA_aggW (r:=true) (w:=default) (.inr rfl) rfl rfl (by rw[<-Array.all_toList];rfl) (by rw[<-Array.all_toList];rfl) kr ?_
 show(Op.equalIn (9998+1+1) 113 _ _).run EE.P default=_
 rw[run_equalIn_struct default _ _ _ _ u113 kr]
 refine eqFields_refl _ λf hf=>?_
 have hm:=List.mem_map_of_mem (f:=λf:Field=>(f.type,f.offset)) hf
 rw[fl113] at hm
 have u3:EE.P.underlying 3=some (.int .i64):=kr
 simp only[List.mem_cons,pI,List.not_mem_nil,or_false] at hm
 rcases hm with⟨a,b⟩|⟨a,b⟩|⟨a,b⟩|⟨a,b⟩
 ·rw[a,b];exact⟨In a0,part_one u3 rfl rfl,eq_i 9998 u3⟩
 ·rw[a,b];exact⟨In a1,part_one u3 rfl rfl,eq_i 9998 u3⟩
 ·rw[a,b];exact⟨In a2,part_one u3 rfl rfl,eq_i 9998 u3⟩
 ·rw[a,b];exact⟨Um a3,part_one und_36 rfl rfl,eq_u 9998⟩
theorem neq_room{a0 a1 a2 a3:Int}{xo yo:Operand}:eqA EE.P .neq 58 xo yo (.agg #[In a0,In a1,In a2,In a3]) (.agg #[In a0,In a1,In a2,In a3]) m=some (.bool false):=by
 refine eqA_aggW (r:=true) (w:=default) (.inr rfl) rfl rfl (by rw[<-Array.all_toList];rfl) (by rw[<-Array.all_toList];rfl) kr ?_
 show(Op.equalIn (9998+1+1) 58 _ _).run EE.P default=_
 rw[run_equalIn_struct default _ _ _ _ u58 kr]
 refine eqFields_refl _ λf hf=>?_
 have hm:=List.mem_map_of_mem (f:=λf:Field=>(f.type,f.offset)) hf
 rw[fl58] at hm
 have u3:EE.P.underlying 3=some (.int .i64):=kr
 simp only[List.mem_cons,pI,List.not_mem_nil,or_false] at hm
 rcases hm with⟨a,b⟩|⟨a,b⟩|⟨a,b⟩|⟨a,b⟩
 ·rw[a,b];exact⟨In a0,part_one u3 rfl rfl,eq_i 9998 u3⟩
 ·rw[a,b];exact⟨In a1,part_one u3 rfl rfl,eq_i 9998 u3⟩
 ·rw[a,b];exact⟨In a2,part_one u3 rfl rfl,eq_i 9998 u3⟩
 ·rw[a,b];exact⟨In a3,part_one u3 rfl rfl,eq_i 9998 u3⟩
theorem fm_len{α:Type}{f:α->List Value}{z:Nat}(hf:∀x,(f x).length=z):∀{l:List α},(l.flatMap f).length=l.length*z
 |[]=>by rw[List.flatMap_nil];simp
 |y::l=>by rw[List.flatMap_cons,aL,hf,fm_len hf,List.length_cons,Nat.succ_mul];omega
theorem fm_get{α:Type}{f:α->List Value}{z:Nat}(hf:∀x,(f x).length=z):∀{l:List α} {k:Nat} {x:α},l[k]? =some x->∀j,j<z->(l.flatMap f).getD (k*z+j) undef=(f x).getD j undef
 |[],k,x,h,_,_=>by cases h
 |y::l,0,x,h,j,hj=>by
  cases h
  rw[List.flatMap_cons,gD',aB' (by rw[hf];omega),Nat.zero_mul,Nat.zero_add,gD']
 |y::l,k+1,x,h,j,hj=>by
  rw[List.flatMap_cons,gD',aC' (by rw[hf,Nat.succ_mul];omega),hf,show(k+1)*z+j-z=k*z+j by rw[Nat.succ_mul];omega,<-gD']
  exact fm_get hf (l:=l) h j hj
theorem seen_ok{s:List SeenR}(hv:SlV m 4 v s.length (s.flatMap seenL))(hw:SlV m 4 w s.length (s.flatMap seenL))(hs:s.length<1000000):Con EE.P 18 [v,w] m (.bool true) m:=by
 refine Con.of EE_ok fn18 (bA rfl) Grow.rfl λhm=>?_
 have l1:∀M,lenA EE.P 53 v M=some (In s.length):=λM=>hv.lenA und_53
 have l2:∀M,lenA EE.P 53 w M=some (In s.length):=λM=>hw.lenA und_53
 simp only[XX,XY,F18,yA,yB,yC,l1,l2]
 refine WX.loop_of (λkk tt M=>∃k j:Nat,k<=s.length∧kk=s.length-k∧tt=T 26 [(5,In k),(0,v),(1,w)]∧M=m.bump j) ?_ (k:=s.length) (t1:=T 26 [(5,In (0:Nat)),(0,v),(1,w)]) (vT ⟨rfl,rfl,rfl,trivial⟩) ⟨0,_,by omega,rfl,rfl,rfl⟩
 rintro kk tt M ⟨k,j,hk,rfl,rfl,rfl⟩
 by_cases hk2:k<s.length
 ·have g1:=decide_eq_true (show(k:Int)<(s.length:Int) by omega)
  have g2:(0:Int)<=k:=by omega
  have g3:(k:Int)<(s.length:Int):=by omega
  have hw1:IntKind.i64.wrap ((k:Int)+1)=((k+1:Nat):Int):=by rw[wrap_i64 (by omega) (by omega)];omega
  obtain⟨b1,c1,cs1,rfl,x1,x2,x3,x4⟩:=hv.cons (by omega)
  obtain⟨b2,c2,cs2,rfl,y1,y2,y3,y4⟩:=hw.cons (by omega)
  obtain⟨r,hr⟩:∃r,s[k]? =some r:=⟨_,gE' hk2⟩
  have f1:=fm_get (f:=seenL) (z:=4) (λ_=>rfl) hr
  have lf:(s.flatMap seenL).length=s.length*4:=fm_len (f:=seenL) (z:=4) λ_=>rfl
  have z1:cs1.sub (k*4) 4=some [In r.pid,In r.kind,In r.call,Um r.v]:=sub_get rfl (by omega) λj hj=>by rw[x4 _ (by omega)];exact f1 j hj
  have z2:cs2.sub (k*4) 4=some [In r.pid,In r.kind,In r.call,Um r.v]:=sub_get rfl (by omega) λj hj=>by rw[y4 _ (by omega)];exact f1 j hj
  have q1:=λxo yo m=> @neq_seen m r.pid r.kind r.call r.v xo yo
  simp only[XX,XY,F18,yA,yB,yC,l1,g2,g3,x1,y1,z1,z2,q1,hw1,roundQ_normal]
  exact⟨s.length-(k+1),_,_,by omega,vT (l':=[(5,In ((k+1:Nat):Int)),(0, .slice (some ⟨b1,0,none⟩) s.length c1),(1, .slice (some ⟨b2,0,none⟩) s.length c2)]) ⟨rfl,rfl,rfl,trivial⟩,k+1,_,by omega,rfl,rfl,rfl⟩
 ·obtain rfl:k=s.length:=by omega
  have g1:=decide_eq_false (show¬(s.length:Int)<(s.length:Int) by omega)
  simp only[XX,XY,F18,yA,yB,yC,l1,g1,roundQ_exit]
  exact tP rfl λy hy=>gA
end
section
variable{m m' M mr:Mem}{n:Nat}{L L' L1 L2:Loc}{X X' X1 X2 Y W:St}{v w:Value}{fl:List Value}{pid:Int}{b:BootR}{l:List OpR}
theorem e_noAff{i:Nat}(he:eX X=eX Y)(h:noAff X i):noAff Y i:=λw hw h24=>by
 have h1:(X.p i).cpu=(Y.p i).cpu:=by
  have:(eX X).p i=(eX Y).p i:=by rw[he]
  rw[eX_p,eX_p] at this
  exact(show(eP (X.p i)).cpu=(eP (Y.p i)).cpu from congrArg Proc.cpu this)
 rw[<-h1] at hw⊢
 refine h w ?_ h24
 rw[<-e_word,he,e_word];exact hw
theorem two_runs(he:eX X=eX Y)(h:∀i,liveX X pid=some i->noAff X i):(runR X pid).s=(runR Y pid).s∧(runR X pid).e=(runR Y pid).e∧eX (runR X pid).X=eX (runR Y pid).X:=by
 have hl:liveX Y pid=liveX X pid:=by rw[<-e_live (X:=Y),<-he,e_live]
 have h1:=e_run (X:=X) (pid:=pid) λi hi _=>h i hi
 have h2:=e_run (X:=Y) (pid:=pid) λi hi _=>e_noAff he (h i (hl▸hi))
 rw[he,<-h2] at h1
 exact⟨(show(eR _).s=(eR _).s from congrArg Rn.s h1),(show(eR _).e=(eR _).e from congrArg Rn.e h1),(show(eR _).X=(eR _).X from congrArg Rn.X h1)⟩
theorem run_len{k:Nat}(h:Ox k X)(hl:Lk X)(hf:∀j∈X.fut,j<X.P.length):(runR X pid).s.length<=k+2:=by
 unfold runR
 split
 ·exact Nat.zero_le _
 ·cases e:liveX X pid with
  |none=>exact Nat.zero_le _
  |some i=>
   rw[runB_1]
   split
   ·have h1:=(Sx.step h.gx (hl i (live_mem e)) hl hf).sh.sn
    have h2:=h.fl
    rw[h.sn,List.length_nil] at h1
    show(stepX X i).seen.length<=_
    omega
   ·exact Nat.zero_le _
theorem OpsAt.keep(h:OpsAt m v l)(hk:l=[]∨∀y,slB v=some y->M.get y=m.get y):OpsAt M v l:=by
 obtain⟨a,C,rfl,h⟩:=h
 rcases hk with hk|hk
 ·exact⟨a,C,rfl, .inl hk⟩
 refine⟨a,C,rfl,h.imp id λ⟨b,cs,ww,z,e,h1,h2⟩=>⟨b,cs,ww,z,e,?_,h2⟩⟩
 subst e
 rw[hk b rfl];exact h1
structure Cx(m0:Mem)(w:Value)(l:List OpR)(ff fg a b:Nat)(X Y:St)(L1 L2:Loc)(M:Mem):Prop where
 a1:FAt M L1 X
 a2:FAt M L2 Y
 e1:L1.f=ff
 e2:L2.f=fg
 dj:∀y,L1.D y->¬L2.D y
 ox:Ox a X
 oy:Ox b Y
 fr:Fresh M
 tb:Tb M
 gr:Grow m0 M
 op:OpsAt M w l
 od:l=[]∨∀y,slB w=some y->¬L1.D y∧¬L2.D y
section
variable{m0:Mem}{ff fg a c:Nat}
theorem Cx.nx(h:Cx m0 w l ff fg a c X Y L1 L2 M)(hN:Nx M m'):Cx m0 w l ff fg a c X Y L1 L2 m':=
 ⟨h.a1.nx hN,h.a2.nx hN,h.e1,h.e2,h.dj,h.ox,h.oy,hN.fresh,h.tb.nx h.fr hN,Grow.tr h.gr (Nx.grow' hN),h.op.nx h.fr hN,h.od⟩
theorem Cx.swap(h:Cx m0 w l ff fg a c X Y L1 L2 M):Cx m0 w l fg ff c a Y X L2 L1 M:=
 ⟨h.a2,h.a1,h.e2,h.e1,λy e1 e2=>h.dj y e2 e1,h.oy,h.ox,h.fr,h.tb,h.gr,h.op,h.od.imp id λh y hy=>(h y hy).symm⟩
theorem Cx.run(h:Cx m0 w l ff fg a c X Y L1 L2 M)(ha:a<=400):∃u m',Con EE.P 17 [PT ff,In pid] M u m'∧∃v L3,u= .tuple [v,In (runR X pid).e].toArray∧SlV m' 4 v (runR X pid).s.length ((runR X pid).s.flatMap seenL)∧
  (runR X pid).s.length<=a+2∧(∀y,slB v=some y->¬L2.D y)∧Cx m0 w l ff fg (a+1) c (runR X pid).X Y L3 L2 m'∧M.next<=m'.next∧∀y o,M.get y=some o->¬L1.D y->m'.get y=some o:=by
 have hs:X.seen.length+X.fut.length<99000:=by have:=h.ox.fl;rw[h.ox.sn,List.length_nil];omega
 obtain⟨u,m',hc,hB,v,rfl,hv,hy⟩:=fRun_ok (pid:=pid) h.a1 h.fr h.tb h.ox.gx hs
 rw[h.e1] at hc
 have htb:=hB.tb h.a1 h.fr h.tb
 have hgr:=hB.grow
 obtain⟨L3,a3,x3,f3⟩:=hB
 have hk:∀y o,M.get y=some o->¬L1.D y->m'.get y=some o:=λy o ho hD=>(f3.old y (h.fr.lt ho) hD).trans ho
 refine⟨_,m',hc,v,L3,rfl,hv,run_len h.ox h.a1.pi h.a1.pf,λy hv e=>(hy y hv).elim (λe1=>h.dj y e1 e) λe1=>by have:=h.a2.lt y e;omega,⟨a3,h.a2.keep f3.next λy hy=>f3.old y (h.a2.lt y hy) λe=>h.dj y e hy,x3.f.trans h.e1,h.e2,λy e e'=>(x3.D y e).elim (λe1=>h.dj y e1 e') λe1=>by have:=h.a2.lt y e';omega,h.ox.run h.a1.pi h.a1.pf,h.oy,f3.fresh,htb,Grow.tr h.gr hgr,?_,?_⟩,f3.next,hk⟩
 ·rcases h.od with hd|hd
  ·exact h.op.keep (.inl hd)
  ·rcases h.op.blk h.fr with hb|hb
   ·exact h.op.keep (.inl hb)
   ·exact h.op.keep (.inr λy hy=>f3.old y (hb y hy) (hd y hy).1)
 ·rcases h.od with hd|hd
  ·exact .inl hd
  ·rcases h.op.blk h.fr with hb|hb
   ·exact .inl hb
   ·exact .inr λy hy=>⟨λe=>(x3.D y e).elim (hd y hy).1 λe1=>by have:=hb y hy;omega,(hd y hy).2⟩
end
theorem cpu_at{c:Cells}{x:Cpu}(hn:c.n=11)(hx:x.ok):(c.write 0 (cpuL x)).nth 10=some (Um x.pc)∧(c.write 0 (cpuL x)).nth 0=some (Um (x.r.getD 0 0#32)):=by
 have h1:(c.write 0 (cpuL x)).sub 0 11=some (cpuL x):=sub_write_same (cpuL_len hx) (by rw[hn];decide)
 refine⟨(sub_nth h1 (k:=10) (by decide)).trans (cpuL_pc' hx.o),(sub_nth h1 (k:=0) (by decide)).trans ?_⟩
 unfold cpuL
 have h8:=hx.1
 rw[aA,aB' (by rw[lM,h8];decide),gM',gD',gE' (by rw[h8];decide)]
 rfl
theorem bootc{cs:Cells}{x:Int}(hn:cs.n=5):((cs.write 0 (bootL b v)).write 0 [In x]).sub 0 5=some (bootL {b with cores:=x} v):=by
 have h1:(cs.write 0 (bootL b v)).sub 0 5=some (bootL b v):=sub_write_same rfl (by rw[hn];decide)
 exact sub_write_in (k:=0) h1 (by decide)
theorem cores_ok(hm:Fresh m)(ht:Tb m)(hal:∀M,Nx m M->∃u M',Con EE.P 13 [] M u M'∧u= .bool true∧Nx M M')(hp:ProgAt m v b.prog)(ho:OpsAt m w l){q:Nat}(hq:q<256):∃m',Con EE.P 4 [.agg (bootL b v).toArray, .int .u8 (q:Int),w] m (.bool true) m':=by
 refine Con.raw1 EE_ok fn4 (bA rfl) ?_
 have h64:=hm.n64
 have hv1:[v].all oneCell=true:=by obtain⟨a,C,rfl,_⟩:=hp;rfl
 have bo:(bootL b v).all oneCell=true:=by unfold bootL;simpa [oneCell] using hv1
 have bl:(bootL b v).length=5:=rfl
 have hN1:∀(o1:AObj) (k:Nat),1<=k->Nx m ((m.put m.next o1).bump k):=λo1 k hk=>⟨by(try simp only[bN,nP]);omega,Fresh.of_low (by have:=hm.n64;(try simp only[bN,nP]);omega) (by repeat(first|exact Low.of hm nO|refine Low.put ?_ nO|refine Low.bump ?_)),λy hy=>by simp only[gB,gP,ne_new0 hy,if_false]⟩
 simp only[XX,XY,F4,yA,yB,yC]
 refine cX (hal _ (hN1 _ _ (by omega))) λu M1 hM1=>?_
 obtain⟨rfl,hN⟩:=hM1
 have hN1M:=(hN1 _ _ (by omega)).trans hN
 have hb1:M1.get m.next=some (.cells (ofL (bootL b v)) true 0):=hN.keep (hN1 _ _ (by omega)).fresh gA
 have n1:=hN1M.next
 have bs:(ofL (bootL b v)).sub 0 5=some (bootL b v):=rfl
 have hp1:=hp.nx hm (hN1M.bump 8)
 have ho1:=ho.nx hm (hN1M.bump 8)
 simp only[XX,XY,F4,yA,yB,yC,n1,hb1,bs]
 refine cZ (great_ok ho1 hp1) ?_
 cases hgr:greatB b l.length 300 with
 |true=>
  simp only[XX,XY,F4,yA,yB,yC,yI,n1,lA]
  exact⟨Nx.grow' (hN1M.bump _),rfl⟩
 |false=>
  have hlen:b.prog.length<=512∧l.length<=300:=by
   unfold greatB at hgr
   simp only[Bool.or_eq_false_iff,decide_eq_false_iff_not] at hgr
   omega
  have hcv:∀M,convV EE.P 5 3 (.int .u8 (q:Int)) M=some (In q):=λM=>by
   rw[conv_int und_3 und_5]
   congr 2
   exact wrap_i64 (by omega) (by omega)
  have hr:∀ty,binV EE.P .rem ty (In (q:Int)) (In 8)=some (In ((q:Int).tmod 8)):=λty=>bin_rem (by decide)
  have t1:=Int.tmod_nonneg 8 (show(0:Int)<=q by omega)
  have t2:=Int.tmod_lt_of_pos (q:Int) (show(0:Int)<8 by decide)
  have hwx:IntKind.i64.wrap (1+(q:Int).tmod 8)=1+(q:Int).tmod 8:=wrap_i64 (by omega) (by omega)
  obtain⟨x,hx⟩:∃x,x=1+(q:Int).tmod 8:=⟨_,rfl⟩
  rw[<-hx] at hwx
  replace hwx:IntKind.i64.wrap (1+(q:Int).tmod 8)=x:=by rw[<-hx];exact hwx
  have ne1:¬m.next=M1.next+9:=by omega
  have hbc:=λcs=> @bootc v b cs x
  simp only[XX,XY,F4,yA,yB,yC,yG,yI,n1,ne1,hb1,bs,bo,bl,hcv,hr,hwx,lA]
  have put3:∀(M0:Mem) (o:AObj),Nx M1 M0->M1.next+9<M0.next->Nx M1 (M0.put (M1.next+9) o)∧M1.next+9<(M0.put (M1.next+9) o).next:=λM0 o h1 h2=>⟨h1.putN (by omega) h2,by rw[nP];exact h2⟩
  refine CallI.gen (λM=>Nx M1 M∧∃cs,M.get (M1.next+9)=some (.cells cs true 0)∧cs.sub 0 5=some (bootL {b with cores:=x} v)) ⟨?_,_,gA,hbc _ rfl⟩ λM2 hM2=>?_
  ·have hm:=hN.fresh
   exact⟨by(try simp only[bN,nP]);omega,Fresh.of_low (by have:=hm.n64;(try simp only[bN,nP]);omega) (by repeat(first|exact Low.of hm nO|refine Low.put ?_ nO|refine Low.bump ?_)),λy hy=>by simp only[gB,gP,ne_new hy,if_false]⟩
  obtain⟨hN12,cb,hcb,hcs⟩:=hM2
  have hN2:=hN1M.trans hN12
  have n2:=hN2.next
  have n12:=hN12.next
  have bo':(bootL {b with cores:=x} v).all oneCell=true:=by unfold bootL;simpa [oneCell] using hv1
  have bl':(bootL {b with cores:=x} v).length=5:=rfl
  generalize hcE:({b with cores:=x}:BootR)=c at hcs bo' bl'
  have hcp:c.prog=b.prog:=by rw[<-hcE]
  by_cases hmay:mayB b
  ·refine cX (new_ok (hp.nx hm hN2) hN2.fresh hmay) λu M3 hM3=>?_
   obtain⟨L1,rfl,hA1,hN3,hD1,hG1⟩:=hM3
   have hN23:=hN2.trans hN3
   have n3:=hN23.next
   have n32:=hN3.next
   have hcb3:=hN3.keep hN12.fresh hcb
   simp only[XX,XY,F4,yA,yB,yC,n3,hcb3,hcs]
   by_cases hmay2:mayB c
   ·refine cX (new_ok (b:=c) (by rw[hcp];exact hp.nx hm (hN23.bump _)) hN3.fresh.bump hmay2) λu M4 hM4=>?_
    obtain⟨L2,rfl,hA2,hN4,hD2,hG2⟩:=hM4
    have hN4:=hN4.of_bump
    have hN24:=hN23.trans hN4
    have n4:=hN24.next
    have n43:=hN4.next
    have C0:Cx m w l L1.f L2.f 0 0 (newX b) (newX c) L1 L2 M4:=⟨hA1.nx hN4,hA2,rfl,rfl,λy e1 e2=>by have:=hA1.lt y e1;have:=hD2 y e2;rw[bN] at this;omega,Ox.new hmay,Ox.new hmay2,hN4.fresh,ht.nx hm hN24,Nx.grow' hN24,ho.nx hm hN24,(ho.blk hm).imp id λh y hy=>⟨λe=>by have:=h y hy;have:=hD1 y e;omega,λe=>by have:=h y hy;have:=hD2 y e;rw[bN] at this;omega⟩⟩
    have E0:eX (newX b)=eX (newX c):=by rw[<-hcE];exact e_new rfl rfl rfl rfl
    have hlw:∀M,lenA EE.P 25 w M=some (In l.length):=λM=>by obtain⟨aw,Cw,rfl,_⟩:=ho;exact len_slice und_25
    simp only[XX,XY,F4,yA,yB,yC,n4,hlw,lA]
    refine WX.loop_of (λkk tt M=>∃k:Nat,k<=l.length∧kk=l.length-k∧tt=T 141 [(59,In k),(58,In l.length),(11,PT L2.f),(9,PT L1.f),(7, .bool true),(2,w)]∧∃X Y L3 L4,Cx m w l L1.f L2.f k k X Y L3 L4 M∧eX X=eX Y) ?_ (k:=l.length) (t1:=T 141 [(59,In (0:Nat)),(58,In l.length),(11,PT L2.f),(9,PT L1.f),(7, .bool true),(2,w)]) (vT ⟨rfl,rfl,rfl,rfl,rfl,rfl,trivial⟩) ⟨0,by omega,rfl,rfl,_,_,_,_,C0.nx ((Nx.refl hN4.fresh).bump _),E0⟩
    rintro kk tt M ⟨k,hk,rfl,rfl,X,Y,L3,L4,hC,hE⟩
    have nM:=hC.gr.1
    by_cases hk2:k<l.length
    ·obtain⟨o,hok⟩:∃o,l[k]? =some o:=⟨_,gE' hk2⟩
     obtain⟨aw,Cw,ew,hop⟩:=id hC.op
     subst ew
     rcases hop with rfl|⟨bw,cs,ww,z,rfl,hb,hsub⟩
     ·simp at hk2
     have hs:=hsub k o hok
     have s2:cs.nth (k*7+2)=some (In o.n):=sub_nth hs (k:=2) (by decide)
     have g1:(k:Int)<(l.length:Int):=by omega
     have g2:(0:Int)<=k:=by omega
     have hw:IntKind.i64.wrap ((k:Int)+1)=((k+1:Nat):Int):=by rw[wrap_i64 (by omega) (by omega)];omega
     simp only[XX,XY,F4,yA,yB,yC,g1,nM,lA]
     refine cX (by rw[<-hC.e1];exact Ready_ok (hC.a1.bump _) hC.fr.bump hC.ox.gx) λu M5 hN5=>?_
     have hN5:=hN5.of_bump
     have hC5:=hC.nx hN5.nx
     have nM5:=hC5.gr.1
     have hb5:=hN5.nx.keep hC.fr hb
     have hRl:(pidsX X (rdyB X)).length<=32:=by unfold pidsX;rw[lM];have:=List.length_filter_le (rdyB X) X.l;have:=hC.ox.gx.ln;omega
     have hlR:∀M,lenA EE.P 41 u M=some (In (pidsX X (rdyB X)).length):=λM=>hN5.sl.lenA und_41
     by_cases hR0:(pidsX X (rdyB X)).length=0
     ·have z0:decide (((pidsX X (rdyB X)).length:Int)=0)=true:=decide_eq_true (by omega)
      simp only[XX,XY,F4,yA,yB,yC,nM5,hlR,z0,roundQ_exit,lA]
      exact⟨Grow.tr hC5.gr (Nx.grow' ((Nx.refl hC5.fr).bump _)),rfl⟩
     ·have z0:decide (((pidsX X (rdyB X)).length:Int)=0)=false:=decide_eq_false (by omega)
      obtain⟨R,hRE⟩:∃R,R=pidsX X (rdyB X):=⟨_,rfl⟩
      rw[<-hRE] at hR0 z0 hlR hRl hN5
      have hk0:((R.length:Nat):Int)≠0:=by omega
      have b1:=Int.tmod_lt_of_pos o.n (show(0:Int)<(R.length:Int) by omega)
      have b2:=Int.lt_tmod_of_pos o.n (show(0:Int)<(R.length:Int) by omega)
      have hr1:∀ty (x:Int),binV EE.P .rem ty (In x) (In (R.length:Int))=some (In (x.tmod (R.length:Int))):=λty x=>bin_rem hk0
      have hw2:IntKind.i64.wrap (o.n.tmod (R.length:Int)+(R.length:Int))=o.n.tmod (R.length:Int)+(R.length:Int):=wrap_i64 (by omega) (by omega)
      have c1:=Int.tmod_lt_of_pos (o.n.tmod (R.length:Int)+(R.length:Int)) (show(0:Int)<(R.length:Int) by omega)
      have c2:=Int.tmod_nonneg (R.length:Int) (show 0<=o.n.tmod (R.length:Int)+(R.length:Int) by omega)
      have hr2:=hr1 3 (o.n.tmod (R.length:Int)+(R.length:Int))
      have hr3:=hr1 3 o.n
      generalize(o.n.tmod (R.length:Int)+(R.length:Int)).tmod (R.length:Int)=p at c1 c2 hr2
      obtain⟨bq,cq,csq,efv,k1,k2,k3,k4⟩:=hN5.sl.cons (by omega)
      have hq:csq.nth p.toNat=some (In (R.getD p.toNat 0)):=by
       have hql:p.toNat<R.length:=by omega
       rw[nth_lt (by omega),k4 p.toNat (by rw[lM];exact hql),gD',gM',gD',gE' hql];rfl
      obtain⟨pid,hpid⟩:∃x,x=R.getD p.toNat 0:=⟨_,rfl⟩
      rw[<-hpid] at hq
      subst efv
      simp only[XX,XY,F4,yA,yB,yC,nM5,hlR,z0,g1,g2,hb5,s2,hr2,hr3,hw2,c1,c2,k1,hq,lA]
      refine cZ (by rw[<-hC5.e1];exact cpu_ok (hC5.a1.bump _) hC5.ox.gx) ?_
      have hcok:(cpuX X pid).ok:=by
       unfold cpuX
       cases hl:liveX X pid with
       |none=>exact cpu0_ok
       |some i=>obtain⟨cs,h1,h2⟩:=hC5.a1.pr i (hC5.a1.pi i (live_mem hl));exact h2.okc
      have l11:=cpuL_len hcok
      have o11:= @cpuL_one
      have p10:=λc hc=>(@cpu_at c (cpuX X pid) hc hcok).1
      simp only[XX,XY,F4,yA,yB,yC,nM5,l11,o11,p10,lA]
      refine CallI.gen (λM=>Nx M5 M∧∃cs,M.get (M5.next+27)=some (.cells cs true 0)∧cs.nth 0=some (Um ((cpuX X pid).r.getD 0 0#32))∧cs.n=11) ⟨?_,_,gA,(cpu_at rfl hcok).2,rfl⟩ λM6 hM6=>?_
      ·have hm:=hC5.fr
       exact⟨by(try simp only[bN,nP]);omega,Fresh.of_low (by have:=hm.n64;(try simp only[bN,nP]);omega) (by repeat(first|exact Low.of hm nO|refine Low.put ?_ nO|refine Low.bump ?_)),λy hy=>by simp only[gB,gP,ne_new hy,if_false]⟩
      obtain⟨hN6,cc,hcc,hc0,hcn⟩:=hM6
      have hC6:=hC5.nx hN6
      have nM6:=hC6.gr.1
      refine cZ (by rw[<-hC6.e1];exact word_ok hC6.a1 hC6.ox.gx) ?_
      obtain⟨wv,hwv⟩:∃x,x=wordP X pid (cpuX X pid).pc:=⟨_,rfl⟩
      rw[<-hwv]
      cases hlv:(liveX X pid).isSome with
      |false=>
       simp only[XX,XY,F4,yA,yB,yC,nM6,roundQ_exit,lA]
       exact⟨Grow.tr hC6.gr (Nx.grow' ((Nx.refl hC6.fr).bump _)),rfl⟩
      |true=>
       have sh24:∀x:BitVec 32,binV EE.P .shr 36 (Um x) (.int .u64 24)=some (Um (x>>>24)):=λx=>uu_shr (k:=24) (by decide)
       have i0:(0:Int)<=0:=by decide
       have i1:(0:Int)<((8:Nat):Int):=by decide
       have i2:Int.toNat 0=0:=rfl
       have hcp:∀i,liveX X pid=some i->cpuX X pid=(X.p i).cpu:=λi hi=>by unfold cpuX;rw[hi]
       have hkey:∀i w,liveX X pid=some i->wordX X i (X.p i).cpu.pc=some w->wv=some w:=λi w hi hw=>by
        rw[hwv,hcp i hi];exact wordP_of hi hw
       by_cases c0:((cpuX X pid).r.getD 0 0#32).toNat=21
       case' neg=>
        have hna:∀i,liveX X pid=some i->noAff X i:=λi hi w _ _=>by rw[<-hcp i hi];exact c0
        have d0:=decide_eq_false (show¬(((((cpuX X pid).r.getD 0 0#32).toNat:Nat):Int)=21) by omega)
        simp only[XX,XY,F4,yA,yB,yC,nM6,hcc,hc0,i0,i1,i2,d0,lA]
       case' pos=>
        have d0:=decide_eq_true (show((((cpuX X pid).r.getD 0 0#32).toNat:Nat):Int)=21 by omega)
        by_cases c1:((wv.getD 0#32)>>>24).toNat=24
        case pos=>
         have d1:=decide_eq_true (show((((wv.getD 0#32)>>>24).toNat:Nat):Int)=24 by omega)
         simp only[XX,XY,F4,yA,yB,yC,nM6,hcc,hc0,sh24,i0,i1,i2,d0,d1,roundQ_exit,lA]
         exact⟨Grow.tr hC6.gr (Nx.grow' ((Nx.refl hC6.fr).bump _)),rfl⟩
        case' neg=>
         have hna:∀i,liveX X pid=some i->noAff X i:=λi hi w hw h24=>by
          have:=hkey i w hi hw
          rw[this] at c1
          exact absurd h24 c1
         have d1:=decide_eq_false (show¬(((((wv.getD 0#32)>>>24).toNat:Nat):Int)=24) by omega)
         simp only[XX,XY,F4,yA,yB,yC,nM6,hcc,hc0,sh24,i0,i1,i2,d0,d1,lA]
       all_goals
        refine cX ((hC6.nx ((Nx.refl hC6.fr).bump _)).run (pid:=pid) (by omega)) λu M7 h7=>?_
        obtain⟨v7,L5,rfl,l7,b7,nd7,hC7,n7,k7⟩:=h7
        have nM7:=hC7.gr.1
        simp only[XX,XY,F4,yA,yB,yC,nM7]
        refine cX ((hC7.nx ((Nx.refl hC7.fr).bump _)).swap.run (pid:=pid) (by omega)) λu M8 h8=>?_
        obtain⟨v8,L6,hu8,l8,b8,nd8,hC8',n8,k8⟩:=h8
        obtain⟨es,ee,ex⟩:=two_runs hE hna
        rw[<-ee] at hu8
        subst hu8
        rw[<-es] at l8
        have hC8:=hC8'.swap
        have nM8:=hC8.gr.1
        have l7':SlV M8 4 v7 _ _:=l7.keep λy o hy e=>k8 y o e (nd7 y hy)
        have erm:roomX (runR Y pid).X=roomX (runR X pid).X:=by rw[<-e_room,<-ex,e_room]
        have hrm2:∀j,Con EE.P 19 [PT L2.f] (M8.bump j) (.agg ((roomX (runR X pid).X).map In).toArray) (M8.bump j):=λj=>by rw[<-erm,<-hC8.e2];exact room_ok (hC8.a2.bump _) hC8.oy.gx
        have dee:decide ((runR X pid).e=(runR X pid).e)=true:=decide_eq_true rfl
        simp only[XX,XY,F4,yA,yB,yC,nM8]
        refine cZ (seen_ok (l7'.bump _) (l8.bump _) (by omega)) ?_
        simp only[XX,XY,F4,yA,yB]
        refine CallI.con (by rw[<-hC8.e1];exact room_ok (hC8.a1.bump _) hC8.ox.gx) (by simp) ?_
        simp only[XX,XY,F4,yA,yB]
        refine CallI.con (hrm2 _) (λc hc e1 e2=>?_) ?_
        ·simp only[List.mem_cons,List.not_mem_nil,or_false] at hc
         rcases hc with rfl|rfl
         ·exact⟨rfl,e2⟩
         ·cases e1
        have q2:=λa0 a1 a2 a3 xo yo m=> @neq_room m a0 a1 a2 a3 xo yo
        unfold roomX
        simp only[XX,XY,F4,yA,yB,yC,nM8,q2,hw,roundQ_normal,lA]
        exact⟨l.length-(k+1),_,_,by omega,vT (l':=[(59,In ((k+1:Nat):Int)),(58,In l.length),(11,PT L2.f),(9,PT L1.f),(7, .bool true),(2, .slice (some ⟨bw,0,none⟩) l.length Cw)]) ⟨rfl,rfl,rfl,rfl,rfl,rfl,trivial⟩,k+1,by omega,rfl,rfl,_,_,_,_,hC8.nx ((Nx.refl hC8.fr).bump _),ex⟩
    ·obtain rfl:k=l.length:=by omega
     have g1:¬((l.length:Nat):Int)<(l.length:Int):=by omega
     simp only[XX,XY,F4,yA,yB,yC,g1,nM,roundQ_exit,lA]
     exact⟨Grow.tr hC.gr (Nx.grow' ((Nx.refl hC.fr).bump _)),rfl⟩
   ·refine cZ (new_no (b:=c) (by rw[hcp];exact hp.nx hm (hN23.bump _)) hmay2 (by rw[hcp];exact hlen.1)) ?_
    simp only[XX,XY,F4,yA,yB,yC,yH,n3,lA]
    exact⟨Nx.grow' (hN23.bump _),rfl⟩
  ·refine cZ (new_no (hp.nx hm hN2) hmay hlen.1) ?_
   simp only[XX,XY,F4,yA,yB,yC,n2,hcb,hcs]
   by_cases hmay2:mayB c
   ·refine cX (new_ok (b:=c) (by rw[hcp];exact hp.nx hm (hN2.bump _)) hN2.fresh.bump hmay2) λu M4 hM4=>?_
    obtain⟨L2,rfl,hA2,hN4,hD2,hG2⟩:=hM4
    have hN4:=hN4.of_bump
    have hN24:=hN2.trans hN4
    have n4:=hN24.next
    simp only[XX,XY,F4,yA,yB,yC,yH,n4,lA]
    exact⟨Nx.grow' (hN24.bump _),rfl⟩
   ·refine cZ (new_no (b:=c) (by rw[hcp];exact hp.nx hm (hN2.bump _)) hmay2 (by rw[hcp];exact hlen.1)) ?_
    simp only[XX,XY,F4,yA,yB,yC,yH,n2,lA]
    exact⟨Nx.grow' (hN2.bump _),rfl⟩
end
end
end Go.Ab
