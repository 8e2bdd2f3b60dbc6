/- Part. -/
import Derived.Test.YtdhcheegbnnlbaaGreatDoorA15
set_option linter.all false
open Go.Ab.Mem renaming next_bump → bN, next_put → nP, get_bump → gB, get_put → gP
open Nat renaming le_of_ble_eq_true → bA, le_add_right_of_le → lA, lt_of_lt_of_le → lL, le_refl → lR'
open List renaming getD_eq_getElem?_getD → gD', getElem?_eq_getElem → gE', length_append → aL, getElem?_map → gM', length_map → lM, length_set → sL
open Bool renaming false_eq_true → bF
open Go.Ab.CallI renaming ex2 → cX, con0 → cZ
open Go.Ab.TidyE renaming pure → tP
open Go.Ab.Cells renaming ofList → ofL
open Go.Ab.View renaming temps → vT
open Go.Ab.Be renaming trans → bE
open Nat renaming reduceLT → yA, reduceEqDiff → yB, reduceAdd → yC, reduceMul → yD, reduceSub → yE, reducePow → yF, reduceLeDiff → yG
open Int renaming reduceEq → yH, reduceLT → yI, reduceLE → yJ
namespace Go.Ab
open Go.Proofs
noncomputable section
set_option maxHeartbeats 4000000
set_option maxRecDepth 10000
section
variable{m m' M mr:Mem}{n:Nat}{L L' L1 L2:Loc}{X X' X1 X2 Y:St}{v:Value}{fl:List Value}{pid:Int}
def wcB(X:St)(i k:Nat):Bool:=decide ((X.p k).parent=(X.p i).pid)
def wzB(X:St)(i k:Nat):Bool:=decide ((X.p k).parent=(X.p i).pid)&&decide ((X.p k).state=2)
theorem wc_t(h:FAt m L X){i j b z:Nat}(hi:i<X.P.length)(hj:j<X.P.length)(hb:m.get b=some (.cells (ofL [PT (L.p i)]) true z)):Con EE.P 238 [PT (L.p j),PT b] m (.bool (wcB X i j)) m:=by
 refine Con.of EE_ok fn238 (bA rfl) Grow.rfl λhm=>?_
 obtain⟨c1,h1,h2⟩:=h.pr i hi
 obtain⟨c2,h3,h4⟩:=h.pr j hj
 simp only[XX,XY,F238,yA,yB,yC,h1,h3,hb,h2.pid,h4.parent]
 exact tP rfl λ_ _=>rfl
theorem wz_t(h:FAt m L X){i j b z:Nat}(hi:i<X.P.length)(hj:j<X.P.length)(hb:m.get b=some (.cells (ofL [PT (L.p i)]) true z)):Con EE.P 236 [PT (L.p j),PT b] m (.bool (wzB X i j)) m:=by
 refine Con.of EE_ok fn236 (bA rfl) Grow.rfl λhm=>?_
 obtain⟨c1,h1,h2⟩:=h.pr i hi
 obtain⟨c2,h3,h4⟩:=h.pr j hj
 unfold wzB
 cases hd:decide ((X.p j).parent=(X.p i).pid) with
 |true=>
  simp only[XX,XY,F236,yA,yB,yC,h1,h3,hb,h2.pid,h4.parent,h4.state,hd]
  exact tP rfl λ_ _=>rfl
 |false=>
  simp only[XX,XY,F236,yA,yB,yC,h1,h3,hb,h2.pid,h4.parent,hd,Bool.false_and]
  exact tP rfl λ_ _=>rfl
def wcI(X:St)(i:Nat):Int:=firstIx (λk=>wcB X i (X.l.getD k 0)) X.l.length
def wzI(X:St)(i:Nat):Int:=firstIx (λk=>wzB X i (X.l.getD k 0)) X.l.length
theorem contains_ok(h:FAt m L X)(hg:GX X){i b z:Nat}(hi:i<X.P.length)(hb:m.get b=some (.cells (ofL [PT (L.p i)]) true z)):Con EE.P 237 [L.lv, .func (.func 238) #[] #[PT b]] m (.bool (decide (0<=wcI X i))) m:=by
 refine Con.of EE_ok fn237 (bA rfl) Grow.rfl λhm=>?_
 simp only[XX,XY,F237,yA,yB,yC]
 refine cZ (index_ok (p:=λk=>wcB X i (X.l.getD k 0)) (g:=238) (cap:=[PT b]) (h.ls.bump _) (by simp) (by have:=hg.ln;omega) kr λk j hk=>?_) ?_
 ·rw[PT_lv h hk,bump_bump]
  exact wc_t (h.bump _) hi (h.lk hk) (by rw[gB];exact hb)
 ·have e:firstIx (λk=>wcB X i (X.l.getD k 0)) X.l.length=wcI X i:=rfl
  rw[e]
  simp only[XX,XY,yA,yB]
  exact tP rfl λ_ _=>rfl
def waitB(W:St×Int)(i k:Nat):St:=if W.2=0 then answerX {W.1 with l:=W.1.l.take k++W.1.l.drop (k+1)} i (BitVec.ofInt 32 (W.1.p (W.1.l.getD k 0)).pid) else codeX W.1 i W.2
def waitX(X:St)(i:Nat)(a:BitVec 32):St:=if wcI X i<0 then codeX X i 10 else if wzI X i<0 then{X with P:=X.P.set i {X.p i with wait:=1}} else
 waitB (if a=0#32 then(X,0) else writeX X i a (wordB (X.p (X.l.getD (wzI X i).toNat 0)).status)) i (wzI X i).toNat
theorem head_ok{P:Program}{ty e b c k n:Nat}{cs:Cells}{M:Mem}(hu:P.underlying ty=some (.slice e))(hz:szOf P e=some 1)(hb:M.get b=some (.cells cs true 1))(hcs:cs.n=c)(hnc:n<=c)(hg:∀x,x<fl.length->cs.get x=fl.getD x undef)(hl:fl.length=n)(hk:k<=n):
  sliceA P ty (.slice (some ⟨b,0,none⟩) n c) none (some (In k))=some (.slice (some ⟨b,0,none⟩) k c)∧srcA 1 (.slice (some ⟨b,0,none⟩) k c) M=some (fl.take k,(fl.take k).length):=by
 refine⟨?_,?_⟩
 ·rw[slice_hi hu hz (by omega) (by rw[Int.toNat_natCast];omega),Int.toNat_natCast]
 ·have hlt:(fl.take k).length=k:=by rw[List.length_take];omega
  rw[src_at,hb,srcC_cells,hlt]
  have:cs.sub 0 (k*1)=some (fl.take k):=sub_ext (by rw[hlt,Nat.mul_one]) (by omega) λx hx=>by
   rw[Nat.zero_add,hg x (by omega),gD',gD',List.getElem?_take_of_lt (by omega)]
  rw[this];rfl
theorem tail_ok{P:Program}{ty e b c k n:Nat}{cs:Cells}{M:Mem}(hu:P.underlying ty=some (.slice e))(hz:szOf P e=some 1)(hb:M.get b=some (.cells cs true 1))(hcs:cs.n=c)(hnc:n<=c)(hg:∀x,x<fl.length->cs.get x=fl.getD x undef)(hl:fl.length=n)(hk:k<=n)(hc0:¬k=0):
  ∃p c',sliceA P ty (.slice (some ⟨b,0,none⟩) n c) (some (In k)) none=some (.slice (some p) (n-k) c')∧srcA 1 (.slice (some p) (n-k) c') M=some (fl.drop k,(fl.drop k).length)∧(p.block=b∨p.block=0):=by
 have hld:(fl.drop k).length=n-k:=by rw[List.length_drop];omega
 by_cases hkc:k<c
 ·refine⟨⟨b,0+k*1,none⟩,c-k,?_,?_, .inl rfl⟩
  ·rw[slice_lo hu hz (by omega) (by rw[Int.toNat_natCast];omega) (by rw[Int.toNat_natCast];omega) hnc,Int.toNat_natCast]
  ·rw[src_at,hb,srcC_cells,hld]
   have:cs.sub (0+k*1) ((n-k)*1)=some (fl.drop k):=sub_ext (by rw[hld,Nat.mul_one]) (by omega) λx hx=>by
    rw[Nat.mul_one] at hx
    rw[Nat.zero_add,Nat.mul_one,hg (k+x) (by omega),gD',gD',List.getElem?_drop]
   rw[this];rfl
 ·obtain rfl:k=n:=by omega
  obtain rfl:c=k:=by omega
  refine⟨⟨0,0,some 0⟩,0,?_,?_, .inr rfl⟩
  ·rw[Nat.sub_self]
   have h0:fl.length≠0∨fl.length=0:=by omega
   unfold sliceA
   have e1:bndA none c c=some c:=by simp[bndA]
   have e2:bndA (some (In c)) c 0=some c:=by
    simp only[bndA]
    rw[if_pos (by omega),Int.toNat_natCast]
   simp only[hu,e1,e2,hz]
   rw[if_neg hc0,if_neg (by omega),if_pos trivial]
  ·rw[Nat.sub_self,List.drop_of_length_le (by omega)];rfl
theorem bs405{p1 p2:Option Addr}{n1 c1 n2 c2:Nat}:bsV EE.P 405 2 [(0, .slice p1 n1 c1),(1, .slice p2 n2 c2)]=some ([.slice p1 n1 c1, .slice p2 n2 c2],1):=kr
theorem writeX_l{i:Nat}{a:BitVec 32}{l:List (BitVec 8)}:(writeX X i a l).1.l=X.l:=by
 unfold writeX
 split
 ·rfl
 ·split
  ·rfl
  ·exact putsX_P.2.2.2.1
theorem writeX_P{i:Nat}{a:BitVec 32}{l:List (BitVec 8)}:(writeX X i a l).1.P.length=X.P.length:=by
 unfold writeX
 split
 ·rfl
 ·split
  ·rfl
  ·exact congrArg List.length putsX_P.1
theorem wait_ok(h:FAt m L X)(hm:Fresh m)(ht:Tb m)(hg:GX X){i:Nat}(hi:i<X.P.length)(hs:X.seen.length<99990){a:BitVec 32}:∃u m',Con EE.P 190 [PT (L.p i),Um a] m u m'∧Be m L (waitX X i a) m':=by
 refine Con.raw EE_ok fn190 (bA rfl) _ ?_
 obtain⟨cs,h1,h2⟩:=h.pr i hi
 obtain⟨cf,f1,f2⟩:=h.fl
 have hlt:=h.ids_lt (h.mp hi)
 have hltf:=h.ids_lt h.mf
 have ne0:¬L.p i=m.next:=by omega
 have ne1:¬L.f=m.next:=by omega
 have hDb:¬L.D m.next:=λe=>by have:=h.lt _ e;omega
 simp only[XX,XY,F190,yA,yB,yC,h1,h2.f,f1,f2.lv,ne0,ne1]
 refine CallI.gen (λM=>FAt M L X∧Nx m M∧M.get m.next=some (.cells (ofL [PT (L.p i)]) true 0)∧m.next<M.next∧M.get (L.p i)=some (.cells cs true 0)∧M.get L.f=some (.cells cf true 0)) ⟨(h.new' (j:=0)).bump _,⟨by(try simp only[bN,nP]);omega,Fresh.of_low (by have:=hm.n64;(try simp only[bN,nP]);omega) (by repeat(first|exact Low.of hm nO|refine Low.put ?_ nO|refine Low.bump ?_)),λy hy=>by simp only[gB,gP,ne_new0 hy,if_false]⟩,gA,nO,by(simp only[gB,gP];repeat(first|rw[if_neg (by omega)]|rw[if_pos trivial]|rw[if_pos (by omega)]));exact h1,by(simp only[gB,gP];repeat(first|rw[if_neg (by omega)]|rw[if_pos trivial]|rw[if_pos (by omega)]));exact f1⟩ λM0 hM0=>?_
 obtain⟨hA0,hN0,hb0,hl0,p1,p2⟩:=hM0
 have hF0:=hN0.fresh
 have ht0:Tb M0:=ht.nx hm hN0
 have hbx:∀{X':St} {M:Mem},Be M0 L X' M->M.get m.next=some (.cells (ofL [PT (L.p i)]) true 0)∧m.next<=M.next:=λhB=>⟨(hB.old hl0 hDb).trans hb0,by have:=hB.next;omega⟩
 have n0:m.next<=M0.next:=by omega
 have hln:=hg.ln
 refine cZ (index_ok (p:=λk=>wzB X i (X.l.getD k 0)) (g:=236) (cap:=[PT m.next]) hA0.ls (by simp) (by omega) kr λk j hk=>?_) ?_
 ·rw[PT_lv hA0 hk]
  exact wz_t (hA0.bump _) hi (hA0.lk hk) (by rw[gB];exact hb0)
 have ez:firstIx (λk=>wzB X i (X.l.getD k 0)) X.l.length=wzI X i:=rfl
 rw[ez]
 simp only[XX,XY,F190,yA,yB,yC,p2,f2.lv,n0]
 refine cZ (contains_ok (hA0.bump _) hg hi (by rw[gB];exact hb0)) ?_
 by_cases hc:wcI X i<0
 ·have d1:=decide_eq_false (show¬0<=wcI X i by omega)
  have e:waitX X i a=codeX X i 10:=by unfold waitX;rw[if_pos hc]
  rw[e]
  simp only[XX,XY,F190,yA,yB,yC,hb0,n0,d1,lA]
  refine cX (code_okk (hA0.bump _) hF0.bump (ht0.bump _) hi (Nat.lt_trans hs (by decide))) λu M1 hB=>?_
  have hB:=hB.of_bump
  have nx:=hB.next
  have nx2:m.next<=M1.next:=by omega
  simp only[XX,yA]
  exact(bE Lx.refl (Fd.of_nx hN0) hB).raw
 have d1:=decide_eq_true (show 0<=wcI X i by omega)
 by_cases hz:wzI X i<0
 ·have d2:=decide_eq_true hz
  have e:waitX X i a={X with P:=X.P.set i {X.p i with wait:=1}}:=by unfold waitX;rw[if_neg hc,if_pos hz]
  have k1:46+1<=cs.n:=by rw[h2.n];decide
  have hp:=h2.w_wait (x:=1)
  rw[e]
  simp only[XX,XY,F190,yA,yB,yC,hb0,p1,n0,d1,d2,k1,lA]
  exact(bE Lx.refl (Fd.of_nx hN0) ((hA0.be_p hF0 hi hp).bump _)).raw
 have d2:=decide_eq_false hz
 have hzc:=firstIx_cases (λk=>wzB X i (X.l.getD k 0)) X.l.length
 rw[ez] at hzc
 obtain⟨k,hk,_,_,ek⟩:=hzc.resolve_right (λe=>hz (by rw[e.2];decide))
 have e:waitX X i a=waitB (if a=0#32 then(X,0) else writeX X i a (wordB (X.p (X.l.getD k 0)).status)) i k:=by unfold waitX;rw[if_neg hc,if_neg hz,ek,Int.toNat_natCast]
 rw[e]
 rw[ek] at d2⊢
 have g1:(k:Int)<(X.l.length:Int):=by omega
 have g2:(0:Int)<=(k:Int):=by omega
 obtain⟨bl,cl,cls,elv,k1,k2,k3,k4⟩:=hA0.ls.cons (by omega)
 have hq:cls.nth k=some (PT (L.p (X.l.getD k 0))):=by rw[nth_lt (by omega),k4 k (by simp;omega),PT_lv h hk]
 have hck:=h.lk hk
 obtain⟨cc,c1,c2⟩:=hA0.pr _ hck
 have hlv:=f2.lv
 rw[elv] at hlv
 by_cases ha:a=0#32
 ·subst ha
  have d3:decide (((0#32:BitVec 32).toNat:Int)=0)=true:=rfl
  rw[if_pos rfl]
  have lW:X.l=X.l:=rfl
  have hPW:X.P.length=X.P.length:=rfl
  have hiw:i<X.P.length:=by omega
  have hckw:X.l.getD k 0<X.P.length:=by omega
  have eiw:L.p i=L.p i:=(Lx.refl:Lx M0.next L L).p (by rw[h.lP];exact hi)
  have ekw:L.p (X.l.getD k 0)=L.p (X.l.getD k 0):=(Lx.refl:Lx M0.next L L).p (by rw[h.lP];exact hck)
  have efw:L.f=L.f:=(Lx.refl:Lx M0.next L L).f
  obtain⟨cfw,w1,w2⟩:=hA0.fl
  obtain⟨cpw,w3,w4⟩:=hA0.pr _ hckw
  have hkw:k<X.l.length:=by rw[lW];exact hk
  obtain⟨bw2,cw2,csw,elw,z1,z2,z3,z4⟩:=hA0.ls.cons (by omega)
  have w5:=w2.lv
  rw[elw] at w5
  have w1':=w1
  rw[efw] at w1
  rw[ekw] at w3
  have bw:M0.get m.next=some (.cells (ofL [PT (L.p i)]) true 0):=hb0
  have nw:m.next<=M0.next:=n0
  have hFw:Fresh M0:=hF0
  have htw:Tb M0:=ht0
  obtain⟨hh1,hh2⟩:=head_ok (P:=EE.P) und_67 sz_70 z1 (by omega) z3 z4 (by simp) (Nat.le_of_lt hkw)
  obtain⟨pt,ct,tt1,tt2,tt3⟩:=tail_ok (P:=EE.P) (k:=k+1) und_67 sz_70 z1 (by omega) z3 z4 (by simp) hkw (by omega)
  have hwk:IntKind.i64.wrap ((k:Int)+1)=((k+1:Nat):Int):=by rw[wrap_i64 (by omega) (by omega)];omega
  have hqw:csw.nth k=some (PT (L.p (X.l.getD k 0))):=by rw[nth_lt (by omega),z4 k (by simp;omega),PT_lv hA0 hkw]
  have hbw:=hFw.lt z1
  rw[elw] at elv
  injection elv with elv1 _ elv3
  injection elv1 with elv1
  injection elv1 with elv1
  subst elv1 elv3
  simp only[XX,XY,F190,yA,yB,yC,n0,d1,d2,d3,g1,g2,z1,hqw,w1,w5,hh1,tt1,hwk,bs405,lA]
  have hN3:∀(M:Mem) (hm:Fresh M) (o:AObj),Nx M ((M.put (M.next+35) o).bump 40):=λM hm o=>⟨by(try simp only[bN,nP]);omega,Fresh.of_low (by have:=hm.n64;(try simp only[bN,nP]);omega) (by repeat(first|exact Low.of hm nO|refine Low.put ?_ nO|refine Low.bump ?_)),λy hy=>by simp only[gB,gP,ne_new hy,if_false]⟩
  have hNc:=hN3 M0 hFw (.cells (ofL [.slice (some ⟨bw2,0,none⟩) k cw2, .slice (some pt) (X.l.length-(k+1)) ct]) true 1)
  have hbw2:bw2<M0.next:=hbw
  have h64w:=hFw.n64
  have hl1:((X.l.map λi=>PT (L.p i)).take k).length=k:=by rw[List.length_take,lM];omega
  have hl2:((X.l.map λi=>PT (L.p i)).drop (k+1)).length=X.l.length-(k+1):=by rw[List.length_drop,lM]
  have hone:∀x∈X.l.map (λi=>PT (L.p i)),oneCell x=true:=λx hx=>by obtain⟨j,_,rfl⟩:=List.mem_map.1 hx;rfl
  have hNl:X.l.length<100:=by rw[lW];omega
  refine cX (concat_growP hNc.fresh (b0:=M0.next+35) (by rw[gB,gP,if_pos rfl]) rfl rfl ((src_congr λy hy=>hNc.old y (by have e:bw2=y:=Option.some.inj hy;omega)).trans hh2) ((src_congr λy hy=>hNc.old y (by have e:pt.block=y:=Option.some.inj hy;omega)).trans tt2) (λM=>by rw[len_sl sl_67,hl1]) (λM=>by rw[len_sl sl_67,hl2]) (List.all_eq_true.2 λx hx=>hone x (List.mem_of_mem_take hx)) (List.all_eq_true.2 λx hx=>hone x (List.mem_of_mem_drop hx)) (by rw[hl1,hl2];omega) (λy hy=>by have e:bw2=y:=Option.some.inj hy;have:=hNc.next;omega) (λy hy=>by have e:pt.block=y:=Option.some.inj hy;have:=hNc.next;omega)) λu3 M3 hC=>?_
  have hNC:=hNc.trans hC.nx
  have nC:=hNC.next
  obtain⟨S',hS'⟩:∃S',S'=X.l.take k++X.l.drop (k+1):=⟨_,rfl⟩
  have hsl3:SlV M3 1 u3 S'.length (S'.map λi=>PT (L.p i)):=by
   have h3:=hC.sl
   have e1:(X.l.map λi=>PT (L.p i)).take k++(X.l.map λi=>PT (L.p i)).drop (k+1)=S'.map λi=>PT (L.p i):=by rw[hS',List.map_append,List.map_take,List.map_drop]
   have e2:((X.l.map λi=>PT (L.p i)).take k).length+((X.l.map λi=>PT (L.p i)).drop (k+1)).length=S'.length:=by rw[<-aL,e1,lM]
   rw[e1,e2] at h3
   exact h3
  have q1:=hNC.keep hFw w1
  have q2:=hNC.keep hFw bw
  have q3:=hNC.keep hFw w3
  have k5:5+1<=cfw.n:=by rw[w2.n];decide
  obtain⟨id,hid1,hid2⟩:∃id,(M0.next<=id∧id<M3.next)∧(slB u3=some id∨slB u3=none):=by
   cases hu:slB u3 with
   |none=>exact⟨M0.next,⟨lR' _,by have:=hNc.next;have:=hC.nx.next;simp only[bN,nP] at*;omega⟩, .inr rfl⟩
   |some y=>exact⟨y,⟨by have:=hC.new y hu;have:=hNc.next;omega,hC.sl.lt hC.nx.fresh hu⟩, .inl rfl⟩
  have hres:=hA0.set_lv (M:=M3) (v':=u3) (id:=id) (S:=S') w1' w2 nC hid1 h64w (λy hy _=>hNC.old y hy) hsl3 (λj hj=>by
   rw[hS'] at hj
   rcases List.mem_append.1 hj with hj|hj
   ·exact hA0.pi j (List.mem_of_mem_take hj)
   ·exact hA0.pi j (List.mem_of_mem_drop hj)) (hid2.elim (λe=> .inr (.inl e)) λe=> .inr (.inr e))
  have hF5:Fd L.D M0 (M3.put L.f (.cells (cfw.write 5 [u3]) true 0)):=(Fd.of_nx hNC).put (.inl (hA0.dm _ hA0.mf)) hA0.lt (.inl (by rw[efw,q1];simp))
  have hx5:Lx M0.next L {L with f:=L.f,lv:=u3,D:=λy=>L.D y∨y=id}:=⟨efw.symm,⟨[],by simp⟩,⟨[],by simp⟩,⟨[],by simp⟩,⟨[],by simp⟩,⟨[],by simp⟩,λy hy=>hy.imp _root_.id λe=>by omega⟩
  rw[efw] at hres hF5
  have n9:m.next<=M3.next:=by omega
  have nbf:¬m.next=L.f:=λe=>ne1 e.symm
  have ncf:¬L.p (X.l.getD k 0)=L.f:=λe=>h.f_p hck e.symm
  have htM:Tb M3:=htw.nx hFw hNC
  have eB:waitB (X,0) i k=answerX {X with l:=S'} i (BitVec.ofInt 32 (X.p (X.l.getD k 0)).pid):=by unfold waitB;rw[if_pos rfl,hS']
  rw[eB]
  rcases hC.sl.at_ with⟨_,rfl⟩|⟨b9,c9,cs9,rfl,_⟩
  all_goals
   simp only[XX,XY,F190,yA,yB,yC,q1,q2,q3,k5,n9,nbf,ncf,w4.pid,conv_pid]
   refine cX (by rw[<-eiw];exact answer_ok (L:={L with f:=L.f,lv:=_,D:=λy=>L.D y∨y=id}) (X:={X with l:=S'}) (i:=i) (hres.bump _) hF5.fresh.bump ((htM.put (h.d64 _ (h.dm _ h.mf))).bump _) hiw (show X.seen.length<100000 by omega)) λu M9 hB9=>?_
   have hB9:=hB9.of_bump
   have n10:=hB9.next
   rw[nP] at n10
   have n11:m.next<=M9.next:=by omega
   simp only[XX,yA]
   exact(bE Lx.refl (Fd.of_nx hN0) (bE (Lx.refl:Lx M0.next L L) (Fd.refl hF0:Fd L.D M0 M0) (bE hx5 hF5 hB9))).raw
 ·have d3:decide ((a.toNat:Int)=0)=false:=decide_eq_false λe=>ha (BitVec.eq_of_toNat_eq (by simpa using e))
  rw[if_neg ha]
  simp only[XX,XY,F190,yA,yB,yC,p2,hlv,n0,d1,d2,d3,g1,g2,k1,hq,c1,c2.status,bs22,lA]
  have hN1:∀(M:Mem) (hm:Fresh M) (o:AObj),Nx M ((M.put (M.next+27) o).bump 31):=λM hm o=>⟨by(try simp only[bN,nP]);omega,Fresh.of_low (by have:=hm.n64;(try simp only[bN,nP]);omega) (by repeat(first|exact Low.of hm nO|refine Low.put ?_ nO|refine Low.bump ?_)),λy hy=>by simp only[gB,gP,ne_new hy,if_false]⟩
  refine cX (words_ok (hN1 M0 hF0 _).fresh (ws:=[(X.p (X.l.getD k 0)).status]) (SlV.one rfl) (by decide)) λu1 M1 hW1=>?_
  have hN01:=(hN1 M0 hF0 _).trans hW1.nx
  have nx1:=hN01.next
  have hsl:=hW1.sl
  have hwl:([(X.p (X.l.getD k 0)).status].flatMap wordB)=wordB (X.p (X.l.getD k 0)).status:=by simp
  rw[hwl] at hsl
  have hb1:=hN01.keep hF0 hb0
  have n1:m.next<=M1.next:=by omega
  have nbk:∀k,¬m.next=M0.next+k:=λk=>by omega
  have lck:=hA0.ids_lt (hA0.mp hck)
  have nck:∀q,¬L.p (X.l.getD k 0)=M0.next+q:=λq=>by omega
  simp only[XX,XY,F190,yA,yB,hb1,nbk,hb0,eqvP]
  refine CallI.ex2L (write_ok (hA0.nx hN01) hN01.fresh hg hi (a:=a) (l:=wordB (X.p (X.l.getD k 0)).status) hsl (show(wordB (X.p (X.l.getD k 0)).status).length<100000 from(by decide:4<100000))) (by simp) λu2 M2 hW2=>?_
  obtain⟨rfl,hB2⟩:=hW2
  have hBW:Be M0 L (writeX X i a (wordB (X.p (X.l.getD k 0)).status)).1 M2:=bE Lx.refl (Fd.of_nx hN01) hB2
  have hSW:=Sh.write (a:=a) (l:=wordB (X.p (X.l.getD k 0)).status) hg hi
  have hWl:(writeX X i a (wordB (X.p (X.l.getD k 0)).status)).1.l=X.l:=writeX_l
  have hWP:(writeX X i a (wordB (X.p (X.l.getD k 0)).status)).1.P.length=X.P.length:=writeX_P
  generalize writeX X i a (wordB (X.p (X.l.getD k 0)).status)=Wt at hBW hSW hWl hWP⊢
  obtain⟨W,wr⟩:=Wt
  obtain⟨b2,n2⟩:=hbx hBW
  by_cases hwr:wr=0
  ·have d4:=decide_eq_true hwr
   subst hwr
   simp only at hWP hWl hSW hBW
   have hBW0:=hBW
   obtain⟨Lw,aw,xw,fw⟩:=hBW
   have lW:W.l=X.l:=hWl
   have hiw:i<W.P.length:=by omega
   have hckw:X.l.getD k 0<W.P.length:=by omega
   have eiw:Lw.p i=L.p i:=xw.p (by rw[h.lP];exact hi)
   have ekw:Lw.p (X.l.getD k 0)=L.p (X.l.getD k 0):=xw.p (by rw[h.lP];exact hck)
   have efw:Lw.f=L.f:=xw.f
   obtain⟨cfw,w1,w2⟩:=aw.fl
   obtain⟨cpw,w3,w4⟩:=aw.pr _ hckw
   have hkw:k<W.l.length:=by rw[lW];exact hk
   obtain⟨bw2,cw2,csw,elw,z1,z2,z3,z4⟩:=aw.ls.cons (by omega)
   have w5:=w2.lv
   rw[elw] at w5
   have w1':=w1
   rw[efw] at w1
   rw[ekw] at w3
   have bw:=b2
   have nw:=n2
   have hFw:Fresh M2:=hBW0.fresh
   have htw:Tb M2:=hBW0.tb hA0 hF0 ht0
   obtain⟨hh1,hh2⟩:=head_ok (P:=EE.P) und_67 sz_70 z1 (by omega) z3 z4 (by simp) (Nat.le_of_lt hkw)
   obtain⟨pt,ct,tt1,tt2,tt3⟩:=tail_ok (P:=EE.P) (k:=k+1) und_67 sz_70 z1 (by omega) z3 z4 (by simp) hkw (by omega)
   have hwk:IntKind.i64.wrap ((k:Int)+1)=((k+1:Nat):Int):=by rw[wrap_i64 (by omega) (by omega)];omega
   have hbw:=hFw.lt z1
   simp only[XX,XY,F190,yA,yB,yC,nw,w1,w5,hh1,tt1,hwk,bs405,lA]
   have hN3:∀(M:Mem) (hm:Fresh M) (o:AObj),Nx M ((M.put (M.next+16) o).bump 21):=λM hm o=>⟨by(try simp only[bN,nP]);omega,Fresh.of_low (by have:=hm.n64;(try simp only[bN,nP]);omega) (by repeat(first|exact Low.of hm nO|refine Low.put ?_ nO|refine Low.bump ?_)),λy hy=>by simp only[gB,gP,ne_new hy,if_false]⟩
   have hNc:=hN3 M2 hFw (.cells (ofL [.slice (some ⟨bw2,0,none⟩) k cw2, .slice (some pt) (W.l.length-(k+1)) ct]) true 1)
   have hbw2:bw2<M2.next:=hbw
   have h64w:=hFw.n64
   have hl1:((W.l.map λi=>PT (Lw.p i)).take k).length=k:=by rw[List.length_take,lM];omega
   have hl2:((W.l.map λi=>PT (Lw.p i)).drop (k+1)).length=W.l.length-(k+1):=by rw[List.length_drop,lM]
   have hone:∀x∈W.l.map (λi=>PT (Lw.p i)),oneCell x=true:=λx hx=>by obtain⟨j,_,rfl⟩:=List.mem_map.1 hx;rfl
   have hNl:W.l.length<100:=by rw[lW];omega
   refine cX (concat_growP hNc.fresh (b0:=M2.next+16) (by rw[gB,gP,if_pos rfl]) rfl rfl ((src_congr λy hy=>hNc.old y (by have e:bw2=y:=Option.some.inj hy;omega)).trans hh2) ((src_congr λy hy=>hNc.old y (by have e:pt.block=y:=Option.some.inj hy;omega)).trans tt2) (λM=>by rw[len_sl sl_67,hl1]) (λM=>by rw[len_sl sl_67,hl2]) (List.all_eq_true.2 λx hx=>hone x (List.mem_of_mem_take hx)) (List.all_eq_true.2 λx hx=>hone x (List.mem_of_mem_drop hx)) (by rw[hl1,hl2];omega) (λy hy=>by have e:bw2=y:=Option.some.inj hy;have:=hNc.next;omega) (λy hy=>by have e:pt.block=y:=Option.some.inj hy;have:=hNc.next;omega)) λu3 M3 hC=>?_
   have hNC:=hNc.trans hC.nx
   have nC:=hNC.next
   obtain⟨S',hS'⟩:∃S',S'=W.l.take k++W.l.drop (k+1):=⟨_,rfl⟩
   have hsl3:SlV M3 1 u3 S'.length (S'.map λi=>PT (Lw.p i)):=by
    have h3:=hC.sl
    have e1:(W.l.map λi=>PT (Lw.p i)).take k++(W.l.map λi=>PT (Lw.p i)).drop (k+1)=S'.map λi=>PT (Lw.p i):=by rw[hS',List.map_append,List.map_take,List.map_drop]
    have e2:((W.l.map λi=>PT (Lw.p i)).take k).length+((W.l.map λi=>PT (Lw.p i)).drop (k+1)).length=S'.length:=by rw[<-aL,e1,lM]
    rw[e1,e2] at h3
    exact h3
   have q1:=hNC.keep hFw w1
   have q2:=hNC.keep hFw bw
   have q3:=hNC.keep hFw w3
   have k5:5+1<=cfw.n:=by rw[w2.n];decide
   obtain⟨id,hid1,hid2⟩:∃id,(M2.next<=id∧id<M3.next)∧(slB u3=some id∨slB u3=none):=by
    cases hu:slB u3 with
    |none=>exact⟨M2.next,⟨lR' _,by have:=hNc.next;have:=hC.nx.next;simp only[bN,nP] at*;omega⟩, .inr rfl⟩
    |some y=>exact⟨y,⟨by have:=hC.new y hu;have:=hNc.next;omega,hC.sl.lt hC.nx.fresh hu⟩, .inl rfl⟩
   have hres:=aw.set_lv (M:=M3) (v':=u3) (id:=id) (S:=S') w1' w2 nC hid1 h64w (λy hy _=>hNC.old y hy) hsl3 (λj hj=>by
    rw[hS'] at hj
    rcases List.mem_append.1 hj with hj|hj
    ·exact aw.pi j (List.mem_of_mem_take hj)
    ·exact aw.pi j (List.mem_of_mem_drop hj)) (hid2.elim (λe=> .inr (.inl e)) λe=> .inr (.inr e))
   have hF5:Fd Lw.D M2 (M3.put Lw.f (.cells (cfw.write 5 [u3]) true 0)):=(Fd.of_nx hNC).put (.inl (aw.dm _ aw.mf)) aw.lt (.inl (by rw[efw,q1];simp))
   have hx5:Lx M2.next Lw {Lw with f:=L.f,lv:=u3,D:=λy=>Lw.D y∨y=id}:=⟨efw.symm,⟨[],by simp⟩,⟨[],by simp⟩,⟨[],by simp⟩,⟨[],by simp⟩,⟨[],by simp⟩,λy hy=>hy.imp _root_.id λe=>by omega⟩
   rw[efw] at hres hF5
   have n9:m.next<=M3.next:=by omega
   have nbf:¬m.next=L.f:=λe=>ne1 e.symm
   have ncf:¬L.p (X.l.getD k 0)=L.f:=λe=>h.f_p hck e.symm
   have htM:Tb M3:=htw.nx hFw hNC
   have eB:waitB (W,0) i k=answerX {W with l:=S'} i (BitVec.ofInt 32 (W.p (X.l.getD k 0)).pid):=by unfold waitB;rw[if_pos rfl,hS'];show answerX _ i (BitVec.ofInt 32 (W.p (W.l.getD k 0)).pid)=_;rw[lW]
   rw[eB]
   rcases hC.sl.at_ with⟨_,rfl⟩|⟨b9,c9,cs9,rfl,_⟩
   all_goals
    simp only[XX,XY,F190,yA,yB,yC,q1,q2,q3,k5,n9,nbf,ncf,w4.pid,conv_pid]
    refine cX (by rw[<-eiw];exact answer_ok (L:={Lw with f:=L.f,lv:=_,D:=λy=>Lw.D y∨y=id}) (X:={W with l:=S'}) (i:=i) (hres.bump _) hF5.fresh.bump ((htM.put (h.d64 _ (h.dm _ h.mf))).bump _) hiw (show W.seen.length<100000 by have:=hSW.sn;omega)) λu M9 hB9=>?_
    have hB9:=hB9.of_bump
    have n10:=hB9.next
    rw[nP] at n10
    have n11:m.next<=M9.next:=by omega
    simp only[XX,yA]
    exact(bE Lx.refl (Fd.of_nx hN0) (bE xw fw (bE hx5 hF5 hB9))).raw
  ·have d4:=decide_eq_false hwr
   have htW:=hBW.tb hA0 hF0 ht0
   obtain⟨Lw,aw,xw,fw⟩:=hBW
   have eiw:Lw.p i=L.p i:=xw.p (by rw[h.lP];exact hi)
   simp only at hWP hWl hSW
   have eW:waitB (W,wr) i k=codeX W i wr:=by unfold waitB;rw[if_neg hwr]
   rw[eW]
   simp only[XX,XY,F190,yA,yB,yC,b2,n2,d4,lA]
   refine cX (by rw[<-eiw];exact code_okk (aw.bump _) fw.fresh.bump (htW.bump _) (by rw[hWP];exact hi) (Nat.lt_of_le_of_lt hSW.sn (by omega))) λu M3 hB3=>?_
   have hB3:=bE xw fw hB3.of_bump
   have nx3:=hB3.next
   have nx4:m.next<=M3.next:=by omega
   simp only[XX,yA]
   exact(bE Lx.refl (Fd.of_nx hN0) hB3).raw
end
section
variable{m m' M mr:Mem}{n:Nat}{L L' L1 L2:Loc}{X X' X1 X2 Y:St}{v:Value}{fl:List Value}{pid:Int}
theorem fds_nth{r:Proc}{cs:Cells}(h:PC L r cs)(hl:r.fds.length=8){k:Nat}(hk:k<8):cs.nth (52+k)=some (pV ((r.fds.getD k none).map L.x)):=by
 rw[sub_nth h.fds hk,gM',gD',gE' (by omega)];rfl
def endX(X:St)(i:Nat)(a:BitVec 32):Option Nat:=if 8<=a.toNat then none else(X.p i).fds.getD a.toNat none
theorem end_ok(h:FAt m L X)(hg:GX X){i:Nat}(hi:i<X.P.length){a:BitVec 32}:Con EE.P 177 [PT (L.p i),Um a] m (pV ((endX X i a).map L.x)) m:=by
 refine Con.of EE_ok fn177 (bA rfl) Grow.rfl λhm=>?_
 obtain⟨cs,h1,h2⟩:=h.pr i hi
 unfold endX
 by_cases ha:8<=a.toNat
 ·have d1:decide ((8:Int)<=(a.toNat:Int))=true:=decide_eq_true (by omega)
  rw[if_pos ha]
  simp only[XX,XY,F177,yA,yB,yC,d1]
  exact tP rfl λ_ _=>rfl
 ·have d1:decide ((8:Int)<=(a.toNat:Int))=false:=decide_eq_false (by omega)
  have hk:a.toNat<8:=by omega
  have g1:(0:Int)<=((a.toNat:Nat):Int):=by omega
  have g2:((a.toNat:Nat):Int)<((8:Nat):Int):=by omega
  have hq:=fds_nth h2 (hg.fd i hi).1 hk
  rw[if_neg ha]
  simp only[XX,XY,F177,yA,yB,yC,d1,g1,g2,h1,hq]
  cases hp:(X.p i).fds.getD a.toNat none with
  |none=>exact tP rfl λ_ _=>rfl
  |some g=>exact tidy_old (h.ids_lt (h.mx ((hg.fd i hi).2 _ _ hp))) λ_ _=>rfl
def freeN(F:List (Option Nat))(k:Nat):List Nat:=(List.range k).filter λk=>(F.getD k none).isNone
theorem freeN_succ{F:List (Option Nat)}{k:Nat}:freeN F (k+1)=freeN F k++if(F.getD k none).isNone then [k] else []:=by
 unfold freeN
 rw[List.range_succ,List.filter_append]
 congr 1
 rw[List.filter_cons,List.filter_nil]
theorem freeN_len{F:List (Option Nat)}{k:Nat}:(freeN F k).length<=k:=by
 have:=List.length_filter_le (λk=>(F.getD k none).isNone) (List.range k)
 simpa [freeN] using this
theorem freeN_mem{F:List (Option Nat)}{k j:Nat}:j∈freeN F k↔j<k∧F.getD j none=none:=by
 unfold freeN
 rw[List.mem_filter,List.mem_range]
 cases F.getD j none<;>simp
abbrev nl(l:List Nat):List Value:=l.map λk:Nat=>In (k:Int)
theorem free_ok(h:FAt m L X)(hm:Fresh m)(hg:GX X){i:Nat}(hi:i<X.P.length):∃u m',Con EE.P 178 [PT (L.p i)] m u m'∧NewV m m' 1 u (freeN (X.p i).fds 8).length (nl (freeN (X.p i).fds 8)):=by
 refine Con.raw EE_ok fn178 (bA rfl) _ ?_
 obtain⟨cs,h1,h2⟩:=h.pr i hi
 have hfl:=(hg.fd i hi).1
 have hsub:=h2.fds
 simp only[XX,XY,F178,yA,yB,yC,h1,hsub]
 refine WX.loop_of (λkk tt M=>∃(k:Nat) (u:Value) (x4 x5:Value),k<=8∧kk=8-k∧tt=T 22 [(10,In k),(9, .agg ((X.p i).fds.map λx=>pV (x.map L.x)).toArray),(3,u),(0,PT (L.p i))]∧NewV m M 1 u (freeN (X.p i).fds k).length (nl (freeN (X.p i).fds k))) ?_ (k:=8) (t1:=T 22 [(10,In (0:Nat)),(9, .agg ((X.p i).fds.map λx=>pV (x.map L.x)).toArray),(3, .slice none 0 0),(0,PT (L.p i))]) (vT ⟨rfl,rfl,rfl,rfl,trivial⟩) ⟨0,_,undef,undef,by omega,rfl,rfl,(NewV.nil hm).bump _⟩
 rintro kk tt M ⟨k,u,_,_,hk,rfl,rfl,hN⟩
 have nx:=hN.nx.next
 have hle:=freeN_len (F:=(X.p i).fds) (k:=k)
 by_cases hk2:k<8
 ·have g1:(k:Int)<8:=by omega
  have g2:(0:Int)<=k:=by omega
  have g3:(k:Int)<((8:Nat):Int):=by omega
  have hw:IntKind.i64.wrap ((k:Int)+1)=((k+1:Nat):Int):=by rw[wrap_i64 (by omega) (by omega)];omega
  have hix:ixV EE.P 79 (.agg ((X.p i).fds.map λx=>pV (x.map L.x)).toArray) (In k)=some (pV (((X.p i).fds.getD k none).map L.x)):=by
   rw[ixV_agg und_79 g2 g3,sz_78,lay_78,paG_1,Int.toNat_natCast,Nat.mul_one,gM',gD',gE' (by omega)];rfl
  have eF:=freeN_succ (F:=(X.p i).fds) (k:=k)
  cases hx:(X.p i).fds.getD k none with
  |some x=>
   rw[hx] at hix eF
   simp only[Option.isNone_some,bF,if_false,List.append_nil] at eF
   simp only[XX,XY,F178,yA,yB,yC,pV_s',g1,hix,nx,hw,roundQ_normal,lA]
   refine⟨8-(k+1),_,_,by omega,vT (l':=[(10,In ((k+1:Nat):Int)),(9, .agg ((X.p i).fds.map λx=>pV (x.map L.x)).toArray),(3,u),(0,PT (L.p i))]) ⟨rfl,rfl,rfl,rfl,trivial⟩,k+1,u,undef,undef,by omega,rfl,rfl,?_⟩
   rw[eF]
   exact hN.bump _
  |none=>
   rw[hx] at hix eF
   simp only[Option.isNone_none,if_true] at eF
   simp only[XX,XY,F178,yA,yB,yC,pV_n',g1,hix,nx,bs41,lA]
   refine NewV.app1 eo41 (by decide) hm hN rfl rfl ⟨by omega,by omega⟩ ⟨by omega,by omega⟩ (by omega) λv' M' hN' hn' _=>?_
   have n4:m.next<=M'.next:=by omega
   simp only[XX,XY,F178,yA,yB,yC,hw,n4,roundQ_normal]
   refine⟨8-(k+1),_,_,by omega,vT (l':=[(10,In ((k+1:Nat):Int)),(9, .agg ((X.p i).fds.map λx=>pV (x.map L.x)).toArray),(3,v'),(0,PT (L.p i))]) ⟨rfl,rfl,rfl,rfl,trivial⟩,k+1,v',undef,undef,by omega,rfl,rfl,?_⟩
   rw[eF,aL]
   show NewV m _ 1 v' _ (nl (_++_))
   rw[nl,List.map_append]
   exact hN'.bump _
 ·obtain rfl:k=8:=by omega
  have g1:¬((8:Nat):Int)<8:=by omega
  simp only[XX,XY,F178,yA,yB,yC,yE,g1,nx,roundQ_exit,lA]
  exact⟨(hN.bump _).raw,hN.bump _⟩
theorem eq_bl_nil{x y:Operand}{p:Addr}{c:Nat}:eqA EE.P .eql 127 x y (.slice (some p) n c) (.slice none 0 0) m=some (.bool false):=by
 unfold eqA;rfl
theorem eq_bnil_nil{x y:Operand}:eqA EE.P .eql 127 x y (.slice none 0 0) (.slice none 0 0) m=some (.bool true):=kr
theorem cloneB_ok(hm:Fresh m)(hv:v= .slice none 0 0∧n=0∧fl=[]∨∃q c,v= .slice (some q) n c∧q.block<m.next)(hsrc:srcA 1 v m=some (fl,n))(hl:fl.length=n)(h1:fl.all oneCell=true)(hn:n<100000):∃u m',Con EE.P 231 [v] m u m'∧NewV m m' 1 u n fl:=by
 refine Con.raw EE_ok fn231 (bA rfl) _ ?_
 rcases hv with⟨rfl,rfl,rfl⟩|⟨⟨b,off,lo⟩,c,rfl,hb⟩
 ·simp only[XX,XY,F231,yA,yB,yC,eq_bnil_nil]
  have hN:NewV m (m.bump 4) 1 (.slice none 0 0) 0 []:=⟨SlV.nil,(Nx.refl hm).bump _,λy hy=>by cases hy⟩
  exact⟨hN.raw,hN⟩
 ·have b0:bsV EE.P 127 0 []=some ([],1):=kr
  simp only[XX,XY,F231,yA,yB,yC,eq_bl_nil,b0]
  have hb:b<m.next:=hb
  have hx:Nx m ((m.put (m.next+3) (AObj.cells (ofL []) true 1)).bump 7):=⟨by(try simp only[bN,nP]);omega,Fresh.of_low (by have:=hm.n64;(try simp only[bN,nP]);omega) (by repeat(first|exact Low.of hm nO|refine Low.put ?_ nO|refine Low.bump ?_)),λy hy=>by simp only[gB,gP,ne_new hy,if_false]⟩
  have hs':srcA 1 (.slice (some ⟨b,off,lo⟩) n c) ((m.put (m.next+3) (AObj.cells (ofL []) true 1)).bump 7)=some (fl,n):=(src_congr λy hy=>hx.old y (by have e:b=y:=Option.some.inj hy;omega)).trans hsrc
  have he:SlV ((m.put (m.next+3) (AObj.cells (ofL []) true 1)).bump 7) 1 (.slice (some ⟨m.next+3,0,none⟩) 0 0) 0 []:=⟨by simp, .inr ⟨m.next+3,0,ofL [],rfl,gA,rfl,lR' _,λx hx=>by simp at hx⟩⟩
  by_cases h0:n=0
  ·subst h0
   have hf:fl=[]:=by simpa using hl
   subst hf
   obtain⟨i,i1,i2,_⟩:=el127.info
   rw[app_none und_127 i1 (by rw[i2];exact hs') (lR' _)]
   simp only[XX,XY,yA,yB]
   have hN:NewV m ((m.put (m.next+3) (AObj.cells (ofL []) true 1)).bump 7) 1 (.slice (some ⟨m.next+3,0,none⟩) 0 0) 0 []:=⟨he,hx,λy hy=>by have e:m.next+3=y:=Option.some.inj hy;omega⟩
   exact⟨hN.raw,hN⟩
  ·refine okI_app (new:=fl) el127 he hs' h0 (by omega) h1 (.inr λa c e=>by cases e;rfl) (by omega) λv' M' hA=>?_
   have n1:=hA.next
   simp only[bN,nP] at n1
   have hsl:=hA.sl
   simp only[Nat.zero_add,List.nil_append] at hsl
   simp only[XX,XY,yA,yB]
   have hN:NewV m M' 1 v' n fl:=by
    refine⟨hsl,⟨by omega,Fresh.of_low (by have:=hm.n64;omega) λy hy=>hA.low y (by omega) (hx.fresh.none y nO),λy hy=>?_⟩,λy hy=>?_⟩
    ·rw[hA.old y (by omega) (λe=>by have e:m.next+3=y:=Option.some.inj e;omega),hx.old y hy]
    ·rcases hA.blk with⟨e,_⟩|e
     ·rw[e] at hy;have e:m.next+3=y:=Option.some.inj hy;omega
     ·rw[e] at hy;have e:m.next+5=y:=Option.some.inj hy;omega
   exact⟨hN.raw,hN⟩
end
section
variable{m m' M mr:Mem}{n:Nat}{L L' L1 L2:Loc}{X X' X1 X2 Y W:St}{v:Value}{fl:List Value}{pid:Int}
def addF(Y:St)(i k q:Nat)(w:Bool):St:={Y with F:=Y.F++ [⟨q,w,1⟩],P:=Y.P.set i {Y.p i with fds:=(Y.p i).fds.set k (some Y.F.length)}}
theorem GX.addF(h:GX Y){i k q:Nat}{w:Bool}(hi:i<Y.P.length)(hq:q<Y.I.length):GX (addF Y i k q w):=by
 have h1:=h.add_x (r:=⟨q,w,1⟩) hq
 exact h1.set_p (r:={Y.p i with fds:=(Y.p i).fds.set k (some Y.F.length)}) ((h1.px hi).s_fds (r:=Y.p i) λg e=>by cases e;simp)
theorem FAt.addF(h:FAt m L Y)(hg:GX Y){i k q b qb pb:Nat}{w:Bool}(hi:i<Y.P.length)(hk:k<8)(hq:q<Y.I.length)(hb:¬L.D b)(hlt:b<m.next)(h64:64<=b)(eq:L.i q=qb)(ep:L.p i=pb){cp:Cells}(hp:m.get pb=some (.cells cp true 0)):
  FAt ((m.put b (.cells (ofL [PT qb, .bool w,In 1]) true 0)).put pb (.cells (cp.write (52+k) [PT b]) true 0)) {L with F:=L.F++ [b],D:=λy=>L.D y∨y=b} (Go.Ab.addF Y i k q w):=by
 subst eq ep
 have h1:=h.add_x hg (r:=⟨q,w,1⟩) (cs:=ofL [PT (L.i q), .bool w,In 1]) hb hlt h64 ⟨rfl,rfl,rfl,rfl⟩ hq
 obtain⟨c',p1,p2⟩:=h1.pr i hi
 have nb:¬b=L.p i:=λe=>hb (by rw[e];exact h.dm _ (h.mp hi))
 have e:c'=cp:=by
  rw[gP,if_neg (λe=>nb e.symm)] at p1
  have p1':m.get (L.p i)=some (.cells c' true 0):=p1
  rw[hp] at p1';cases p1';rfl
 subst e
 have h2:=p2.s_fds (k:=k) hk (x:=some Y.F.length)
 have e2:pV ((some Y.F.length).map ({L with F:=L.F++ [b],D:=λy=>L.D y∨y=b}:Loc).x)=PT b:=by
  show PT ((L.F++ [b]).getD Y.F.length 0)=_
  rw[<-h.lF,getD_last]
 rw[e2] at h2
 exact h1.put_p hi h2
def pipe0A(W:St):St:={W with pipes:=IntKind.i64.wrap (W.pipes+1),files:=IntKind.i64.wrap (W.files+2),I:=W.I++ [⟨[],1,1⟩]}
def pipeA(W:St)(i a0 a1:Nat):St:=addF (addF (pipe0A W) i a0 W.I.length false) i a1 W.I.length true
theorem GX.pipe0(h:GX W):GX (pipe0A W):=((h.add_i (r:=⟨[],1,1⟩) (show((0:Nat):Int)<=W.cap by have:=h.cp;omega)).set_pipes).set_files
theorem Sh.pipeA(h:GX W){i a0 a1:Nat}(hi:i<W.P.length):Sh 0 W (pipeA W i a0 a1):=by
 have g0:=h.pipe0
 have g1:=g0.addF (i:=i) (k:=a0) (q:=W.I.length) (w:=false) (show i<W.P.length from hi) (by simp[pipe0A])
 have g2:=g1.addF (i:=i) (k:=a1) (q:=W.I.length) (w:=true) (by simp only[addF,sL];exact hi) (by simp[addF,pipe0A])
 exact⟨by simp[Go.Ab.pipeA,addF,pipe0A],by simp[Go.Ab.pipeA,addF,pipe0A],by simp[Go.Ab.pipeA,addF,pipe0A],lR' _,lR' _,lR' _,lR' _,g2⟩
def pipeB(Z:St×Int)(i a0 a1:Nat):St:=if Z.2=0 then answerX (pipeA Z.1 i a0 a1) i 0#32 else codeX Z.1 i Z.2
def pipeW(F:List Nat):List (BitVec 8):=[BitVec.ofNat 32 (F.getD 0 0),BitVec.ofNat 32 (F.getD 1 0)].flatMap wordB
def pipeC(X:St)(i:Nat)(a:BitVec 32)(F:List Nat):St:=if F.length<2 then codeX X i 24 else if 62<X.files∨X.pipes=16 then codeX X i 23 else pipeB (writeX X i a (pipeW F)) i (F.getD 0 0) (F.getD 1 0)
theorem build297:buildA EE.P 297 [(1, .int .i64 1),(2, .int .i64 1)]=some (.agg [.slice none 0 0, .int .i64 1, .int .i64 1].toArray):=kr
theorem build294a{b:Nat}:buildA EE.P 294 [(0,PT b),(2, .int .i64 1)]=some (.agg [PT b, .bool false, .int .i64 1].toArray):=kr
theorem build294b{b:Nat}:buildA EE.P 294 [(0,PT b),(1, .bool true),(2, .int .i64 1)]=some (.agg [PT b, .bool true, .int .i64 1].toArray):=kr
theorem pipe_ok(h:FAt m L X)(hm:Fresh m)(ht:Tb m)(hg:GX X){i:Nat}(hi:i<X.P.length)(hs:X.seen.length<99990){a:BitVec 32}{F:List Nat}(hv:SlV m 1 v F.length (nl F))(hvD:∀y,slB v=some y->¬L.D y)(hF:∀k∈F,k<8)(hF8:F.length<=8):∃u m',Con EE.P 179 [PT (L.p i),Um a,v] m u m'∧Be m L (pipeC X i a F) m':=by
 refine Con.raw EE_ok fn179 (bA rfl) _ ?_
 obtain⟨cs,h1,h2⟩:=h.pr i hi
 obtain⟨cf,f1,f2⟩:=h.fl
 have hlenA:∀M,lenA EE.P 41 v M=some (In F.length):=λM=>hv.lenA und_41
 have hB:∀K (c:Int),∃u m',Con EE.P 87 [PT (L.p i),In c] (m.bump K) u m'∧Be (m.bump K) L (codeX X i c) m':=λK c=>code_okk (h.bump _) hm.bump (ht.bump _) hi (Nat.lt_trans hs (by decide))
 unfold pipeC
 by_cases hc:F.length<2
 ·have d1:=decide_eq_true (show(F.length:Int)<2 by omega)
  rw[if_pos hc]
  simp only[XX,XY,F179,yA,yB,yC,h1,h2.f,hlenA,d1]
  refine cX (hB _ _) λu M hB'=>?_
  have hB2:=hB'.of_bump
  have nx:=hB2.next
  simp only[XX,yA]
  exact hB2.raw
 have d1:=decide_eq_false (show¬(F.length:Int)<2 by omega)
 rw[if_neg hc]
 by_cases hc2:62<X.files∨X.pipes=16
 ·rw[if_pos hc2]
  cases d2:decide (62<X.files) with
  |true=>
   simp only[XX,XY,F179,yA,yB,yC,h1,h2.f,f1,f2.files,hlenA,d1,d2]
   refine cX (hB _ _) λu M hB'=>?_
   have hB2:=hB'.of_bump
   have nx:=hB2.next
   simp only[XX,yA]
   exact hB2.raw
  |false=>
   have d3:=decide_eq_true (show X.pipes=16 from hc2.elim (λe=>absurd e (of_decide_eq_false d2)) _root_.id)
   simp only[XX,XY,F179,yA,yB,yC,h1,h2.f,f1,f2.files,f2.pipes,hlenA,d1,d2,d3]
   refine cX (hB _ _) λu M hB'=>?_
   have hB2:=hB'.of_bump
   have nx:=hB2.next
   simp only[XX,yA]
   exact hB2.raw
 rw[if_neg hc2]
 have d2:=decide_eq_false (show¬62<X.files from λe=>hc2 (.inl e))
 have d3:=decide_eq_false (show¬X.pipes=16 from λe=>hc2 (.inr e))
 obtain⟨b,c,cv,rfl,k1,k2,k3,k4⟩:=hv.cons (by omega)
 obtain⟨F0,e0⟩:∃x,x=F.getD 0 0:=⟨_,rfl⟩
 obtain⟨F1,e1⟩:∃x,x=F.getD 1 0:=⟨_,rfl⟩
 have hgd:∀k,k<F.length->(nl F).getD k undef=In (F.getD k 0)∧F.getD k 0<8:=λk hk=>by
  rw[gD',gM',gD',gE' hk]
  exact⟨rfl,hF _ (List.getElem_mem hk)⟩
 have hnl:(nl F).length=F.length:=by simp
 have q0:cv.nth 0=some (In F0):=by rw[nth_lt (by omega),k4 0 (by omega),(hgd 0 (by omega)).1,e0]
 have q1:cv.nth 1=some (In F1):=by rw[nth_lt (by omega),k4 1 (by omega),(hgd 1 (by omega)).1,e1]
 have hF0:F0<8:=by rw[e0];exact(hgd 0 (by omega)).2
 have hF1:F1<8:=by rw[e1];exact(hgd 1 (by omega)).2
 rw[<-e0,<-e1]
 have g0:(0:Int)<(F.length:Int):=by omega
 have g1:(1:Int)<(F.length:Int):=by omega
 have cv0:=conv_iu' (m:=m) (k:=F0) (by omega)
 have cv1:=conv_iu' (m:=m) (k:=F1) (by omega)
 have bs22_2:∀x y:BitVec 32,bsV EE.P 22 2 [(0,Um x),(1,Um y)]=some ([Um x,Um y],1):=λ_ _=>by kernel_rfl
 have hbl:=hm.lt k1
 have t0:Int.toNat 0=0:=rfl
 have t1:Int.toNat 1=1:=rfl
 have hbD:¬L.D b:=hvD b rfl
 simp only[XX,XY,F179,yA,yB,yC,yJ,h1,h2.f,f1,f2.files,f2.pipes,hlenA,d1,d2,d3,k1,q0,q1,g0,g1,t0,t1,bs22_2,conv_pid,BitVec.ofInt_natCast]
 have hN1:∀(M:Mem) (hm:Fresh M) (o:AObj),Nx M ((M.put (M.next+32) o).bump 36):=λM hm o=>⟨by(try simp only[bN,nP]);omega,Fresh.of_low (by have:=hm.n64;(try simp only[bN,nP]);omega) (by repeat(first|exact Low.of hm nO|refine Low.put ?_ nO|refine Low.bump ?_)),λy hy=>by simp only[gB,gP,ne_new hy,if_false]⟩
 refine cX (words_ok (hN1 m hm _).fresh (ws:=[BitVec.ofNat 32 F0,BitVec.ofNat 32 F1]) (SlV.one rfl) (by decide)) λu1 M1 hW1=>?_
 have hN01:=(hN1 m hm _).trans hW1.nx
 have nx1:=hN01.next
 have hsl:=hW1.sl
 have hwl:[BitVec.ofNat 32 F0,BitVec.ofNat 32 F1].flatMap wordB=pipeW F:=by unfold pipeW;rw[e0,e1]
 rw[hwl] at hsl
 have hwlen:(pipeW F).length=8:=by simp[pipeW,wordB]
 have k1':=hN01.keep hm k1
 have h1':=hN01.keep hm h1
 have nbk:∀k,¬b=m.next+k:=λk=>by omega
 simp only[XX,XY,F179,yA,yB]
 refine CallI.ex2L (write_ok (h.nx hN01) hN01.fresh hg hi (a:=a) (l:=pipeW F) (by rw[hwlen];exact hsl) (by rw[hwlen];decide)) (by simp) λu2 M2 hW2=>?_
 obtain⟨rfl,hB2⟩:=hW2
 have hBW:Be m L (writeX X i a (pipeW F)).1 M2:=bE Lx.refl (Fd.of_nx hN01) hB2
 have hSW:=Sh.write (a:=a) (l:=pipeW F) hg hi
 generalize writeX X i a (pipeW F)=Wt at hBW hSW⊢
 obtain⟨W,wr⟩:=Wt
 have hBW0:=hBW
 obtain⟨Lw,aw,xw,fw⟩:=hBW
 have SW:Sh 0 X W:=hSW
 have hFw:Fresh M2:=hBW0.fresh
 have htw:Tb M2:=hBW0.tb h hm ht
 have nw:m.next<=M2.next:=fw.next
 have hiw:i<W.P.length:=lL hi SW.P
 have eiw:Lw.p i=L.p i:=xw.p (by rw[h.lP];exact hi)
 have efw:Lw.f=L.f:=xw.f
 by_cases hwr:wr=0
 ·subst hwr
  have e:pipeB (W,0) i F0 F1=answerX (pipeA W i F0 F1) i 0#32:=by unfold pipeB;rw[if_pos rfl]
  rw[e]
  have kb:M2.get b=some (.cells cv true 1):=(fw.old b hbl hbD).trans k1
  obtain⟨cp,p1,p2⟩:=aw.pr _ hiw
  obtain⟨cfw,w1,w2⟩:=aw.fl
  rw[eiw] at p1
  rw[efw] at w1
  have k12:9+1<=cfw.n:=by rw[w2.n];decide
  have k13:8+1<=cfw.n:=by rw[w2.n];decide
  have lf2:L.f<M2.next:=by have:=aw.ids_lt aw.mf;omega
  have lp2:L.p i<M2.next:=by have:=aw.ids_lt (aw.mp hiw);omega
  have nfk:∀k,¬L.f=M2.next+k:=λk=>by omega
  have npk:∀k,¬L.p i=M2.next+k:=λk=>by omega
  have nbk2:∀k,¬b=M2.next+k:=λk=>by omega
  have nbf:¬b=L.f:=λe=>hbD (by rw[e];exact h.dm _ h.mf)
  have nbp:¬b=L.p i:=λe=>hbD (by rw[e];exact h.dm _ (h.mp hi))
  have npf:¬L.p i=L.f:=λe=>h.f_p hi e.symm
  have wf8:=(w2.w_pipes (x:=IntKind.i64.wrap (W.pipes+1))).files
  have gf0:(0:Int)<=(F0:Int):=by omega
  have gf1:(F0:Int)<((8:Nat):Int):=by omega
  have gf2:(0:Int)<=(F1:Int):=by omega
  have gf3:(F1:Int)<((8:Nat):Int):=by omega
  have p6:52+(F0+1)<=cp.n:=by rw[p2.n];omega
  have p7:52+(F1+1)<=cp.n:=by rw[p2.n];omega
  simp only[XX,XY,F179,yA,yB,yC,yJ,nw,p1,w1,w2.pipes,wf8,p6,p7,gf0,gf1,gf2,gf3,build297,build294a,build294b,k12,k13,nfk,npk,nbk2,nbf,npf,kb,q0,q1,g0,g1,t0,t1,lA]
  have SA:=Sh.pipeA SW.gx hiw (a0:=F0) (a1:=F1)
  have h64:=hFw.n64
  refine CallI.gen (λM=>∃L1,FAt M L1 (pipeA W i F0 F1)∧Lx M2.next Lw L1∧Fd Lw.D M2 M) ?_ λM3 hM3=>?_
  ·have nD:∀k,¬Lw.D (M2.next+k):=λk e=>by have:=aw.lt _ e;omega
   have A1:=(aw.bump 45).add_i SW.gx (b:=M2.next+3) (v:= .slice none 0 0) (r:=⟨[],1,1⟩) (cs:=ofL [.slice none 0 0,In 1,In 1]) (nD 3) nO (by omega) ⟨rfl,rfl,rfl,rfl⟩ SlV.nil (λy e=>by cases e)
   have A2:=A1.s_pipes (cf:=cfw) (x:=IntKind.i64.wrap (W.pipes+1)) (by
    show(Mem.put _ _ _).get Lw.f=_
    rw[efw,gP,if_neg (nfk 3)];exact w1)
   have A3:=A2.s_files (cf:=cfw.write 9 [In (IntKind.i64.wrap (W.pipes+1))]) (x:=IntKind.i64.wrap (W.files+2)) (by
    show(Mem.put _ _ _).get Lw.f=_
    rw[gP,if_pos rfl])
   have g0:GX (pipe0A W):=SW.gx.pipe0
   have A3':FAt _ _ (pipe0A W):=A3
   have eI:(Lw.I++ [M2.next+3]).getD W.I.length 0=M2.next+3:=by rw[<-aw.lI,getD_last]
   have A5:=A3'.addF g0 (i:=i) (k:=F0) (q:=W.I.length) (b:=M2.next+31) (w:=false) (cp:=cp) hiw hF0 (by simp[pipe0A]) (λe=>e.elim (nD 31) λe=>by omega) nO (by omega) eI eiw (by
    show(Mem.put (Mem.put (Mem.put _ _ _) Lw.f _) Lw.f _).get (L.p i)=_
    rw[efw,gP,if_neg npf,gP,if_neg npf,gP,if_neg (npk 3)];exact p1)
   have g1:=g0.addF (i:=i) (k:=F0) (q:=W.I.length) (w:=false) hiw (by simp[pipe0A])
   have A7:=A5.addF g1 (i:=i) (k:=F1) (q:=W.I.length) (b:=M2.next+34) (w:=true) (cp:=cp.write (52+F0) [PT (M2.next+31)]) (by simpa [addF,pipe0A] using hiw) hF1 (by simp[addF,pipe0A]) (λe=>e.elim (λe=>e.elim (nD 34) λe=>by omega) λe=>by omega) nO (by omega) eI eiw (by
    show(Mem.put _ (L.p i) _).get (L.p i)=_
    rw[gP,if_pos rfl])
   have hF1':=(((((((Fd.refl hFw (D:=Lw.D)).bump 45).putN (b:=M2.next+3) (o:= .cells (ofL [.slice none 0 0,In 1,In 1]) true 0) (by omega) nO).putO (b:=L.f) (o:= .cells (cfw.write 9 [In (IntKind.i64.wrap (W.pipes+1))]) true 0) (by rw[<-efw];exact aw.dm _ aw.mf) lf2 (by rw[w1];simp)).putO (b:=L.f) (o:= .cells ((cfw.write 9 [In (IntKind.i64.wrap (W.pipes+1))]).write 8 [In (IntKind.i64.wrap (W.files+2))]) true 0) (by rw[<-efw];exact aw.dm _ aw.mf) lf2 (by rw[w1];simp)).putN (b:=M2.next+31) (o:= .cells (ofL [PT (M2.next+3), .bool false,In 1]) true 0) (by omega) nO).putO (b:=L.p i) (o:= .cells (cp.write (52+F0) [PT (M2.next+31)]) true 0) (by rw[<-eiw];exact aw.dm _ (aw.mp hiw)) lp2 (by rw[p1];simp))
   have hF2':=(hF1'.putN (b:=M2.next+34) (o:= .cells (ofL [PT (M2.next+3), .bool true,In 1]) true 0) (by omega) nO).putO (b:=L.p i) (o:= .cells ((cp.write (52+F0) [PT (M2.next+31)]).write (52+F1) [PT (M2.next+34)]) true 0) (by rw[<-eiw];exact aw.dm _ (aw.mp hiw)) lp2 (by rw[p1];simp)
   refine⟨{Lw with I:=Lw.I++ [M2.next+3],bv:=Lw.bv++ [.slice none 0 0],F:=(Lw.F++ [M2.next+31])++ [M2.next+34],D:=λy=>((Lw.D y∨y=M2.next+3)∨y=M2.next+31)∨y=M2.next+34},?_,⟨rfl,⟨[],by simp⟩,⟨[],by simp⟩,⟨[],by simp⟩,⟨[M2.next+3],rfl⟩,⟨[M2.next+31,M2.next+34],by simp⟩,λy hy=>?_⟩,?_⟩
   ·simp only[put_bump] at A7
    rw[<-efw]
    exact A7
   ·rcases hy with((hy|hy)|hy)|hy
    ·exact .inl hy
    ·exact .inr (by omega)
    ·exact .inr (by omega)
    ·exact .inr (by omega)
   ·simp only[put_bump] at hF2';exact hF2'
  ·obtain⟨L1,a1,x1,f1'⟩:=hM3
   have e1i:L1.p i=L.p i:=(x1.p (by rw[aw.lP];exact hiw)).trans eiw
   have n3:m.next<=M3.next:=by have:=f1'.next;omega
   refine cX (by rw[<-e1i];exact answer_ok (v:=0#32) a1 f1'.fresh (htw.fd f1' hFw aw.d64) (lL hiw SA.P) (by have:=SA.sn;have:W.seen.length<=X.seen.length+0:=SW.sn;omega)) λu M9 hB9=>?_
   have n9:=hB9.next
   have n10:m.next<=M9.next:=by omega
   simp only[XX,yA]
   exact(bE xw fw (bE x1 f1' hB9)).raw
 ·have d4:=decide_eq_false hwr
  have e:pipeB (W,wr) i F0 F1=codeX W i wr:=by unfold pipeB;rw[if_neg hwr]
  rw[e]
  simp only[XX,XY,F179,yA,yB,yC,nw,d4,lA]
  refine cX (by rw[<-eiw];exact code_okk (aw.bump _) hFw.bump (htw.bump _) hiw (show W.seen.length<100000 by have:=SW.sn;omega)) λu M9 hB9=>?_
  have hB9:=hB9.of_bump
  have n9:=hB9.next
  have n10:m.next<=M9.next:=by omega
  simp only[XX,yA]
  exact(bE xw fw hB9).raw
end
section
variable{E:Env}{base i:Nat}{rest:List (Nat×SOp)}{L:List Inst}{t:List Value}{m:Mem}{K:KI}{ty rt:TypeId}{d:Tmp}{P:Program}
def minV(P:Program)(v w:Value):Option Value:=if plain v&&plain w then runV P (Builtin.min_ #[] 0 #[v,w]) else none
theorem minV_i{k k':IntKind}{x y:Int}:minV P (.int k x) (.int k' y)=some (.int k (if y<x then y else x)):=rfl
theorem Z_min [NoSym E]{x y:Operand}{ts:Array TypeId}:XWi E base ((i,⟨some d, .call ⟨.builtin .min,#[x,y],ts⟩,rt,none⟩)::rest) L t m (Q:=K)=okI (minV E.P (ev x t) (ev y t)) (k:=⟨λv=>XWi E base rest L (t.set d v) m (Q:=K)⟩):=by
 refine propext ?_
 unfold XWi okI
 rw[XW_pure rfl rfl,pureE_none NoSym.h]
 have e:pureA E.P ⟨some d, .call ⟨.builtin .min,#[x,y],ts⟩,rt,none⟩ (ev · t)=minV E.P (ev x t) (ev y t):=by
  have h1:(#[x,y].map λx=>ev x t)= #[ev x t,ev y t]:=by simp
  simp only[pureA,h1]
  unfold minV
  simp only[List.all_cons,List.all_nil,Bool.and_true]
  rfl
 rw[e]
 exact Iff.rfl
end
section
variable{m m' M mr:Mem}{n:Nat}{L L' L1 L2:Loc}{X X' X1 X2 Y W:St}{v:Value}{fl:List Value}{pid:Int}
theorem minV_n{P:Program}{a b:Nat}:minV P (In (a:Int)) (In (b:Int))=some (In ((min a b:Nat):Int)):=by
 rw[minV_i]
 congr 2
 split<;>omega
theorem headB_sl(h:SlV m 1 v n fl){k:Nat}(hk:k<=n):∃w,sliceA EE.P 127 v none (some (In (k:Int)))=some w∧SlV m 1 w k (fl.take k)∧(∀M,lenA EE.P 127 w M=some (In (k:Int))):=by
 rcases h.2 with⟨rfl,rfl⟩|⟨b,c,cs,rfl,k1,k2,k3,k4⟩
 ·obtain rfl:k=0:=by omega
  exact⟨.slice none 0 0,kr,by rw[List.take_zero];exact SlV.nil,λM=>(SlV.nil (M:=m) (sz:=1)).lenA und_127⟩
 ·have hl:=h.1
  have hs:SlV m 1 (.slice (some ⟨b,0,none⟩) k c) k (fl.take k):=⟨by rw[List.length_take];omega, .inr ⟨b,c,cs,rfl,k1,k2,by omega,λx hx=>by
   rw[List.length_take] at hx
   rw[k4 x (by omega),gD',gD',List.getElem?_take_of_lt (by omega)]⟩⟩
  exact⟨.slice (some ⟨b,0,none⟩) k c,by rw[slice_hi und_127 sz_5 (by omega) (by rw[Int.toNat_natCast];omega),Int.toNat_natCast],hs,λM=>hs.lenA und_127⟩
theorem FAt.be_p2(h:FAt m L X)(hm:Fresh m){i:Nat}(hi:i<X.P.length){o:AObj}{cs:Cells}{r:Proc}(hr:PC L r cs):Be m L {X with P:=X.P.set i r} ((m.put (L.p i) o).put (L.p i) (.cells cs true 0)):=
 ⟨L,h.upd_p hi hr (lR' _) (by rw[gP,if_pos rfl]) (λy _ hy=>by rw[gP,if_neg hy,gP,if_neg hy]),Lx.refl,(((Pu.refl hm (j:=0)).own h (h.mp hi)).own h (h.mp hi)).fd hm (Nat.zero_le 0)⟩
def rdK(X:St)(q:Nat)(n:BitVec 32):Nat:=min (X.i q).b.length n.toNat
def readY(W:St)(q k:Nat):St:=if 0<k then wakeX {W with I:=W.I.set q {W.i q with b:=(W.i q).b.drop k}} 3 q else W
def readZ(Z:St×Int)(i q k:Nat):St:=if Z.2=0 then answerX (readY Z.1 q k) i (BitVec.ofNat 32 k) else codeX Z.1 i Z.2
def readPX(X:St)(i q:Nat)(a n:BitVec 32):St:=if 4096<n.toNat then codeX X i 22 else
 if 0<n.toNat∧(X.i q).b.length=0∧0<(X.i q).writers then{X with P:=X.P.set i {X.p i with wait:=2,pipe:=some q}} else
 readZ (writeX X i a ((X.i q).b.take (rdK X q n))) i q (rdK X q n)
theorem writeX_I{i:Nat}{a:BitVec 32}{l:List (BitVec 8)}:(writeX X i a l).1.I=X.I:=by
 unfold writeX
 split
 ·rfl
 ·split
  ·rfl
  ·exact putsX_P.2.2.2.2.1
theorem readP_ok(h:FAt m L X)(hm:Fresh m)(ht:Tb m)(hg:GX X){i q:Nat}(hi:i<X.P.length)(hq:q<X.I.length)(hs:X.seen.length<99990)(hf:X.fut.length<99990){a n:BitVec 32}:∃u m',Con EE.P 180 [PT (L.p i),PT (L.i q),Um a,Um n] m u m'∧Be m L (readPX X i q a n) m':=by
 refine Con.raw EE_ok fn180 (bA rfl) _ ?_
 obtain⟨cs,h1,h2⟩:=h.pr i hi
 obtain⟨ci,i1,i2⟩:=h.ip q hq
 have hbs:=h.bs q hq
 have hcap:=hg.ib q hq
 have hcp:=hg.cp
 have hbl:(X.i q).b.length<=64:=by omega
 have hlenB:∀M,lenA EE.P 127 (L.b q) M=some (In (X.i q).b.length):=λM=>hbs.lenA und_127
 have hB:∀K (c:Int),∃u m',Con EE.P 87 [PT (L.p i),In c] (m.bump K) u m'∧Be (m.bump K) L (codeX X i c) m':=λK c=>code_okk (h.bump _) hm.bump (ht.bump _) hi (Nat.lt_trans hs (by decide))
 unfold readPX
 by_cases hc:4096<n.toNat
 ·have d1:=decide_eq_true (show(4096:Int)<(n.toNat:Int) by omega)
  rw[if_pos hc]
  simp only[XX,XY,F180,yA,yB,yC,d1]
  refine cX (hB _ _) λu M hB'=>?_
  have hB2:=hB'.of_bump
  have nx:=hB2.next
  simp only[XX,yA]
  exact hB2.raw
 have d0:=decide_eq_false (show¬(4096:Int)<(n.toNat:Int) by omega)
 rw[if_neg hc]
 by_cases hc2:0<n.toNat∧(X.i q).b.length=0∧0<(X.i q).writers
 ·have d1:=decide_eq_true (show(0:Int)<(n.toNat:Int) by omega)
  have d2:=decide_eq_true (show((X.i q).b.length:Int)=0 by omega)
  have d3:=decide_eq_true hc2.2.2
  rw[if_pos hc2]
  have hp:=(h2.w_wait (x:=2)).w_pipe (x:=some q)
  have k1:46+1<=cs.n:=by rw[h2.n];decide
  have k2:47+1<=cs.n:=by rw[h2.n];decide
  simp only[XX,XY,F180,yA,yB,yC,d0,d1,d2,d3,h1,i1,i2.bv,i2.writers,hlenB,k1,k2]
  exact((h.be_p2 hm hi hp).bump _).raw
 rw[if_neg hc2]
 obtain⟨k,hk⟩:∃k,k=rdK X q n:=⟨_,rfl⟩
 rw[<-hk]
 have hkl:k<=(X.i q).b.length:=by rw[hk];exact Nat.min_le_left _ _
 obtain⟨w,sw1,sw2,sw3⟩:=headB_sl hbs hkl
 have hmin:=minV_n (P:=EE.P) (a:=(X.i q).b.length) (b:=n.toNat)
 rw[show min (X.i q).b.length n.toNat=k from hk.symm] at hmin
 have hcase:(decide ((0:Int)<(n.toNat:Int))=false∧True∧True)∨(decide ((0:Int)<(n.toNat:Int))=true∧decide (((X.i q).b.length:Int)=0)=false∧True)∨(decide ((0:Int)<(n.toNat:Int))=true∧decide (((X.i q).b.length:Int)=0)=true∧decide (0<(X.i q).writers)=false):=by
  by_cases c1:0<n.toNat
  ·by_cases c2:(X.i q).b.length=0
   ·exact .inr (.inr ⟨decide_eq_true (by omega),decide_eq_true (by omega),decide_eq_false λe=>hc2 ⟨c1,c2,e⟩⟩)
   ·exact .inr (.inl ⟨decide_eq_true (by omega),decide_eq_false (by omega),trivial⟩)
  ·exact .inl ⟨decide_eq_false (by omega),trivial,trivial⟩
 have hl:((X.i q).b.take k).length=k:=by rw[List.length_take];omega
 have hw:SlV m 1 w ((X.i q).b.take k).length (((X.i q).b.take k).map By):=by rw[hl,List.map_take];exact sw2
 have cvk:∀M,convV EE.P 3 36 (In (k:Int)) M=some (Um (BitVec.ofNat 32 k)):=λM=>conv_iu' (by omega)
 rcases hcase with⟨d1,d2,d3⟩|⟨d1,d2,d3⟩|⟨d1,d2,d3⟩
 all_goals
  simp only[XX,XY,F180,yA,yB,yC,d0,d1,d2,d3,i1,i2.bv,i2.writers,hlenB,Z_min,conv_ui,hmin,sw1]
  refine CallI.ex2L (write_ok (h.bump _) hm.bump hg hi (a:=a) (l:=(X.i q).b.take k) (hw.bump _) (by rw[hl];omega)) (by simp) λu2 M2 hW2=>?_
  obtain⟨rfl,hB2⟩:=hW2
  have hBW0:=hB2.of_bump
  have hSW:=Sh.write (a:=a) (l:=(X.i q).b.take k) hg hi
  have hWI:(writeX X i a ((X.i q).b.take k)).1.I=X.I:=writeX_I
  generalize writeX X i a ((X.i q).b.take k)=Wt at hBW0 hSW hWI⊢
  obtain⟨W,wr⟩:=Wt
  have SW:Sh 0 X W:=hSW
  have hWI:W.I=X.I:=hWI
  obtain⟨Lw,aw,xw,fw⟩:=id hBW0
  have hFw:Fresh M2:=hBW0.fresh
  have htw:Tb M2:=hBW0.tb h hm ht
  have nw:m.next<=M2.next:=fw.next
  have hiw:i<W.P.length:=lL hi SW.P
  have hqw:q<W.I.length:=by rw[hWI];exact hq
  have eiw:Lw.p i=L.p i:=xw.p (by rw[h.lP];exact hi)
  have eqw:Lw.i q=L.i q:=xw.i (by rw[h.lI];exact hq)
  have efw:Lw.f=L.f:=xw.f
  have eWq:W.i q=X.i q:=by show W.I.getD q pipe0=_;rw[hWI]
  have sW:W.seen.length<=X.seen.length+0:=SW.sn
  have fW:W.fut.length<=X.fut.length+0:=SW.fut
  by_cases hwr:wr=0
  ·subst hwr
   have e:readZ (W,0) i q k=answerX (readY W q k) i (BitVec.ofNat 32 k):=by unfold readZ;rw[if_pos rfl]
   rw[e]
   by_cases hk0:0<k
   ·have d4:=decide_eq_true (show(0:Int)<(k:Int) by omega)
    have e:readY W q k=wakeX {W with I:=W.I.set q {W.i q with b:=(W.i q).b.drop k}} 3 q:=by unfold readY;rw[if_pos hk0]
    rw[e]
    obtain⟨ci2,j1,j2⟩:=aw.ip q hqw
    have j1':=j1
    rw[eqw] at j1
    have hsW:=aw.bs q hqw
    obtain⟨bl,cl,cls,elv,z1,z2,z3,z4⟩:=hsW.cons (by rw[eWq];omega)
    have j3:=j2.bv
    rw[show Lw.bv.getD q (.slice none 0 0)= .slice (some ⟨bl,0,none⟩) (W.i q).b.length cl from elv] at j3
    obtain⟨pt,ct,tt1,tt2,tt3⟩:=tail_ok (P:=EE.P) (k:=k) (M:=M2) und_127 sz_5 z1 (by omega) z3 z4 (by simp) (by rw[eWq];exact hkl) (by omega)
    have hbl2:bl<M2.next:=hFw.lt z1
    have h64w:=hFw.n64
    have hpt:pt.block<M2.next:=by omega
    simp only[XX,XY,F180,yA,yB,yC,nw,d4,sw3,j1,j3,tt1,lA]
    have hds:srcA 1 (.slice (some pt) ((W.i q).b.length-k) ct) (M2.bump 17)=some (((W.i q).b.drop k).map By,(W.i q).b.length-k):=by
     have e5:(List.drop k ((W.i q).b.map By)).length=(W.i q).b.length-k:=by rw[List.length_drop,lM]
     rw[e5] at tt2
     rw[List.map_drop]
     exact(src_congr λ_ _=>rfl).trans tt2
    refine cX (cloneB_ok hFw.bump (.inr ⟨pt,ct,rfl,by rw[bN];omega⟩) hds (by rw[lM,List.length_drop]) (by rw[List.all_map];exact List.all_eq_true.2 λ_ _=>rfl) (by rw[eWq];omega)) λu3 M3 hC=>?_
    have hNC:Nx M2 M3:=((Nx.refl hFw).bump 17).trans hC.nx
    have nC:=hNC.next
    have j1k:=hNC.keep hFw j1
    have hbD:(W.i q).b.length-k=((W.i q).b.drop k).length:=by rw[List.length_drop]
    have hres:=aw.set_b (M:=M3) (v':=u3) hqw (B:=(W.i q).b.drop k) j1' j2 nC (λy hy=>⟨by have:=hC.new y hy;rw[bN] at this;omega,hC.sl.lt hC.nx.fresh hy⟩) h64w hNC.old (by rw[<-hbD];exact hC.sl)
    obtain⟨cp,p1,p2⟩:=aw.pr _ hiw
    rw[eiw] at p1
    have p1k:=hNC.keep hFw p1
    have npi:¬L.p i=L.i q:=h.p_i hi hq
    have k0:0+1<=ci2.n:=by rw[j2.n];decide
    have hF5:Fd Lw.D M2 (M3.put (Lw.i q) (.cells (ci2.write 0 [u3]) true 0)):=(Fd.of_nx hNC).put (.inl (aw.dm _ (aw.mi hqw))) aw.lt (.inl (by rw[eqw,j1k];simp))
    rw[eqw] at hres hF5
    have n9:m.next<=M3.next:=by omega
    have hgx:GX {W with I:=W.I.set q {W.i q with b:=(W.i q).b.drop k}}:=SW.gx.set_i (by have:=SW.gx.ib q hqw;rw[<-hbD];omega)
    have hx5:Lx M2.next Lw {Lw with bv:=Lw.bv.set q u3,D:=λy=>Lw.D y∨slB u3=some y}:=⟨rfl,⟨[],by simp⟩,⟨[],by simp⟩,⟨[],by simp⟩,⟨[],by simp⟩,⟨[],by simp⟩,λy hy=>hy.imp _root_.id λe=>by have:=hC.new y e;rw[bN] at this;omega⟩
    have htM:Tb (M3.put (L.i q) (.cells (ci2.write 0 [u3]) true 0)):=(htw.nx hFw hNC).put (h.d64 _ (h.dm _ (h.mi hq)))
    have hu1:u3.cells.toList=[u3]:=by rcases hC.sl.at_ with⟨_,rfl⟩|⟨_,_,_,rfl,_⟩<;>rfl
    have hu2:[u3].length=1∧[u3].all oneCell=true:=by rcases hC.sl.at_ with⟨_,rfl⟩|⟨_,_,_,rfl,_⟩<;>exact⟨rfl,rfl⟩
    simp only[XX,XY,F180,yA,yB,yC,n9,j1k,k0,hu1,hu2,p1k,npi,p2.f,efw]
    obtain⟨L5,hres,hx5,e5f,e5q⟩:∃L5,FAt (M3.put (L.i q) (.cells (ci2.write 0 [u3]) true 0)) L5 {W with I:=W.I.set q {W.i q with b:=(W.i q).b.drop k}}∧Lx M2.next Lw L5∧L5.f=L.f∧L5.i q=L.i q:=⟨_,hres,hx5,efw,eqw⟩
    refine cX (by
     have hw:=wake_ok (hres.bump 6) hF5.fresh.bump hgx (show W.fut.length<100000 by omega) (w:=3) (q:=q) (show q<(W.I.set q _).length by rw[sL];exact hqw)
     rw[e5f,e5q] at hw
     exact hw) λu4 M4 hB4=>?_
    have hB4:=hB4.of_bump
    have hWk:(wakeX {W with I:=W.I.set q {W.i q with b:=(W.i q).b.drop k}} 3 q).P.length=W.P.length∧(wakeX {W with I:=W.I.set q {W.i q with b:=(W.i q).b.drop k}} 3 q).seen=W.seen:=⟨wakeI_P.1,wakeI_P.2.2.2.2⟩
    generalize wakeX {W with I:=W.I.set q {W.i q with b:=(W.i q).b.drop k}} 3 q=V at hB4 hWk⊢
    obtain⟨L4,a4,x4,f4⟩:=id hB4
    have n40:=f4.next
    rw[nP] at n40
    have n41:m.next<=M4.next:=by omega
    have e4i:L4.p i=L.p i:=(x4.p (by rw[hres.lP];exact hiw)).trans ((hx5.p (by rw[aw.lP];exact hiw)).trans eiw)
    simp only[XX,XY,F180,yA,yB,yC,n41,sw3,cvk]
    refine cX (by rw[<-e4i];exact answer_ok (v:=BitVec.ofNat 32 k) (a4.bump _) f4.fresh.bump ((htM.fd f4 hF5.fresh hres.d64).bump _) (by rw[hWk.1];exact hiw) (by rw[hWk.2];omega)) λu M9 hB9=>?_
    have hB9:=hB9.of_bump
    have n9:=hB9.next
    have n10:m.next<=M9.next:=by omega
    simp only[XX,yA]
    exact(bE xw fw (bE hx5 hF5 (bE x4 f4 hB9))).raw
   ·have d4:=decide_eq_false (show¬(0:Int)<(k:Int) by omega)
    have e:readY W q k=W:=by unfold readY;rw[if_neg hk0]
    rw[e]
    simp only[XX,XY,F180,yA,yB,yC,nw,d4,sw3,cvk,lA]
    refine cX (by rw[<-eiw];exact answer_ok (v:=BitVec.ofNat 32 k) (aw.bump _) hFw.bump (htw.bump _) hiw (show W.seen.length<100000 by omega)) λu M9 hB9=>?_
    have hB9:=hB9.of_bump
    have n9:=hB9.next
    have n10:m.next<=M9.next:=by omega
    simp only[XX,yA]
    exact(bE xw fw hB9).raw
  ·have d4:=decide_eq_false hwr
   have e:readZ (W,wr) i q k=codeX W i wr:=by unfold readZ;rw[if_neg hwr]
   rw[e]
   simp only[XX,XY,F180,yA,yB,yC,nw,d4,lA]
   refine cX (by rw[<-eiw];exact code_okk (aw.bump _) hFw.bump (htw.bump _) hiw (show W.seen.length<100000 by omega)) λu M9 hB9=>?_
   have hB9:=hB9.of_bump
   have n9:=hB9.next
   have n10:m.next<=M9.next:=by omega
   simp only[XX,yA]
   exact(bE xw fw hB9).raw
end
section
variable{m m' M mr:Mem}{n:Nat}{L L' L1 L2:Loc}{X X' X1 X2 Y W:St}{v:Value}{fl:List Value}{pid:Int}
def wrR(X:St)(q:Nat):Nat:=(X.cap-((X.i q).b.length:Int)).toNat
def wrY(W:St)(q:Nat)(l:List (BitVec 8)):St:=if 0<l.length then wakeX {W with I:=W.I.set q {W.i q with b:=(W.i q).b++l}} 2 q else W
def wrZ(X:St)(i q k:Nat):Option (List (BitVec 8))->St
 |none=>codeX X i 14
 |some l=>answerX (wrY X q l) i (BitVec.ofNat 32 k)
def writePX(X:St)(i q:Nat)(a n:BitVec 32):St:=if 4096<n.toNat then codeX X i 22 else if(X.i q).readers=0 then codeX X i 32 else
 if 0<n.toNat∧wrR X q=0 then{X with P:=X.P.set i {X.p i with wait:=3,pipe:=some q}} else
 wrZ X i q (min n.toNat (wrR X q)) (readX X i a (min n.toNat (wrR X q)))
theorem bs190{p1 p2:Option Addr}{n1 c1 n2 c2:Nat}:bsV EE.P 190 2 [(0, .slice p1 n1 c1),(1, .slice p2 n2 c2)]=some ([.slice p1 n1 c1, .slice p2 n2 c2],1):=kr
theorem writeP_ok(h:FAt m L X)(hm:Fresh m)(ht:Tb m)(hg:GX X){i q:Nat}(hi:i<X.P.length)(hq:q<X.I.length)(hs:X.seen.length<99990)(hf:X.fut.length<99990){a n:BitVec 32}:∃u m',Con EE.P 181 [PT (L.p i),PT (L.i q),Um a,Um n] m u m'∧Be m L (writePX X i q a n) m':=by
 refine Con.raw EE_ok fn181 (bA rfl) _ ?_
 obtain⟨cs,h1,h2⟩:=h.pr i hi
 obtain⟨cf,f1,f2⟩:=h.fl
 obtain⟨ci,i1,i2⟩:=h.ip q hq
 have hbs:=h.bs q hq
 have hcap:=hg.ib q hq
 have hcp:=hg.cp
 have hbl:(X.i q).b.length<=64:=by omega
 have hlenB:∀M,lenA EE.P 127 (L.b q) M=some (In (X.i q).b.length):=λM=>hbs.lenA und_127
 have hroom:IntKind.i64.wrap (X.cap-((X.i q).b.length:Int))=((wrR X q:Nat):Int):=by
  rw[wrap_i64 (by omega) (by omega)]
  unfold wrR
  omega
 have hB:∀K (c:Int),∃u m',Con EE.P 87 [PT (L.p i),In c] (m.bump K) u m'∧Be (m.bump K) L (codeX X i c) m':=λK c=>code_okk (h.bump _) hm.bump (ht.bump _) hi (Nat.lt_trans hs (by decide))
 unfold writePX
 by_cases hc:4096<n.toNat
 ·have d1:=decide_eq_true (show(4096:Int)<(n.toNat:Int) by omega)
  rw[if_pos hc]
  simp only[XX,XY,F181,yA,yB,yC,h1,h2.f,f1,f2.cap,i1,i2.bv,hlenB,d1]
  refine cX (hB _ _) λu M hB'=>?_
  have hB2:=hB'.of_bump
  have nx:=hB2.next
  simp only[XX,yA]
  exact hB2.raw
 have d0:=decide_eq_false (show¬(4096:Int)<(n.toNat:Int) by omega)
 rw[if_neg hc]
 by_cases hc1:(X.i q).readers=0
 ·have d1:=decide_eq_true hc1
  rw[if_pos hc1]
  simp only[XX,XY,F181,yA,yB,yC,h1,h2.f,f1,f2.cap,i1,i2.bv,i2.readers,hlenB,d0,d1]
  refine cX (hB _ _) λu M hB'=>?_
  have hB2:=hB'.of_bump
  have nx:=hB2.next
  simp only[XX,yA]
  exact hB2.raw
 have d1:=decide_eq_false hc1
 rw[if_neg hc1]
 obtain⟨r,hr⟩:∃r,r=wrR X q:=⟨_,rfl⟩
 rw[<-hr] at hroom⊢
 have hrl:(X.i q).b.length+r<=X.cap.toNat:=by rw[hr];unfold wrR;omega
 by_cases hc2:0<n.toNat∧r=0
 ·have d2:=decide_eq_true (show(0:Int)<(n.toNat:Int) by omega)
  have d3:=decide_eq_true (show(r:Int)=0 by omega)
  rw[if_pos hc2]
  have hp:=(h2.w_wait (x:=3)).w_pipe (x:=some q)
  have k1:46+1<=cs.n:=by rw[h2.n];decide
  have k2:47+1<=cs.n:=by rw[h2.n];decide
  simp only[XX,XY,F181,yA,yB,yC,h1,h2.f,f1,f2.cap,i1,i2.bv,i2.readers,hlenB,hroom,d0,d1,d2,d3,k1,k2]
  exact((h.be_p2 hm hi hp).bump _).raw
 rw[if_neg hc2]
 obtain⟨k,hk⟩:∃k,k=min n.toNat r:=⟨_,rfl⟩
 rw[<-hk]
 have hkr:k<=r:=by rw[hk];exact Nat.min_le_right _ _
 have hmin:=minV_n (P:=EE.P) (a:=n.toNat) (b:=r)
 rw[<-hk] at hmin
 have cvk:∀M,convV EE.P 3 36 (In (k:Int)) M=some (Um (BitVec.ofNat 32 k)):=λM=>conv_iu' (by omega)
 have hcase:(decide ((0:Int)<(n.toNat:Int))=false∧True)∨(decide ((0:Int)<(n.toNat:Int))=true∧decide ((r:Int)=0)=false):=by
  by_cases c1:0<n.toNat
  ·exact .inr ⟨decide_eq_true (by omega),decide_eq_false (by omega)⟩
  ·exact .inl ⟨decide_eq_false (by omega),trivial⟩
 rcases hcase with⟨d2,d3⟩|⟨d2,d3⟩
 all_goals
  simp only[XX,XY,F181,yA,yB,yC,h1,h2.f,f1,f2.cap,i1,i2.bv,i2.readers,hlenB,hroom,d0,d1,d2,d3,Z_min,conv_ui,hmin]
  refine cX (read_ok (n:=k) (h.bump _) hm.bump hg hi (by omega)) λu M hM=>?_
  obtain⟨hn1,hM⟩:=hM
  have hn1:=hn1.of_bump
  have nx:=hn1.next
  have hFM:=hn1.fresh
  have hAM:=h.nx hn1
  have htM:=ht.nx hm hn1
  cases hr:readX X i a k with
  |none=>
   rw[hr] at hM
   subst hM
   simp only[XX,XY,F181,yA,yB,yC,yH,nx,lA]
   refine cX (code_okk (hAM.bump _) hFM.bump (htM.bump _) hi (by omega)) λu M9 hB9=>?_
   have hB9:=hB9.of_bump
   have n9:=hB9.next
   have n10:m.next<=M9.next:=by omega
   simp only[XX,yA]
   exact(bE Lx.refl (Fd.of_nx hn1) hB9).raw
  |some l=>
   rw[hr] at hM
   obtain⟨v,rfl,hN⟩:=hM
   have hl:=readX_len hr
   have e:wrZ X i q k (some l)=answerX (wrY X q l) i (BitVec.ofNat 32 k):=rfl
   rw[e]
   have hlenv:∀M,lenA EE.P 127 v M=some (In (k:Int)):=λM=>hN.sl.lenA und_127
   by_cases hk0:0<k
   ·have d4:=decide_eq_true (show(0:Int)<(k:Int) by omega)
    have e:wrY X q l=wakeX {X with I:=X.I.set q {X.i q with b:=(X.i q).b++l}} 2 q:=by unfold wrY;rw[if_pos (by omega)]
    rw[e]
    have i1k:=hn1.keep hm i1
    have h1k:=hn1.keep hm h1
    have hbs2:=hAM.bs q hq
    have hb2:=i2.bv
    obtain⟨p0,c0,ep0⟩:∃p c,L.bv.getD q (.slice none 0 0)= .slice p (X.i q).b.length c:=by
     rcases hbs2.at_ with⟨e0,e1⟩|⟨b,c,_,e1,_⟩
     ·exact⟨none,0,by rw[e0];exact e1⟩
     ·exact⟨_,c,e1⟩
    rw[ep0] at hb2
    obtain⟨b9,c9,cs9,rfl,z1,z2,z3,z4⟩:=hN.sl.cons (by omega)
    simp only[XX,XY,F181,yA,yB,yC,nx,d4,hlenv,i1k,hb2,bs190,lA]
    have hNx:∀(m:Mem) (hm:Fresh m) (o:AObj),Nx m ((m.put (m.next+11) o).bump 16):=λm hm o=>⟨by(try simp only[bN,nP]);omega,Fresh.of_low (by have:=hm.n64;(try simp only[bN,nP]);omega) (by repeat(first|exact Low.of hm nO|refine Low.put ?_ nO|refine Low.bump ?_)),λy hy=>by simp only[gB,gP,ne_new hy,if_false]⟩
    have hNc:=hNx M hFM (.cells (ofL [.slice p0 (X.i q).b.length c0, .slice (some ⟨b9,0,none⟩) k c9]) true 1)
    have hb3:=(hAM.nx hNc).bs q hq
    rw[show L.b q=_ from ep0] at hb3
    have hs3:=hN.sl.keep (M':=(M.put (M.next+11) (.cells (ofL [.slice p0 (X.i q).b.length c0, .slice (some ⟨b9,0,none⟩) k c9]) true 1)).bump 16) λy o hy ho=>(hNc.old y (hN.sl.lt hFM hy)).trans ho
    have hL1:((X.i q).b.map By).length=(X.i q).b.length:=by rw[lM]
    have hL2:(l.map By).length=k:=by rw[lM,hl]
    refine cX (concat_growB hNc.fresh (b0:=M.next+11) (f1:=(X.i q).b.map By) (f2:=l.map By) (by rw[gB,gP,if_pos rfl]) rfl rfl (by rw[hL1];exact hb3.src) (by rw[hL2];exact hs3.src) (λM=>by rw[hL1];exact hb3.lenA und_127) (λM=>by rw[hL2];exact hs3.lenA und_127) (by rw[List.all_map];exact List.all_eq_true.2 λ_ _=>rfl) (by rw[List.all_map];exact List.all_eq_true.2 λ_ _=>rfl) (by rw[hL1,hL2];omega) (λy hy=>hb3.lt hNc.fresh hy) (λy hy=>hs3.lt hNc.fresh hy)) λu3 M3 hC=>?_
    have hNC:=hNc.trans hC.nx
    have nC:=hNC.next
    have i1C:=hNC.keep hFM i1k
    have h1C:=hNC.keep hFM h1k
    have hLB:((X.i q).b++l).length=((X.i q).b.map By).length+(l.map By).length:=by rw[aL,hL1,hL2,hl]
    have h64:=hFM.n64
    have hnc0:=hNc.next
    have hnew:∀y,slB u3=some y->M.next<=y∧y<M3.next:=λy hy=>⟨by have:=hC.new y hy;omega,hC.sl.lt hC.nx.fresh hy⟩
    have hres:=hAM.set_b (M:=M3) (v':=u3) hq (B:=(X.i q).b++l) i1k i2 nC hnew h64 hNC.old (by rw[hLB,List.map_append];exact hC.sl)
    have npi:¬L.p i=L.i q:=h.p_i hi hq
    have k0:0+1<=ci.n:=by rw[i2.n];decide
    have hF5:Fd L.D M (M3.put (L.i q) (.cells (ci.write 0 [u3]) true 0)):=(Fd.of_nx hNC).put (.inl (h.dm _ (h.mi hq))) hAM.lt (.inl (by rw[i1C];simp))
    have n9:m.next<=M3.next:=by omega
    have hgx:GX {X with I:=X.I.set q {X.i q with b:=(X.i q).b++l}}:=hg.set_i (by show((((X.i q).b++l).length:Nat):Int)<=X.cap;rw[hLB,hL1,hL2];omega)
    have hx5:Lx M.next L {L with bv:=L.bv.set q u3,D:=λy=>L.D y∨slB u3=some y}:=⟨rfl,⟨[],by simp⟩,⟨[],by simp⟩,⟨[],by simp⟩,⟨[],by simp⟩,⟨[],by simp⟩,λy hy=>hy.imp _root_.id λe=>(hnew y e).1⟩
    have htM5:Tb (M3.put (L.i q) (.cells (ci.write 0 [u3]) true 0)):=(htM.nx hFM hNC).put (h.d64 _ (h.dm _ (h.mi hq)))
    have hu1:u3.cells.toList=[u3]:=by rcases hC.sl.at_ with⟨_,rfl⟩|⟨_,_,_,rfl,_⟩<;>rfl
    have hu2:[u3].length=1∧[u3].all oneCell=true:=by rcases hC.sl.at_ with⟨_,rfl⟩|⟨_,_,_,rfl,_⟩<;>exact⟨rfl,rfl⟩
    simp only[XX,XY,F181,yA,yB,yC,n9,i1C,k0,hu1,hu2,h1C,npi,h2.f]
    obtain⟨L5,hres,hx5,e5f,e5q⟩:∃L5,FAt (M3.put (L.i q) (.cells (ci.write 0 [u3]) true 0)) L5 {X with I:=X.I.set q {X.i q with b:=(X.i q).b++l}}∧Lx M.next L L5∧L5.f=L.f∧L5.i q=L.i q:=⟨_,hres,hx5,rfl,rfl⟩
    refine cX (by
     have hw:=wake_ok (hres.bump 6) hF5.fresh.bump hgx (show X.fut.length<100000 by omega) (w:=2) (q:=q) (show q<(X.I.set q _).length by rw[sL];exact hq)
     rw[e5f,e5q] at hw
     exact hw) λu4 M4 hB4=>?_
    have hB4:=hB4.of_bump
    have hWk:(wakeX {X with I:=X.I.set q {X.i q with b:=(X.i q).b++l}} 2 q).P.length=X.P.length∧(wakeX {X with I:=X.I.set q {X.i q with b:=(X.i q).b++l}} 2 q).seen=X.seen:=⟨wakeI_P.1,wakeI_P.2.2.2.2⟩
    generalize wakeX {X with I:=X.I.set q {X.i q with b:=(X.i q).b++l}} 2 q=V at hB4 hWk⊢
    obtain⟨L4,a4,x4,f4⟩:=id hB4
    have n40:=f4.next
    rw[nP] at n40
    have n41:m.next<=M4.next:=by omega
    have e4i:L4.p i=L.p i:=(x4.p (by rw[hres.lP];exact hi)).trans (hx5.p (by rw[h.lP];exact hi))
    simp only[XX,XY,F181,yA,yB,yC,n41,hlenv,cvk]
    refine cX (by rw[<-e4i];exact answer_ok (v:=BitVec.ofNat 32 k) (a4.bump _) f4.fresh.bump ((htM5.fd f4 hF5.fresh hres.d64).bump _) (by rw[hWk.1];exact hi) (by rw[hWk.2];omega)) λu M9 hB9=>?_
    have hB9:=hB9.of_bump
    have n9:=hB9.next
    have n10:m.next<=M9.next:=by omega
    simp only[XX,yA]
    exact(bE Lx.refl (Fd.of_nx hn1) (bE hx5 hF5 (bE x4 f4 hB9))).raw
   ·have d4:=decide_eq_false (show¬(0:Int)<(k:Int) by omega)
    have e:wrY X q l=X:=by unfold wrY;rw[if_neg (by omega)]
    rw[e]
    simp only[XX,XY,F181,yA,yB,yC,nx,d4,hlenv,cvk,lA]
    refine cX (answer_ok (v:=BitVec.ofNat 32 k) (hAM.bump _) hFM.bump (htM.bump _) hi (by omega)) λu M9 hB9=>?_
    have hB9:=hB9.of_bump
    have n9:=hB9.next
    have n10:m.next<=M9.next:=by omega
    simp only[XX,yA]
    exact(bE Lx.refl (Fd.of_nx hn1) hB9).raw
end
end
end Go.Ab
