/- Part. -/
import Derived.Test.YtdhcheegbnnlbaaGreatDoorA16
set_option linter.all false
open Go.Ab.Mem renaming next_bump → bN, next_put → nP, get_bump → gB, get_put → gP
open Nat renaming le_of_ble_eq_true → bA, le_add_right_of_le → lA, lt_of_lt_of_le → lL, le_refl → lR', le_trans → lT
open List renaming getD_eq_getElem?_getD → gD', getElem?_eq_getElem → gE', append_assoc → aA, getElem?_append_left → aB', getElem?_append_right → aC', getElem?_map → gM', length_map → lM, length_set → sL
open Go.Ab.CallI renaming ex2 → cX, con0 → cZ
open Go.Ab.TidyE renaming pure → tP
open Go.Ab.Cells renaming ofList → ofL
open Go.Ab.Be renaming trans → bE
open Nat renaming reduceLT → yA, reduceEqDiff → yB, reduceAdd → yC, reduceMul → yD, reduceSub → yE, reducePow → yF, reduceLeDiff → yG
open Int renaming reduceEq → yH, reduceLT → yI, reduceLE → yJ
namespace Go.Ab
open Go.Proofs
noncomputable section
set_option maxHeartbeats 4000000
set_option maxRecDepth 10000
section
variable{m m' M mr:Mem}{n:Nat}{L L' L1 L2:Loc}{X X' X1 X2 Y W:St}{v:Value}{fl:List Value}{pid:Int}
def fdS(X:St)(i k:Nat)(o:Option Nat):St:={X with P:=X.P.set i {X.p i with fds:=(X.p i).fds.set k o}}
def closeF(X:St)(i k x:Nat):St:=dropX (answerX (fdS X i k none) i 0#32) x
def refX(X:St)(x:Nat):St:={X with F:=X.F.set x {X.x x with refs:=IntKind.i64.wrap ((X.x x).refs+1)}}
def dupX(X:St)(i x k:Nat):St:=answerX (fdS (refX X x) i k (some x)) i (BitVec.ofNat 32 k)
def filesF(X:St)(i:Nat)(n:Int)(a0 a1 a2:BitVec 32)(F:List Nat):St:=if n=6 then pipeC X i a0 F else match endX X i a0 with
 |none=>codeX X i 9
 |some x=>if n=7∧(X.x x).write=false then readPX X i (X.x x).p a1 a2 else if n=8∧(X.x x).write=true then writePX X i (X.x x).p a1 a2 else if n=9 then closeF X i a0.toNat x else if n≠10 then codeX X i 9 else
  if F.length=0 then codeX X i 24 else dupX X i x (F.getD 0 0)
def filesX(X:St)(i:Nat)(n:Int)(a0 a1 a2:BitVec 32):St:=filesF X i n a0 a1 a2 (freeN (X.p i).fds 8)
theorem endX_lt(hg:GX X){i x:Nat}{a:BitVec 32}(hi:i<X.P.length)(h:endX X i a=some x):a.toNat<8∧(X.p i).fds.getD a.toNat none=some x∧x<X.F.length:=by
 unfold endX at h
 by_cases c:8<=a.toNat
 ·rw[if_pos c] at h;cases h
 ·rw[if_neg c] at h
  exact⟨by omega,h,(hg.fd i hi).2 _ _ h⟩
theorem GX.fdS(h:GX X){i k:Nat}{o:Option Nat}(hi:i<X.P.length)(ho:∀x,o=some x->x<X.F.length):GX (fdS X i k o):=h.set_p ((h.px hi).s_fds ho)
theorem n5{n:Int}:(decide (n=7)=true∧decide (n=8)=false∧decide (n=9)=false∧decide (n=10)=false)∨(decide (n=7)=false∧decide (n=8)=true∧decide (n=9)=false∧decide (n=10)=false)∨(decide (n=7)=false∧decide (n=8)=false∧decide (n=9)=true∧decide (n=10)=false)∨(decide (n=7)=false∧decide (n=8)=false∧decide (n=9)=false∧decide (n=10)=true)∨(decide (n=7)=false∧decide (n=8)=false∧decide (n=9)=false∧decide (n=10)=false):=by
 simp only[decide_eq_true_eq,decide_eq_false_iff_not]
 omega
theorem files_ok(h:FAt m L X)(hm:Fresh m)(ht:Tb m)(hg:GX X){i:Nat}(hi:i<X.P.length)(hs:X.seen.length<99980)(hf:X.fut.length<99980){n:Int}{a0 a1 a2:BitVec 32}:∃u m',Con EE.P 130 [PT (L.p i),In n, .agg [Um a0,Um a1,Um a2].toArray] m u m'∧Be m L (filesX X i n a0 a1 a2) m':=by
 refine Con.raw EE_ok fn130 (bA rfl) _ ?_
 have hfl:=(hg.fd i hi).1
 have t0:Int.toNat 0=0:=rfl
 have t1:Int.toNat 1=1:=rfl
 have t2:Int.toNat 2=2:=rfl
 have g0:(0:Int)<=0:=by decide
 have g1:(0:Int)<=1:=by decide
 have g2:(0:Int)<=2:=by decide
 have i0:(0:Int)<((3:Nat):Int):=by decide
 have i1:(1:Int)<((3:Nat):Int):=by decide
 have i2:(2:Int)<((3:Nat):Int):=by decide
 simp only[XX,XY,F130,yA,yB,yC,t0,g0,i0]
 refine cZ (end_ok ((h.new' (j:=0)).bump _) hg hi) ?_
 simp only[XX,XY,F130,yA,yB]
 refine CallI.ex2L (free_ok ((h.new' (j:=0)).bump _) (⟨by(try simp only[bN,nP]);omega,Fresh.of_low (by have:=hm.n64;(try simp only[bN,nP]);omega) (by repeat(first|exact Low.of hm nO|refine Low.put ?_ nO|refine Low.bump ?_)),λy hy=>by simp only[gB,gP,ne_new hy,if_false]⟩:Nx m _).fresh hg hi) (by simp) λv M hN=>?_
 have hN0:Nx m ((m.put m.next (.cells (ofL [Um a0,Um a1,Um a2]) true 0)).bump 9):=⟨by(try simp only[bN,nP]);omega,Fresh.of_low (by have:=hm.n64;(try simp only[bN,nP]);omega) (by repeat(first|exact Low.of hm nO|refine Low.put ?_ nO|refine Low.bump ?_)),λy hy=>by simp only[gB,gP,ne_new0 hy,if_false]⟩
 have hNM:=hN0.trans hN.nx
 have nx:=hNM.next
 have hb:M.get m.next=some (.cells (ofL [Um a0,Um a1,Um a2]) true 0):=hN.nx.keep hN0.fresh gA
 have hbl:m.next<M.next:=by have:=hN.nx.next;simp only[bN,nP] at this;omega
 have hFM:=hNM.fresh
 have hAM:=h.nx hNM
 have htM:=ht.nx hm hNM
 have hlenF:∀M,lenA EE.P 41 v M=some (In (freeN (X.p i).fds 8).length):=λM=>hN.sl.lenA und_41
 have hvD:∀y,slB v=some y->¬L.D y:=λy hy e=>by have:=hN.new y hy;have:=h.lt y e;simp only[bN,nP] at*;omega
 have hvl:∀y,slB v=some y->y<M.next:=λy hy=>hN.sl.lt hN.nx.fresh hy
 have hF8:=freeN_len (F:=(X.p i).fds) (k:=8)
 have hFm:∀k∈freeN (X.p i).fds 8,k<8:=λk hk=>(freeN_mem.1 hk).1
 have hsl:=hN.sl
 unfold filesX
 generalize freeN (X.p i).fds 8=F at hlenF hF8 hFm hsl⊢
 have hB:∀K (c:Int),∃u m',Con EE.P 87 [PT (L.p i),In c] (M.bump K) u m'∧Be (M.bump K) L (codeX X i c) m':=λK c=>code_okk (hAM.bump _) hFM.bump (htM.bump _) hi (Nat.lt_trans hs (by decide))
 by_cases e6:n=6
 ·have d6:=decide_eq_true e6
  rw[show filesF X i n a0 a1 a2 F=pipeC X i a0 F by unfold filesF;rw[if_pos e6]]
  simp only[XX,XY,F130,yA,yB,yC,nx,hb,t0,g0,i0,d6,lA]
  refine cX (pipe_ok (hAM.bump _) hFM.bump (htM.bump _) hg hi (by omega) (hsl.bump _) hvD hFm hF8) λu M9 hB9=>?_
  have hB9:=hB9.of_bump
  have n9:=hB9.next
  have n10:m.next<=M9.next:=by omega
  simp only[XX,yA]
  exact(bE Lx.refl (Fd.of_nx hNM) hB9).raw
 have d6:=decide_eq_false e6
 cases ho:endX X i a0 with
 |none=>
  rw[show filesF X i n a0 a1 a2 F=codeX X i 9 by unfold filesF;rw[if_neg e6,ho]]
  rcases n5 (n:=n) with⟨d7,d8,d9,d10⟩|⟨d7,d8,d9,d10⟩|⟨d7,d8,d9,d10⟩|⟨d7,d8,d9,d10⟩|⟨d7,d8,d9,d10⟩
  all_goals
   simp only[XX,XY,F130,yA,yB,yC,nx,d6,d7,d8,d9,d10,pV_n',lA]
   refine cX (hB _ _) λu M9 hB9=>?_
   have hB9:=hB9.of_bump
   have n9:=hB9.next
   have n10:m.next<=M9.next:=by omega
   simp only[XX,yA]
   exact(bE Lx.refl (Fd.of_nx hNM) hB9).raw
 |some x=>
  obtain⟨ha8,hgx,hx⟩:=endX_lt hg hi ho
  obtain⟨cx,x1,x2⟩:=hAM.xs x hx
  have x3:=x2.write
  have hq:=hg.xp x hx
  obtain⟨cp,p1,p2⟩:=hAM.pr i hi
  have h1M:=p1
  have gA0:(0:Int)<=(a0.toNat:Int):=by omega
  have gA1:(a0.toNat:Int)<((8:Nat):Int):=by omega
  have kA:52+(a0.toNat+1)<=cp.n:=by rw[p2.n];omega
  have kX:2+1<=cx.n:=by rw[x2.n];decide
  rcases n5 (n:=n) with⟨d7,d8,d9,d10⟩|⟨d7,d8,d9,d10⟩|⟨d7,d8,d9,d10⟩|⟨d7,d8,d9,d10⟩|⟨d7,d8,d9,d10⟩
  ·have c7:=of_decide_eq_true d7
   have c8:=of_decide_eq_false d8
   have c9:=of_decide_eq_false d9
   have c10:=of_decide_eq_false d10
   cases hw:(X.x x).write with
   |false=>
    rw[show filesF X i n a0 a1 a2 F=readPX X i (X.x x).p a1 a2 by unfold filesF;rw[if_neg e6,ho];show(if n=7∧_ then _ else _)=_;rw[if_pos ⟨c7,hw⟩]]
    rw[hw] at x3
    simp only[XX,XY,F130,yA,yB,yC,nx,hb,t1,t2,g1,g2,i1,i2,d6,d7,x1,x3,x2.p,pV_s',lA]
    refine cX (readP_ok (hAM.bump _) hFM.bump (htM.bump _) hg hi hq (by omega) (by omega)) λu M9 hB9=>?_
    have hB9:=hB9.of_bump
    have n9:=hB9.next
    have n10:m.next<=M9.next:=by omega
    simp only[XX,yA]
    exact(bE Lx.refl (Fd.of_nx hNM) hB9).raw
   |true=>
    rw[show filesF X i n a0 a1 a2 F=codeX X i 9 by unfold filesF;rw[if_neg e6,ho];show(if n=7∧_ then _ else _)=_;rw[if_neg (λe=>by rw[hw] at e;cases e.2),if_neg (λe=>c8 e.1),if_neg c9,if_pos c10]]
    rw[hw] at x3
    simp only[XX,XY,F130,yA,yB,yC,nx,d6,d7,d8,d9,d10,x1,x3,pV_s',lA]
    refine cX (hB _ _) λu M9 hB9=>?_
    have hB9:=hB9.of_bump
    have n9:=hB9.next
    have n10:m.next<=M9.next:=by omega
    simp only[XX,yA]
    exact(bE Lx.refl (Fd.of_nx hNM) hB9).raw
  ·have c7:=of_decide_eq_false d7
   have c8:=of_decide_eq_true d8
   have c9:=of_decide_eq_false d9
   have c10:=of_decide_eq_false d10
   cases hw:(X.x x).write with
   |false=>
    rw[show filesF X i n a0 a1 a2 F=codeX X i 9 by unfold filesF;rw[if_neg e6,ho];show(if n=7∧_ then _ else _)=_;rw[if_neg (λe=>c7 e.1),if_neg (λe=>by rw[hw] at e;cases e.2),if_neg c9,if_pos c10]]
    rw[hw] at x3
    simp only[XX,XY,F130,yA,yB,yC,nx,d6,d7,d8,d9,d10,x1,x3,pV_s',lA]
    refine cX (hB _ _) λu M9 hB9=>?_
    have hB9:=hB9.of_bump
    have n9:=hB9.next
    have n10:m.next<=M9.next:=by omega
    simp only[XX,yA]
    exact(bE Lx.refl (Fd.of_nx hNM) hB9).raw
   |true=>
    rw[show filesF X i n a0 a1 a2 F=writePX X i (X.x x).p a1 a2 by unfold filesF;rw[if_neg e6,ho];show(if n=7∧_ then _ else _)=_;rw[if_neg (λe=>c7 e.1),if_pos ⟨c8,hw⟩]]
    rw[hw] at x3
    simp only[XX,XY,F130,yA,yB,yC,nx,hb,t1,t2,g1,g2,i1,i2,d6,d7,d8,x1,x3,x2.p,pV_s',lA]
    refine cX (writeP_ok (hAM.bump _) hFM.bump (htM.bump _) hg hi hq (by omega) (by omega)) λu M9 hB9=>?_
    have hB9:=hB9.of_bump
    have n9:=hB9.next
    have n10:m.next<=M9.next:=by omega
    simp only[XX,yA]
    exact(bE Lx.refl (Fd.of_nx hNM) hB9).raw
  ·have c7:=of_decide_eq_false d7
   have c8:=of_decide_eq_false d8
   have c9:=of_decide_eq_true d9
   have c10:=of_decide_eq_false d10
   rw[show filesF X i n a0 a1 a2 F=closeF X i a0.toNat x by unfold filesF;rw[if_neg e6,ho];simp[c9]]
   simp only[XX,XY,F130,yA,yB,yC,nx,hb,h1M,gA0,gA1,kA,t0,g0,i0,d6,d7,d8,d9,pV_s',lA]
   have hp:=p2.s_fds (k:=a0.toNat) ha8 (x:=none)
   have hB3:=hAM.be_p hFM hi hp
   obtain⟨L3,a3,x3',f3⟩:=id hB3
   refine cX (answer_ok (v:=0#32) ((hAM.put_p hi hp).bump 46) hB3.fresh.bump ((htM.put (h.d64 _ (h.dm _ (h.mp hi)))).bump _) (by rw[sL];exact hi) (show X.seen.length<100000 by omega)) λu M4 hB4=>?_
   have hB4:Be M L (answerX (fdS X i a0.toNat none) i 0#32) M4:=bE Lx.refl (Fd.own hAM hFM (h.mp hi)) hB4.of_bump
   have g3:GX (fdS X i a0.toNat none):=hg.fdS hi (λx e=>by cases e)
   have S4:=Sh.answer (i:=i) (v:=0#32) g3 (by simpa [fdS] using hi)
   have sF:(answerX (fdS X i a0.toNat none) i 0#32).fut.length<=X.fut.length:=lR' _
   unfold closeF
   generalize answerX (fdS X i a0.toNat none) i 0#32=V at hB4 S4 sF⊢
   obtain⟨L4,a4,x4,f4⟩:=id hB4
   have e4f:L4.f=L.f:=x4.f
   have e4x:L4.x x=L.x x:=x4.x (by rw[h.lF];exact hx)
   have n4:=f4.next
   have n41:m.next<=M4.next:=by omega
   obtain⟨c4,y1,y2⟩:=a4.pr i (by rw[show i=i from rfl];exact lL hi (lT (by simp[fdS]) S4.P))
   have e4p:L4.p i=L.p i:=x4.p (by rw[h.lP];exact hi)
   rw[e4p] at y1
   simp only[XX,XY,F130,yA,yB,yC,n41,y1,y2.f,e4f]
   refine cX (by rw[<-e4f,<-e4x];exact drop_ok (a4.bump _) f4.fresh.bump S4.gx (by omega) (lL hx S4.F)) λu M9 hB9=>?_
   have hB9:=hB9.of_bump
   have n9:=hB9.next
   have n10:m.next<=M9.next:=by omega
   simp only[XX,yA]
   exact(bE Lx.refl (Fd.of_nx hNM) (bE x4 f4 hB9)).raw
  ·have c7:=of_decide_eq_false d7
   have c8:=of_decide_eq_false d8
   have c9:=of_decide_eq_false d9
   have c10:=of_decide_eq_true d10
   by_cases hF0:F.length=0
   ·have d11:=decide_eq_true (show(F.length:Int)=0 by omega)
    rw[show filesF X i n a0 a1 a2 F=codeX X i 24 by unfold filesF;rw[if_neg e6,ho];simp[c10,hF0]]
    simp only[XX,XY,F130,yA,yB,yC,nx,d6,d7,d8,d9,d10,d11,hlenF,pV_s',lA]
    refine cX (hB _ _) λu M9 hB9=>?_
    have hB9:=hB9.of_bump
    have n9:=hB9.next
    have n10:m.next<=M9.next:=by omega
    simp only[XX,yA]
    exact(bE Lx.refl (Fd.of_nx hNM) hB9).raw
   ·have d11:=decide_eq_false (show¬(F.length:Int)=0 by omega)
    rw[show filesF X i n a0 a1 a2 F=dupX X i x (F.getD 0 0) by unfold filesF;rw[if_neg e6,ho];simp[c10,hF0]]
    obtain⟨b9,c9,cs9,rfl,z1,z2,z3,z4⟩:=hsl.cons (by omega)
    obtain⟨F0,eF0⟩:∃k,k=F.getD 0 0:=⟨_,rfl⟩
    have hF08:F0<8:=by rw[eF0];exact hFm _ (getD_mem (by omega))
    have q0:cs9.nth 0=some (In F0):=by
     rw[nth_lt (by omega),z4 0 (by simp;omega),eF0,gD',gM',gD',gE' (by omega)];rfl
    rw[<-eF0]
    have gF:(0:Int)<(F.length:Int):=by omega
    have gF0:(0:Int)<=(F0:Int):=by omega
    have gF1:(F0:Int)<((8:Nat):Int):=by omega
    have kF:52+(F0+1)<=cp.n:=by rw[p2.n];omega
    have cvF:∀M,convV EE.P 3 36 (In (F0:Int)) M=some (Um (BitVec.ofNat 32 F0)):=λM=>conv_iu' (by omega)
    have npx:¬L.p i=L.x x:=h.p_x hi hx
    have nb9:∀{y:Nat},L.D y->¬b9=y:=λhy e=>hvD b9 rfl (by rw[e];exact hy)
    have nbx:¬b9=L.x x:=nb9 (h.dm _ (h.mx hx))
    have nbp:¬b9=L.p i:=nb9 (h.dm _ (h.mp hi))
    simp only[XX,XY,F130,yA,yB,yC,nx,t0,g0,d6,d7,d8,d9,d10,d11,hlenF,x2.refs,kX,z1,q0,gF,gF0,gF1,kF,cvF,npx,nbx,nbp,h1M,x1,pV_s',lA]
    have A1:FAt _ L (refX X x):=hAM.s_xrefs hx x1 (x:=IntKind.i64.wrap ((X.x x).refs+1))
    have B1:=hAM.be_x hFM hx (x2.w_refs (x:=IntKind.i64.wrap ((X.x x).refs+1)))
    have hp:=p2.s_fds (k:=F0) hF08 (x:=some x)
    have A2:=A1.put_p hi hp
    have B2:=A1.be_p B1.fresh hi hp
    refine cX (answer_ok (v:=BitVec.ofNat 32 F0) (A2.bump 71) B2.fresh.bump (((htM.put (h.d64 _ (h.dm _ (h.mx hx)))).put (h.d64 _ (h.dm _ (h.mp hi)))).bump _) (by rw[sL];exact hi) (show X.seen.length<100000 by omega)) λu M9 hB9=>?_
    have hB9:=hB9.of_bump
    have n9:=hB9.next
    rw[nP,nP] at n9
    have n10:m.next<=M9.next:=by omega
    simp only[XX,yA]
    exact(bE Lx.refl (Fd.of_nx hNM) (bE Lx.refl (Fd.own hAM hFM (h.mx hx)) (bE Lx.refl (Fd.own A1 B1.fresh (h.mp hi)) hB9))).raw
  ·have c7:=of_decide_eq_false d7
   have c8:=of_decide_eq_false d8
   have c9:=of_decide_eq_false d9
   have c10:=of_decide_eq_false d10
   rw[show filesF X i n a0 a1 a2 F=codeX X i 9 by unfold filesF;rw[if_neg e6,ho];simp[c7,c8,c9,c10]]
   simp only[XX,XY,F130,yA,yB,yC,nx,d6,d7,d8,d9,d10,pV_s',lA]
   refine cX (hB _ _) λu M9 hB9=>?_
   have hB9:=hB9.of_bump
   have n9:=hB9.next
   have n10:m.next<=M9.next:=by omega
   simp only[XX,yA]
   exact(bE Lx.refl (Fd.of_nx hNM) hB9).raw
end
section
variable{m m' M mr:Mem}{n:Nat}{L L' L1 L2:Loc}{X X' X1 X2 Y W:St}{v:Value}{fl:List Value}{pid:Int}
def sigS(X:St)(i:Nat)(s:Sg):St:={X with P:=X.P.set i {X.p i with sig:=s}}
def turnX(X:St)(i:Nat)(w:BitVec 32)(s:Sg)(e:Int):St:=if e=0 then answerX (sigS X i s) i w else codeX X i 22
theorem turn_ok(h:FAt m L X)(hm:Fresh m)(ht:Tb m){i:Nat}(hi:i<X.P.length)(hs:X.seen.length<99999){w:BitVec 32}{s:Sg}(h16:s.h.length=16){e:Int}:∃u m',Con EE.P 184 [PT (L.p i),Um w,SgV s,In e] m u m'∧Be m L (turnX X i w s e) m':=by
 refine Con.raw EE_ok fn184 (bA rfl) _ ?_
 have ho:= @sg_one s
 have hl:=sg_len h16
 have hsb:=sg_all h16
 have hlt:=h.ids_lt (h.mp hi)
 by_cases e0:e=0
 ·have d0:=decide_eq_true e0
  obtain⟨cs,h1,h2⟩:=h.pr i hi
  have ne1:¬L.p i=m.next:=by omega
  have ne2:¬m.next=L.p i:=by omega
  have k1:27+19<=cs.n:=by rw[h2.n];decide
  have hp:=h2.w_sig (x:=s) hl h16
  have A1:FAt (m.put m.next (.cells (ofL (sgL s)) true 0)) L X:=h.new' (j:=0)
  have F2:∀k,1<=k->Fd L.D m (((m.put m.next (.cells (ofL (sgL s)) true 0)).put (L.p i) (.cells (cs.write 27 (sgL s)) true 0)).bump k):=λk hk=>Pu.fd (j:=1) (Pu.own h (h.mp hi) (Pu.new (Pu.refl hm) (by omega))) hm hk
  simp only[XX,XY,F184,yA,yB,yC,ho,hl,hsb,d0,h1,ne1,k1]
  refine cX (answer_ok (v:=w) ((A1.put_p hi hp).bump _) (F2 _ (by omega)).fresh (((ht.put (by have:=hm.n64;omega)).put (h.d64 _ (h.dm _ (h.mp hi)))).bump _) (by simpa using hi) (show X.seen.length<100000 by omega)) λu M hB=>?_
  have nx:=hB.of_bump.next
  simp only[nP] at nx
  simp only[XX,yA]
  refine RawE.fin ?_ (bE Lx.refl (F2 _ (by omega)) hB)
  unfold turnX
  rw[if_pos e0];rfl
 ·have d0:=decide_eq_false e0
  simp only[XX,XY,F184,yA,yB,yC,d0]
  refine cX (code_okk ((h.new' (j:=0)).bump _) (⟨by(try simp only[bN,nP]);omega,Fresh.of_low (by have:=hm.n64;(try simp only[bN,nP]);omega) (by repeat(first|exact Low.of hm nO|refine Low.put ?_ nO|refine Low.bump ?_)),λy hy=>by simp only[gB,gP,ne_new hy,if_false]⟩:Nx m _).fresh ((ht.put (by have:=hm.n64;omega)).bump _) hi (show X.seen.length<100000 by omega)) λu M hB=>?_
  have nx:=hB.of_bump.next
  simp only[nP] at nx
  simp only[XX,yA]
  refine RawE.fin ?_ (bE Lx.refl (Fd.of_nx ⟨by(try simp only[bN,nP]);omega,Fresh.of_low (by have:=hm.n64;(try simp only[bN,nP]);omega) (by repeat(first|exact Low.of hm nO|refine Low.put ?_ nO|refine Low.bump ?_)),λy hy=>by simp only[gB,gP,ne_new hy,if_false]⟩) hB)
  unfold turnX
  rw[if_neg e0]
def killX(X:St)(i:Nat)(pid:Int)(g:BitVec 32):St:=if 15<g.toNat then codeX X i 22 else if liveX X pid=none then codeX X i 3 else if 0<g.toNat then postX (answerX X i 0#32) pid g.toNat else answerX X i 0#32
theorem kill_ok(h:FAt m L X)(hm:Fresh m)(ht:Tb m)(hg:GX X){i:Nat}(hi:i<X.P.length)(hs:X.seen.length<99990)(hf:X.fut.length<99990){g:BitVec 32}:∃u m',Con EE.P 182 [PT (L.p i),In pid,Um g] m u m'∧Be m L (killX X i pid g) m':=by
 refine Con.raw EE_ok fn182 (bA rfl) _ ?_
 have hlt:=h.ids_lt (h.mp hi)
 have hB:∀K (c:Int),∃u m',Con EE.P 87 [PT (L.p i),In c] (m.bump K) u m'∧Be (m.bump K) L (codeX X i c) m':=λK c=>code_okk (h.bump _) hm.bump (ht.bump _) hi (Nat.lt_trans hs (by decide))
 unfold killX
 by_cases hc:15<g.toNat
 ·have d1:=decide_eq_true (show(15:Int)<(g.toNat:Int) by omega)
  rw[if_pos hc]
  simp only[XX,XY,F182,yA,yB,yC,d1]
  refine cX (hB _ _) λu M hB'=>?_
  have hB2:=hB'.of_bump
  have nx:=hB2.next
  simp only[XX,yA]
  exact hB2.raw
 have d1:=decide_eq_false (show¬(15:Int)<(g.toNat:Int) by omega)
 rw[if_neg hc]
 obtain⟨cs,h1,h2⟩:=h.pr i hi
 simp only[XX,XY,F182,yA,yB,yC,d1,h1,h2.f]
 refine cZ (live_ok (h.bump _) hg) ?_
 cases hl:liveX X pid with
 |none=>
  rw[if_pos rfl]
  simp only[XX,XY,F182,yA,yB,yC,pV]
  refine cX (hB _ _) λu M hB'=>?_
  have hB2:=hB'.of_bump
  have nx:=hB2.next
  simp only[XX,yA]
  exact hB2.raw
 |some j=>
  rw[if_neg (by simp)]
  simp only[XX,XY,F182,yA,yB,yC,pV]
  refine cX (answer_ok (v:=0#32) (h.bump _) hm.bump (ht.bump _) hi (show X.seen.length<100000 by omega)) λu M hB1=>?_
  have hB1:=hB1.of_bump
  have n1:=hB1.next
  obtain⟨L1,a1,x1,f1⟩:=id hB1
  have S1:=Sh.answer (v:=0#32) hg hi
  by_cases hc2:0<g.toNat
  ·have d2:=decide_eq_true (show(0:Int)<(g.toNat:Int) by omega)
   rw[if_pos hc2]
   have e1f:L1.f=L.f:=x1.f
   obtain⟨c1,y1,y2⟩:=a1.pr i (lL hi S1.P)
   have e1p:L1.p i=L.p i:=x1.p (by rw[h.lP];exact hi)
   rw[e1p] at y1
   have sF:(answerX X i 0#32).fut.length<=X.fut.length:=lR' _
   have sN:=S1.sn
   simp only[XX,XY,F182,yA,yB,yC,n1,d2,y1,y2.f,e1f,conv_ui,lA]
   refine cX (by rw[<-e1f];exact post_ok (a1.bump _) f1.fresh.bump ((hB1.tb h hm ht).bump _) S1.gx (by omega) (by omega)) λu M9 hB9=>?_
   have hB9:=hB9.of_bump
   have n9:=hB9.next
   have n10:m.next<=M9.next:=by omega
   simp only[XX,yA]
   exact(bE x1 f1 hB9).raw
  ·have d2:=decide_eq_false (show¬(0:Int)<(g.toNat:Int) by omega)
   rw[if_neg hc2]
   simp only[XX,XY,F182,yA,yB,yC,n1,d2]
   exact(hB1.bump _).raw
end
section
variable{m m' M mr:Mem}{n:Nat}{L L' L1 L2:Loc}{X X' X1 X2 Y W:St}{v:Value}{fl:List Value}{pid:Int}
def smW(a:BitVec 32):BitVec 32:=if 2147483647<a.toNat then 2147483647#32 else a
theorem min_sm{a:BitVec 32}:minV EE.P (Um a) (.int .u32 2147483647)=some (Um (smW a)):=by
 rw[minV_i]
 unfold smW
 by_cases c:2147483647<a.toNat
 ·rw[if_pos c,if_pos (by omega)];rfl
 ·rw[if_neg c,if_neg (by omega)]
theorem mask_h{s:Sg}{x:BitVec 32}(h:s.h.length=16):(maskSg s x).2.1.h.length=16:=by
 unfold maskSg;split<;>exact h
theorem hand_h{s:Sg}{g:Int}{x:BitVec 32}(h:s.h.length=16):(handSg s g x).2.1.h.length=16:=by
 unfold handSg;split
 ·show(s.h.set _ _).length=16;rw[sL];exact h
 ·exact h
theorem ret_h{s:Sg}(h:s.h.length=16):(retSg s).1.h.length=16:=by
 unfold retSg;split<;>exact h
def retX(X:St)(i:Nat):St:=if(retSg (X.p i).sig).2=0 then{X with P:=X.P.set i {X.p i with sig:=(retSg (X.p i).sig).1,cpu:=(X.p i).saved,saved:=cpu0}} else codeX X i 22
def sigsX(X:St)(i:Nat)(n:Int)(a0 a1:BitVec 32):St:=if n=11 then killX X i (smW a0).toNat a1
 else if n=12 then turnX X i (maskSg (X.p i).sig a0).1 (maskSg (X.p i).sig a0).2.1 (maskSg (X.p i).sig a0).2.2
 else if n=13 then turnX X i (handSg (X.p i).sig (smW a0).toNat a1).1 (handSg (X.p i).sig (smW a0).toNat a1).2.1 (handSg (X.p i).sig (smW a0).toNat a1).2.2 else retX X i
theorem sigs_ok(h:FAt m L X)(hm:Fresh m)(ht:Tb m)(hg:GX X){i:Nat}(hi:i<X.P.length)(hs:X.seen.length<99980)(hf:X.fut.length<99980){n:Int}{a0 a1 a2:BitVec 32}:∃u m',Con EE.P 131 [PT (L.p i),In n, .agg [Um a0,Um a1,Um a2].toArray] m u m'∧Be m L (sigsX X i n a0 a1) m':=by
 refine Con.raw EE_ok fn131 (bA rfl) _ ?_
 have t0:Int.toNat 0=0:=rfl
 have t1:Int.toNat 1=1:=rfl
 have g0:(0:Int)<=0:=by decide
 have g1:(0:Int)<=1:=by decide
 have i0:(0:Int)<((3:Nat):Int):=by decide
 have i1:(1:Int)<((3:Nat):Int):=by decide
 have h64:=hm.n64
 have hmn:=min_sm (a:=a0)
 have hN1:∀(o1:AObj) (k:Nat),1<=k->Nx m ((m.put m.next o1).bump k):=λo1 k hk=>⟨by(try simp only[bN,nP]);omega,Fresh.of_low (by have:=hm.n64;(try simp only[bN,nP]);omega) (by repeat(first|exact Low.of hm nO|refine Low.put ?_ nO|refine Low.bump ?_)),λy hy=>by simp only[gB,gP,ne_new0 hy,if_false]⟩
 obtain⟨cs,h1,h2⟩:=h.pr i hi
 have hlt:=h.ids_lt (h.mp hi)
 have ne1:¬L.p i=m.next:=by omega
 have ne2:¬m.next=L.p i:=by omega
 have ne3:∀j,¬L.p i=m.next+j:=λj=>by omega
 have ne4:∀j,¬m.next+j=L.p i:=λj=>by omega
 have h16:=h2.okh
 have hh:=h2.sig
 have ho:= @sg_one (X.p i).sig
 have hl:=sg_len h16
 have q1:= @eqvP
 have q2:= @eqvS
 have q3:= @eqvI
 unfold sigsX
 by_cases c11:n=11
 ·have d11:=decide_eq_true c11
  rw[if_pos c11]
  simp only[XX,XY,F131,yA,yB,yC,t0,t1,g0,g1,i0,i1,d11,Z_min,hmn,conv_ui]
  refine cX (kill_ok (h.nx (hN1 _ _ (by omega))) (hN1 _ _ (by omega)).fresh (ht.nx hm (hN1 _ _ (by omega))) hg hi (by omega) (by omega)) λu M hB=>?_
  have nx:=hB.of_bump.next
  simp only[nP] at nx
  simp only[XX,yA]
  exact(bE Lx.refl (Fd.of_nx (hN1 _ _ (by omega))) hB).raw
 have d11:=decide_eq_false c11
 rw[if_neg c11]
 by_cases c12:n=12
 ·have d12:=decide_eq_true c12
  rw[if_pos c12]
  simp only[XX,XY,F131,yA,yB,yC,t0,g0,i0,d11,d12,Z_min,hmn,conv_ui,h1,hh,ne1]
  refine cZ (mask_s h16) ?_
  have h16':=mask_h (x:=a0) h16
  have ho':= @sg_one (maskSg (X.p i).sig a0).2.1
  have hl':=sg_len h16'
  have hw':∀c:Cells,c.n=19->(c.write 0 (sgL (maskSg (X.p i).sig a0).2.1)).sub 0 19=some (sgL (maskSg (X.p i).sig a0).2.1):=λc hc=>sg_wN h16' hc
  simp only[XX,XY,F131,yA,yB,yC,ho',hl',hw']
  refine CallI.gen (λM=>Nx m M) (nX hm) λM hN=>?_
  refine cX (turn_ok (h.nx hN) hN.fresh (ht.nx hm hN) hi (by omega) h16') λu M' hB=>?_
  have nx:=lT hN.next hB.next
  simp only[XX,yA]
  exact(bE Lx.refl (Fd.of_nx hN) hB).raw
 have d12:=decide_eq_false c12
 rw[if_neg c12]
 by_cases c13:n=13
 ·have d13:=decide_eq_true c13
  rw[if_pos c13]
  simp only[XX,XY,F131,yA,yB,yC,t0,t1,g0,g1,i0,i1,d11,d12,d13,Z_min,hmn,conv_ui,h1,hh,ne1]
  refine cZ (hand_s h16) ?_
  have h16':=hand_h (g:=(smW a0).toNat) (x:=a1) h16
  have ho':= @sg_one (handSg (X.p i).sig (smW a0).toNat a1).2.1
  have hl':=sg_len h16'
  have hw':∀c:Cells,c.n=19->(c.write 0 (sgL (handSg (X.p i).sig (smW a0).toNat a1).2.1)).sub 0 19=some (sgL (handSg (X.p i).sig (smW a0).toNat a1).2.1):=λc hc=>sg_wN h16' hc
  simp only[XX,XY,F131,yA,yB,yC,ho',hl',hw']
  refine CallI.gen (λM=>Nx m M) (nX hm) λM hN=>?_
  refine cX (turn_ok (h.nx hN) hN.fresh (ht.nx hm hN) hi (by omega) h16') λu M' hB=>?_
  have nx:=lT hN.next hB.next
  simp only[XX,yA]
  exact(bE Lx.refl (Fd.of_nx hN) hB).raw
 have d13:=decide_eq_false c13
 rw[if_neg c13]
 simp only[XX,XY,F131,yA,yB,yC,t0,g0,i0,d11,d12,d13,Z_min,hmn,conv_ui,h1,hh,ne1]
 refine cZ (ret_s h16) ?_
 have h16':=ret_h h16
 have ho':= @sg_one (retSg (X.p i).sig).1
 have hl':=sg_len h16'
 have hw':∀c:Cells,c.n=19->(c.write 0 (sgL (retSg (X.p i).sig).1)).sub 0 19=some (sgL (retSg (X.p i).sig).1):=λc hc=>sg_wN h16' hc
 unfold retX
 by_cases c0:(retSg (X.p i).sig).2=0
 ·have d0:=decide_eq_true c0
  rw[if_pos c0]
  have b0:buildA EE.P 47 []=some (.agg (cpuL cpu0).toArray):=kr
  have h11:(cpuL cpu0).length=11:=rfl
  have o1:= @cpuL_one
  have h12:=cpuL_len h2.oks
  have k1:27+19<=cs.n:=by rw[h2.n];decide
  have k2:5+11<=cs.n:=by rw[h2.n];decide
  have k3:16+11<=cs.n:=by rw[h2.n];decide
  have sv:=h2.saved
  have q4:= @eqv_cpu
  have hp:=((h2.w_sig (x:=(retSg (X.p i).sig).1) hl' h16').w_cpu (x:=(X.p i).saved) h12 h2.oks).w_saved (x:=cpu0) h11 cpu0_ok
  simp only[XX,XY,F131,yA,yB,yC,d0,h1,ne1,ne3,ho',hl',hw',b0,h11,o1,h12,k1,k2,k3,sv]
  refine RawE.fin rfl ⟨L,h.upd_p hi hp nO gA (λy hy hne=>(by have:=h.lt y hy;(simp only[gB,gP];repeat(first|rw[if_neg (by omega)]|rw[if_pos trivial]|rw[if_pos (by omega)])))),Lx.refl,Pu.fd (j:=22) (Pu.own h (h.mp hi) (Pu.own h (h.mp hi) (Pu.own h (h.mp hi) (Pu.new (Pu.new (Pu.new (Pu.refl hm) (by omega)) (by omega)) (by omega))))) hm (by omega)⟩
 ·have d0:=decide_eq_false c0
  rw[if_neg c0]
  simp only[XX,XY,F131,yA,yB,yC,d0,ho',hl']
  refine CallI.gen (λM=>Nx m M) (nX hm) λM hN=>?_
  refine cX (code_okk (h.nx hN) hN.fresh (ht.nx hm hN) hi (show X.seen.length<100000 by omega)) λu M' hB=>?_
  have nx:=lT hN.next hB.next
  simp only[XX,yA]
  exact(bE Lx.refl (Fd.of_nx hN) hB).raw
end
section
variable{m:Mem}{w:BitVec 32}
def i16(w:BitVec 32):Int:=IntKind.i16.wrap (w.toNat:Int)
theorem i16_in: -32768<=i16 w∧i16 w<=32767:=by
 have:=w.isLt
 unfold i16 IntKind.wrap
 simp only[IntKind.signed,IntKind.bits]
 simp
 split<;>omega
def decX(w:BitVec 32):Ins:=⟨((w>>>24).toNat:Int),((w>>>20&&&15#32).toNat:Int),((w>>>16&&&15#32).toNat:Int),i16 w⟩
def ins0:Ins:=⟨0,0,0,0⟩
def decodeX(w:BitVec 32):Option Ins:=if checkX (decX w) then some (decX w) else none
theorem decode_ok(ht:m.get 0=some (.cells (.ofList formsL) false 1)):Con EE.P 170 [Um w] m (.tuple [.agg (insL ((decodeX w).getD ins0)).toArray,In (if(decodeX w).isSome then 0 else 30)].toArray) m:=by
 refine Con.of EE_ok fn170 (bA rfl) Grow.rfl λhm=>?_
 have h64:=hm.n64
 have s24:∀{P ty},binV P .shr ty (Um w) (.int .u64 24)=some (Um (w>>>24)):=uu_shr (by decide)
 have s20:∀{P ty},binV P .shr ty (Um w) (.int .u64 20)=some (Um (w>>>20)):=uu_shr (by decide)
 have s16:∀{P ty},binV P .shr ty (Um w) (.int .u64 16)=some (Um (w>>>16)):=uu_shr (by decide)
 have wi:∀x:BitVec 32,IntKind.i64.wrap (x.toNat:Int)=(x.toNat:Int):=λx=>wrap_i64 (by omega) (by have:=x.isLt;omega)
 have w16:IntKind.i64.wrap (IntKind.i16.wrap (w.toNat:Int))=i16 w:=wrap_i64 (by have:= @i16_in w;unfold i16 at this;omega) (by have:= @i16_in w;unfold i16 at this;omega)
 have hw4:= @write4
 have b1:∀a b c d:Int,buildA EE.P 237 [(0,In a),(1,In b),(2,In c),(3,In d)]=some (.agg [In a,In b,In c,In d].toArray):=λa b c d=>by kernel_rfl
 have b0:buildA EE.P 237 []=some (.agg [In 0,In 0,In 0,In 0].toArray):=kr
 simp only[XX,XY,F170,yA,yB,yC,XG,s24,s20,s16,wi,w16,and_15,b1,write4]
 refine cZ (check_ok (x:=decX w) ?_ (Int.natCast_nonneg _) (Int.natCast_nonneg _) (Int.natCast_nonneg _) i16_in) ?_
 ·simp only[gB,gP]
  repeat rw[if_neg (by omega)]
  exact ht
 ·by_cases hc:checkX (decX w)=true
  ·have e:decodeX w=some (decX w):=by unfold decodeX;rw[if_pos hc]
   rw[e,hc]
   simp only[XX,XY,F170,yA,yB,yC,XG,write4]
   exact tP rfl λy hy=>by simp only[gB,gP];repeat rw[if_neg (by omega)]
  ·have e:decodeX w=none:=by unfold decodeX;rw[if_neg hc]
   have hc:checkX (decX w)=false:=by simpa using hc
   rw[e,hc]
   simp only[XX,XY,F170,yA,yB,yC,yH,write4,b0,Option.getD_none,Option.isSome_none]
   exact tP rfl λy hy=>by simp only[gB,gP];repeat rw[if_neg (by omega)]
end
section
variable{m m' M:Mem}{x:Ins}{c:Cpu}{pb:Nat}{cs:Cells}
structure CpC(c:Cpu)(cs:Cells):Prop where
 n:cs.n=11
 l:cs.sub 0 11=some (cpuL c)
 ok:c.ok0
theorem CpC.pc(h:CpC c cs):cs.nth 10=some (Um c.pc):=by
 have:=sub_nth (k:=10) h.l (by decide)
 rw[show 0+10=10 from rfl] at this
 rw[this]
 unfold cpuL
 rw[aC' (by simp[h.ok.1,h.ok.2])]
 simp[h.ok.1,h.ok.2]
theorem CpC.reg(h:CpC c cs){k:Nat}(hk:k<8):cs.nth k=some (Um (c.r.getD k 0#32)):=by
 have h1:=sub_nth (k:=k) h.l (by omega)
 rw[Nat.zero_add] at h1
 have h8:=h.ok.1
 rw[h1]
 unfold cpuL
 rw[aA,aB' (by rw[lM];omega),gM',gD',gE' (by omega)]
 rfl
theorem CpC.setr(h:CpC c cs){k:Nat}(hk:k<8){v:BitVec 32}:CpC {c with r:=c.r.set k v} (cs.write k [Um v]):=by
 refine⟨by rw[write_n,h.n],?_,by show(c.r.set k v).length=8;rw[sL];exact h.ok.1,h.ok.2⟩
 have h1:=sub_write_in (k:=k) (v:=Um v) h.l (by omega)
 rw[Nat.zero_add] at h1
 rw[h1]
 congr 1
 unfold cpuL
 rw[aA,List.set_append_left _ _ (by rw[lM,h.ok.1];exact hk),aA]
 show List.set (c.r.map Um) k (Um v)++_=(c.r.set k v).map Um++_
 rw[List.map_set]
theorem CpC.setpc(h:CpC c cs){v:BitVec 32}:CpC {c with pc:=v} (cs.write 10 [Um v]):=by
 refine⟨by rw[write_n,h.n],?_,h.ok⟩
 have h1:=sub_write_in (k:=10) (v:=Um v) h.l (by omega)
 rw[Nat.zero_add] at h1
 rw[h1]
 congr 1
 unfold cpuL
 rw[List.set_append_right _ _ (by simp[h.ok.1,h.ok.2])]
 simp[h.ok.1,h.ok.2]
structure CpW(m:Mem)(pb:Nat)(c:Cpu)(m':Mem):Prop where
 next:m.next<=m'.next
 fresh:Fresh m'
 cell:∃cs,m'.get pb=some (.cells cs true 0)∧CpC c cs
 old:∀y,y<m.next->y≠pb->m'.get y=m.get y
theorem CpW.raw{u:Value}{p:BitVec 32}(hp:m.get pb=some (.cells cs true 0))(h:CpW m pb c m')(hu:u=Um p):RawE m m' u λu m'=>u=Um p∧CpW m pb c m':=
 ⟨⟨h.next,λy hy e=>by rw[h.old y hy (λe2=>by rw[e2,hp] at e;cases e),e]⟩,hu,h⟩
def jumpX(x:Ins)(c:Cpu):BitVec 32×Cpu:=
 let next:=c.pc+4#32
 let far:=next+4#32*w32 x.imm
 let a:=c.r.getD x.a.toNat 0#32
 if x.op=23 then(a,c) else if x.op=22 then(far,{c with r:=c.r.set x.a.toNat next})
 else if x.op=19∨(x.op=20∧a=0#32)∨(x.op=21∧¬a=0#32) then(far,c) else(next,c)
theorem add4{a:BitVec 32}:IntKind.u32.wrap ((a.toNat:Int)+4)=((a+4#32).toNat:Int):=add32 (b:=4#32)
theorem mul4{a:BitVec 32}:IntKind.u32.wrap (4*(a.toNat:Int))=((4#32*a).toNat:Int):=mul32 (a:=4#32)
theorem eq0{a:BitVec 32}:decide ((a.toNat:Int)=0)=decide (a=0#32):=eq32 (b:=0#32)
theorem jump_ok(hm:Fresh m)(hp:m.get pb=some (.cells cs true 0))(hc:CpC c cs)(h0:0<=x.a)(h8:x.a<8):∃u m',Con EE.P 127 [.agg (insL x).toArray,PT pb] m u m'∧u=Um (jumpX x c).1∧CpW m pb (jumpX x c).2 m':=by
 obtain⟨op,xa,xb,imm⟩:=x
 simp only at h0 h8
 refine Con.raw EE_ok fn127 (bA rfl) _ ?_
 have hl:=hm.lt hp
 have ne1:∀j,¬pb=m.next+j:=λj=>by omega
 have ne2:∀j,¬m.next+j=pb:=λj=>by omega
 have ne3:¬pb=m.next:=by omega
 have ne4:¬m.next=pb:=by omega
 have g2:xa<((8:Nat):Int):=by omega
 have hr:=hc.reg (k:=xa.toNat) (by omega)
 have hpc:=hc.pc
 have ww:IntKind.u32.wrap imm=((w32 imm).toNat:Int):=w32_wrap
 have fr:∀o c1 j,Fresh (((m.put m.next o).put pb c1).bump (j+1)):=λo c1 j=>Fresh.of_low (by have:=hm.n64;simp only[bN,nP];omega) (Low.bump (Low.put (Low.put (Low.of hm nO) nO) nO))
 have base:∀o j,CpW m pb c ((m.put m.next o).bump (j+1)):=λo j=>⟨nO,Fresh.of_low (by have:=hm.n64;simp only[bN,nP];omega) (Low.bump (Low.put (Low.of hm nO) nO)),⟨cs,by rw[gB,gP,if_neg ne3];exact hp,hc⟩,λy hy _=>by rw[gB,gP,if_neg (by omega)]⟩
 have fin:∀(p:BitVec 32) o j,jumpX ⟨op,xa,xb,imm⟩ c=(p,c)->RawE m ((m.put m.next o).bump (j+1)) (Um p) λu m'=>u=Um (jumpX ⟨op,xa,xb,imm⟩ c).1∧CpW m pb (jumpX ⟨op,xa,xb,imm⟩ c).2 m':=λp o j e=>by
  rw[e];exact CpW.raw hp (base o j) rfl
 by_cases e23:op=23
 ·subst e23
  have ej:jumpX ⟨23,xa,xb,imm⟩ c=(c.r.getD xa.toNat 0#32,c):=rfl
  simp only[XX,XY,F127,yA,yB,yC,XG,insL,hp,ne3,h0,g2,hr,hpc,ww,add4,mul4,add32,Nat.reduceAdd]
  exact fin _ _ _ ej
 by_cases e22:op=22
 ·subst e22
  have ej:jumpX ⟨22,xa,xb,imm⟩ c=(c.pc+4#32+4#32*w32 imm,{c with r:=c.r.set xa.toNat (c.pc+4#32)}):=rfl
  have hk:xa.toNat+1<=cs.n:=by rw[hc.n];omega
  simp only[XX,XY,F127,yA,yB,yC,yH,XG,insL,hp,ne3,h0,g2,hr,hpc,ww,add4,mul4,add32,hk]
  rw[ej]
  refine CpW.raw hp ⟨nO,fr _ _ _,⟨_,by rw[gB,gP,if_pos rfl],hc.setr (by omega)⟩,λy hy e=>by rw[gB,gP,if_neg e,gP,if_neg (by omega)]⟩ rfl
 by_cases e19:op=19
 ·subst e19
  have ej:jumpX ⟨19,xa,xb,imm⟩ c=(c.pc+4#32+4#32*w32 imm,c):=rfl
  simp only[XX,XY,F127,yA,yB,yC,yH,XG,insL,hp,ne3,h0,g2,hr,hpc,ww,add4,mul4,add32,Nat.reduceAdd]
  exact fin _ _ _ ej
 by_cases e20:op=20
 ·subst e20
  by_cases hz:c.r.getD xa.toNat 0#32=0#32
  ·have ej:jumpX ⟨20,xa,xb,imm⟩ c=(c.pc+4#32+4#32*w32 imm,c):=by unfold jumpX;dsimp only;rw[if_neg (by decide),if_neg (by decide),if_pos (.inr (.inl ⟨rfl,hz⟩))]
   have hd:=decide_eq_true hz
   simp only[XX,XY,F127,yA,yB,yC,yH,XG,insL,hp,ne3,h0,g2,hr,hpc,ww,add4,mul4,add32,eq0,hd]
   exact fin _ _ _ ej
  ·have ej:jumpX ⟨20,xa,xb,imm⟩ c=(c.pc+4#32,c):=by unfold jumpX;dsimp only;rw[if_neg (by decide),if_neg (by decide),if_neg (λh=>by rcases h with h|⟨_,h⟩|⟨h,_⟩<;>first|exact hz h|exact absurd h (by decide))]
   have hd:=decide_eq_false hz
   simp only[XX,XY,F127,yA,yB,yC,yH,XG,insL,hp,ne3,h0,g2,hr,hpc,ww,add4,mul4,add32,eq0,hd]
   exact fin _ _ _ ej
 by_cases e21:op=21
 ·subst e21
  by_cases hz:c.r.getD xa.toNat 0#32=0#32
  ·have ej:jumpX ⟨21,xa,xb,imm⟩ c=(c.pc+4#32,c):=by unfold jumpX;dsimp only;rw[if_neg (by decide),if_neg (by decide),if_neg (λh=>by rcases h with h|⟨h,_⟩|⟨_,h⟩<;>first|exact h hz|exact absurd h (by decide))]
   have hd:=decide_eq_true hz
   simp only[XX,XY,F127,yA,yB,yC,yH,XG,insL,hp,ne3,h0,g2,hr,hpc,ww,add4,mul4,add32,eq0,hd]
   exact fin _ _ _ ej
  ·have ej:jumpX ⟨21,xa,xb,imm⟩ c=(c.pc+4#32+4#32*w32 imm,c):=by unfold jumpX;dsimp only;rw[if_neg (by decide),if_neg (by decide),if_pos (.inr (.inr ⟨rfl,hz⟩))]
   have hd:=decide_eq_false hz
   simp only[XX,XY,F127,yA,yB,yC,yH,XG,insL,hp,ne3,h0,g2,hr,hpc,ww,add4,mul4,add32,eq0,hd]
   exact fin _ _ _ ej
 ·have ej:jumpX ⟨op,xa,xb,imm⟩ c=(c.pc+4#32,c):=by unfold jumpX;simp[e23,e22,e19,e20,e21]
  simp only[XX,XY,F127,yA,yB,yC,XG,insL,hp,ne3,h0,g2,hr,hpc,ww,add4,mul4,add32,e23,e22,e19,e20,e21]
  exact fin _ _ _ ej
end
section
variable{m m' M:Mem}{x:Ins}{c:Cpu}{pb:Nat}{cs:Cells}
abbrev Cpu.zg(c:Cpu)(k:Nat):Int×Int:=c.z.getD k (0,0)
theorem CpC.zr(h:CpC c cs){k:Nat}(hk:k<2):cs.nth (8+k)=some (zV (c.zg k)):=by
 have h1:=sub_nth (k:=8+k) h.l (by omega)
 rw[Nat.zero_add] at h1
 rw[h1]
 unfold cpuL
 have e1:(c.r.map Um).length=8:=by rw[lM];exact h.ok.1
 have h2:=h.ok.2
 rw[aA,aC' (by omega),e1,aB' (by rw[lM];omega),gM',show 8+k-8=k by omega]
 show _=some (zV (c.z.getD k (0,0)))
 rw[gD',gE' (by omega)]
 rfl
theorem CpC.setz(h:CpC c cs){k:Nat}(hk:k<2){v:Int×Int}:CpC {c with z:=c.z.set k v} (cs.write (8+k) [zV v]):=by
 refine⟨by rw[write_n,h.n],?_,h.ok.1,by show(c.z.set k v).length=2;rw[sL];exact h.ok.2⟩
 have h1:=sub_write_in (k:=8+k) (v:=zV v) h.l (by omega)
 rw[Nat.zero_add] at h1
 rw[h1]
 congr 1
 unfold cpuL
 have e1:(c.r.map Um).length=8:=by rw[lM];exact h.ok.1
 have h2:=h.ok.2
 rw[aA,List.set_append_right _ _ (by omega),e1,show 8+k-8=k by omega,List.set_append_left _ _ (by rw[lM];omega),aA]
 show _++(List.set (c.z.map zV) k (zV v)++_)=_++((c.z.set k v).map zV++_)
 rw[List.map_set]
def Cpu.zok(c:Cpu):Prop:=∀k,k<2->Zin (c.zg k)
def wholeX(x:Ins)(c:Cpu):Cpu:=
 let a:=c.zg x.a.toNat
 let b:=c.zg x.b.toNat
 if x.op=25 then{c with z:=c.z.set x.a.toNat (wrapZ (s32 (c.r.getD x.b.toNat 0#32)),wrapZ (s32 (c.r.getD (x.b.toNat+1) 0#32)))}
 else if x.op=26 then{c with r:=(c.r.set x.b.toNat (w32 a.1)).set (x.b.toNat+1) (w32 a.2)}
 else if x.op=27 then{c with z:=c.z.set x.a.toNat (wrapZ (a.1+b.1),wrapZ (a.2+b.2))}
 else if x.op=28 then{c with z:=c.z.set x.a.toNat (wrapZ (a.1*b.1-a.2*b.2),wrapZ (a.1*b.2+a.2*b.1))}
 else{c with z:=c.z.set x.a.toNat (wrapZ a.1,wrapZ (-a.2))}
theorem eqvIg{z:Int}:EE.eqv (In z) (In z)=true:=by
 show((IntKind.i64==IntKind.i64)&&(z==z))=true
 simp
theorem cells_cx{k:FloatKind}{a b:Nat}:(Value.complex k a b).cells.toList=[.complex k a b]:=rfl
theorem wr_raw{o:AObj}{k j:Nat}{v:Value}{c':Cpu}{u:Value}(hm:Fresh m)(hp:m.get pb=some (.cells cs true 0))(h:CpC c' (cs.write k [v])):RawE m (((m.put m.next o).put pb (.cells (cs.write k [v]) true 0)).bump (j+1)) u λ_ m'=>CpW m pb c' m':=by
 have hl:=hm.lt hp
 have ne3:¬pb=m.next:=by omega
 have hw:CpW m pb c' (((m.put m.next o).put pb (.cells (cs.write k [v]) true 0)).bump (j+1)):=⟨nO,Fresh.of_low (by have:=hm.n64;simp only[bN,nP];omega) (Low.bump (Low.put (Low.put (Low.of hm nO) nO) nO)),⟨_,by rw[gB,gP,if_pos rfl],h⟩,λy hy e=>by rw[gB,gP,if_neg e,gP,if_neg (by omega)]⟩
 exact⟨⟨hw.next,λy hy e=>by rw[hw.old y hy (λe2=>by rw[e2,hp] at e;cases e),e]⟩,hw⟩
theorem whole27_ok(hm:Fresh m)(hp:m.get pb=some (.cells cs true 0))(hc:CpC c cs)(hz:c.zok)(e:x.op=27)(a0:0<=x.a)(a2:x.a<2)(b0:0<=x.b)(b2:x.b<2):∃u m',Con EE.P 128 [.agg (insL x).toArray,PT pb] m u m'∧CpW m pb (wholeX x c) m':=by
 obtain⟨op,xa,xb,imm⟩:=x
 simp only at*
 subst e
 refine Con.raw EE_ok fn128 (bA rfl) _ ?_
 have hl:=hm.lt hp
 have ne1:∀j,¬pb=m.next+j:=λj=>by omega
 have ne2:∀j,¬m.next+j=pb:=λj=>by omega
 have ne3:¬pb=m.next:=by omega
 have ne4:¬m.next=pb:=by omega
 have ga:xa<((2:Nat):Int):=by omega
 have gb:xb<((2:Nat):Int):=by omega
 have rb:=hc.zr (k:=xb.toNat) (by omega)
 have ra:=hc.zr (k:=xa.toNat) (by omega)
 have ej:wholeX ⟨27,xa,xb,imm⟩ c={c with z:=c.z.set xa.toNat (wrapZ ((c.zg xa.toNat).1+(c.zg xb.toNat).1),wrapZ ((c.zg xa.toNat).2+(c.zg xb.toNat).2))}:=rfl
 have hk:8+(xa.toNat+1)<=cs.n:=by rw[hc.n];omega
 rw[ej]
 have hq:= @eqvIg
 simp only[XX,XY,F128,yA,yB,yC,yH,insL,hp,ne3,a0,ga,ra,b0,gb,rb]
 refine cZ (addg_ok (hz _ (by omega)) (hz _ (by omega))) ?_
 simp only[XX,XY,F128,yA,yB,hp,ne3,a0,ga,hk,hq,zV,cells_cx]
 exact wr_raw hm hp (hc.setz (k:=xa.toNat) (by omega))
theorem whole28_ok(hm:Fresh m)(hp:m.get pb=some (.cells cs true 0))(hc:CpC c cs)(hz:c.zok)(e:x.op=28)(a0:0<=x.a)(a2:x.a<2)(b0:0<=x.b)(b2:x.b<2):∃u m',Con EE.P 128 [.agg (insL x).toArray,PT pb] m u m'∧CpW m pb (wholeX x c) m':=by
 obtain⟨op,xa,xb,imm⟩:=x
 simp only at*
 subst e
 refine Con.raw EE_ok fn128 (bA rfl) _ ?_
 have hl:=hm.lt hp
 have ne1:∀j,¬pb=m.next+j:=λj=>by omega
 have ne2:∀j,¬m.next+j=pb:=λj=>by omega
 have ne3:¬pb=m.next:=by omega
 have ne4:¬m.next=pb:=by omega
 have ga:xa<((2:Nat):Int):=by omega
 have gb:xb<((2:Nat):Int):=by omega
 have rb:=hc.zr (k:=xb.toNat) (by omega)
 have ra:=hc.zr (k:=xa.toNat) (by omega)
 have ej:wholeX ⟨28,xa,xb,imm⟩ c={c with z:=c.z.set xa.toNat (wrapZ ((c.zg xa.toNat).1*(c.zg xb.toNat).1-(c.zg xa.toNat).2*(c.zg xb.toNat).2),wrapZ ((c.zg xa.toNat).1*(c.zg xb.toNat).2+(c.zg xa.toNat).2*(c.zg xb.toNat).1))}:=rfl
 have hk:8+(xa.toNat+1)<=cs.n:=by rw[hc.n];omega
 rw[ej]
 have hq:= @eqvIg
 simp only[XX,XY,F128,yA,yB,yC,yH,insL,hp,ne3,a0,ga,ra,b0,gb,rb]
 refine cZ (mulg_ok (hz _ (by omega)) (hz _ (by omega))) ?_
 simp only[XX,XY,F128,yA,yB,hp,ne3,a0,ga,hk,hq,zV,cells_cx]
 exact wr_raw hm hp (hc.setz (k:=xa.toNat) (by omega))
theorem whole29_ok(hm:Fresh m)(hp:m.get pb=some (.cells cs true 0))(hc:CpC c cs)(hz:c.zok)(e:x.op=29)(a0:0<=x.a)(a2:x.a<2):∃u m',Con EE.P 128 [.agg (insL x).toArray,PT pb] m u m'∧CpW m pb (wholeX x c) m':=by
 obtain⟨op,xa,xb,imm⟩:=x
 simp only at*
 subst e
 refine Con.raw EE_ok fn128 (bA rfl) _ ?_
 have hl:=hm.lt hp
 have ne1:∀j,¬pb=m.next+j:=λj=>by omega
 have ne2:∀j,¬m.next+j=pb:=λj=>by omega
 have ne3:¬pb=m.next:=by omega
 have ne4:¬m.next=pb:=by omega
 have ga:xa<((2:Nat):Int):=by omega
 have ra:=hc.zr (k:=xa.toNat) (by omega)
 have ej:wholeX ⟨29,xa,xb,imm⟩ c={c with z:=c.z.set xa.toNat (wrapZ (c.zg xa.toNat).1,wrapZ (-(c.zg xa.toNat).2))}:=rfl
 have hk:8+(xa.toNat+1)<=cs.n:=by rw[hc.n];omega
 rw[ej]
 have hq:= @eqvIg
 simp only[XX,XY,F128,yA,yB,yC,yH,insL,hp,ne3,a0,ga,ra]
 refine cZ (conj_ok (hz _ (by omega))) ?_
 simp only[XX,XY,F128,yA,yB,hp,ne3,a0,ga,hk,hq,zV,cells_cx]
 exact wr_raw hm hp (hc.setz (k:=xa.toNat) (by omega))
theorem whole25_ok(hm:Fresh m)(hp:m.get pb=some (.cells cs true 0))(hc:CpC c cs)(hz:c.zok)(e:x.op=25)(a0:0<=x.a)(a2:x.a<2)(b0:0<=x.b)(b2:x.b<7):∃u m',Con EE.P 128 [.agg (insL x).toArray,PT pb] m u m'∧CpW m pb (wholeX x c) m':=by
 obtain⟨op,xa,xb,imm⟩:=x
 simp only at*
 subst e
 refine Con.raw EE_ok fn128 (bA rfl) _ ?_
 have hl:=hm.lt hp
 have ne1:∀j,¬pb=m.next+j:=λj=>by omega
 have ne2:∀j,¬m.next+j=pb:=λj=>by omega
 have ne3:¬pb=m.next:=by omega
 have ne4:¬m.next=pb:=by omega
 have ga:xa<((2:Nat):Int):=by omega
 have gb:xb<((8:Nat):Int):=by omega
 have gb1:xb+1<((8:Nat):Int):=by omega
 have b1:0<=xb+1:=by omega
 have wb:IntKind.i64.wrap (xb+1)=xb+1:=wrap_i64 (by omega) (by omega)
 have tb:(xb+1).toNat=xb.toNat+1:=by omega
 have r0:=hc.reg (k:=xb.toNat) (by omega)
 have r1:=hc.reg (k:=xb.toNat+1) (by omega)
 have ra:=hc.zr (k:=xa.toNat) (by omega)
 have ej:wholeX ⟨25,xa,xb,imm⟩ c={c with z:=c.z.set xa.toNat (wrapZ (s32 (c.r.getD xb.toNat 0#32)),wrapZ (s32 (c.r.getD (xb.toNat+1) 0#32)))}:=rfl
 have hk:8+(xa.toNat+1)<=cs.n:=by rw[hc.n];omega
 rw[ej]
 have hq:= @eqvIg
 simp only[XX,XY,F128,yA,yB,yC,insL,hp,ne3,b0,gb,gb1,b1,wb,tb,r0,r1]
 refine cZ fromWords_ok ?_
 simp only[XX,XY,F128,yA,yB,hp,ne3,a0,ga,hk,hq,zV,cells_cx]
 exact wr_raw hm hp (hc.setz (k:=xa.toNat) (by omega))
end
section
variable{m m' M:Mem}{x:Ins}{c:Cpu}{pb:Nat}{cs:Cells}
theorem wr_raw2{o:AObj}{k k' j:Nat}{v v':Value}{c':Cpu}{u:Value}(hm:Fresh m)(hp:m.get pb=some (.cells cs true 0))(h:CpC c' ((cs.write k [v]).write k' [v'])):RawE m ((((m.put m.next o).put pb (.cells (cs.write k [v]) true 0)).put pb (.cells ((cs.write k [v]).write k' [v']) true 0)).bump (j+1)) u λ_ m'=>CpW m pb c' m':=by
 have hl:=hm.lt hp
 have ne3:¬pb=m.next:=by omega
 have hw:CpW m pb c' ((((m.put m.next o).put pb (.cells (cs.write k [v]) true 0)).put pb (.cells ((cs.write k [v]).write k' [v']) true 0)).bump (j+1)):=⟨nO,Fresh.of_low (by have:=hm.n64;simp only[bN,nP];omega) (Low.bump (Low.put (Low.put (Low.put (Low.of hm nO) nO) nO) nO)),⟨_,by rw[gB,gP,if_pos rfl],h⟩,λy hy e=>by rw[gB,gP,if_neg e,gP,if_neg e,gP,if_neg (by omega)]⟩
 exact⟨⟨hw.next,λy hy e=>by rw[hw.old y hy (λe2=>by rw[e2,hp] at e;cases e),e]⟩,hw⟩
theorem whole26_ok(hm:Fresh m)(hp:m.get pb=some (.cells cs true 0))(hc:CpC c cs)(hz:c.zok)(e:x.op=26)(a0:0<=x.a)(a2:x.a<2)(b0:0<=x.b)(b2:x.b<7):∃u m',Con EE.P 128 [.agg (insL x).toArray,PT pb] m u m'∧CpW m pb (wholeX x c) m':=by
 obtain⟨op,xa,xb,imm⟩:=x
 simp only at*
 subst e
 refine Con.raw EE_ok fn128 (bA rfl) _ ?_
 have hl:=hm.lt hp
 have ne1:∀j,¬pb=m.next+j:=λj=>by omega
 have ne2:∀j,¬m.next+j=pb:=λj=>by omega
 have ne3:¬pb=m.next:=by omega
 have ne4:¬m.next=pb:=by omega
 have ga:xa<((2:Nat):Int):=by omega
 have gb:xb<((8:Nat):Int):=by omega
 have gb1:xb+1<((8:Nat):Int):=by omega
 have b1:0<=xb+1:=by omega
 have wb:IntKind.i64.wrap (xb+1)=xb+1:=wrap_i64 (by omega) (by omega)
 have tb:(xb+1).toNat=xb.toNat+1:=by omega
 have ra:=hc.zr (k:=xa.toNat) (by omega)
 have ej:wholeX ⟨26,xa,xb,imm⟩ c={c with r:=(c.r.set xb.toNat (w32 (c.zg xa.toNat).1)).set (xb.toNat+1) (w32 (c.zg xa.toNat).2)}:=rfl
 have hk:xb.toNat+1<=cs.n:=by rw[hc.n];omega
 have hk2:xb.toNat+(1+1)<=cs.n:=by rw[hc.n];omega
 rw[ej]
 have hq:= @eqvIg
 simp only[XX,XY,F128,yA,yB,yC,yH,insL,hp,ne3,a0,ga,ra]
 refine cZ (wordsg_ok (hz _ (by omega))) ?_
 simp only[XX,XY,F128,yA,yB,yC,hp,ne3,ne4,hq,b0,gb,gb1,b1,wb,tb,hk,hk2]
 exact wr_raw2 hm hp ((hc.setr (k:=xb.toNat) (by omega)).setr (k:=xb.toNat+1) (by omega))
theorem whole_ok(hm:Fresh m)(hp:m.get pb=some (.cells cs true 0))(hc:CpC c cs)(hz:c.zok)(e:25<=x.op∧x.op<=29)(a0:0<=x.a)(a2:x.a<2)(b0:0<=x.b)(b2:x.b<7)(b3:x.op=27∨x.op=28->x.b<2):∃u m',Con EE.P 128 [.agg (insL x).toArray,PT pb] m u m'∧CpW m pb (wholeX x c) m':=by
 by_cases e1:x.op=25
 ·exact whole25_ok hm hp hc hz e1 a0 a2 b0 b2
 by_cases e2:x.op=26
 ·exact whole26_ok hm hp hc hz e2 a0 a2 b0 b2
 by_cases e3:x.op=27
 ·exact whole27_ok hm hp hc hz e3 a0 a2 b0 (b3 (.inl e3))
 by_cases e4:x.op=28
 ·exact whole28_ok hm hp hc hz e4 a0 a2 b0 (b3 (.inr e4))
 ·exact whole29_ok hm hp hc hz (by omega) a0 a2
theorem wholeX_zok(hz:c.zok):(wholeX x c).zok:=by
 have key:∀(z:List (Int×Int)) (i:Nat) (v:Int×Int),(∀k,k<2->Zin (z.getD k (0,0)))->Zin v->∀k,k<2->Zin ((z.set i v).getD k (0,0)):=λz i v h hv k hk=>by
  rw[gD',List.getElem?_set]
  split
  ·split
   ·exact hv
   ·exact⟨by decide,by decide⟩
  ·rw[<-gD'];exact h k hk
 unfold wholeX
 dsimp only
 split
 ·exact key _ _ _ hz Zin.wrap
 split
 ·exact hz
 split
 ·exact key _ _ _ hz Zin.wrap
 split
 ·exact key _ _ _ hz Zin.wrap
 ·exact key _ _ _ hz Zin.wrap
end
section
variable{m m' M:Mem}{x:Ins}{c:Cpu}{p:Nat}{tyP fW:Nat}{w:Option (BitVec 32)}
theorem cpuL_pc'(h:c.ok0):(cpuL c)[10]? =some (Um c.pc):=by
 unfold cpuL
 rw[aC' (by simp[h.1,h.2])]
 simp[h.1,h.2]
def fetchX(w:Option (BitVec 32))(c:Cpu):Ins×Int:=
 if¬c.pc % 4#32=0#32 then(ins0,2) else match w with
  |none=>(ins0,2)
  |some v=>match decodeX v with
   |none=>(ins0,3)
   |some x=>(x,0)
def wdVg(w:Option (BitVec 32)):Value:= .tuple [Um (w.getD 0#32), .bool w.isSome].toArray
theorem rem4{P:Program}{ty:TypeId}{a:BitVec 32}:binV P .rem ty (Um a) (.int .u32 4)=some (Um (a % 4#32)):=by
 rw[bin_rem (by decide)]
 rw[Int.tmod_eq_emod_of_nonneg (Int.natCast_nonneg _)]
 rfl
theorem fetch_ok(ht:m.get 0=some (.cells (.ofList formsL) false 1))(hc:c.ok0)(hma:methodA EE.P tyP "Word" =some fW)(hcl:callable EE.P fW=true)(hW:∀M,Nx m M->Con EE.P fW [PT p,Um c.pc] M (wdVg w) M):
  Con EE.P 125 [.agg (cpuL c).toArray, .iface tyP (PT p)] m (.tuple [.agg (insL (fetchX w c).1).toArray,In (fetchX w c).2].toArray) m:=by
 refine Con.of EE_ok fn125 (bA rfl) Grow.rfl λhm=>?_
 have h64:=hm.n64
 have hpc:=cpuL_pc' hc
 have hl:(cpuL c).length=11:=by simp[cpuL,hc.1,hc.2]
 have he:∀q r M,eqA EE.P .eql 250 q r (.iface tyP (PT p)) .nilIface M=some (.bool false):=λq r M=>by kernel_rfl
 have b0:buildA EE.P 237 []=some (.agg [In 0,In 0,In 0,In 0].toArray):=kr
 have z0:decide (((c.pc % 4#32).toNat:Int)=0)=decide (c.pc % 4#32=0#32):=eq0
 by_cases h4:c.pc % 4#32=0#32
 ·have d4:=decide_eq_true h4
  have hi:invV EE.P (.iface tyP (PT p)) "Word" =some (fW,PT p):=invV_i hma hcl
  simp only[XX,XY,F125,yA,yB,yC,XG,he,hpc,rem4,z0,d4,hi]
  refine cZ (hW _ (nX hm)) ?_
  cases w with
  |none=>
   have ef:fetchX none c=(ins0,2):=by unfold fetchX;rw[if_neg (λh=>h h4)]
   rw[ef]
   simp only[XX,XY,F125,yA,yB,yC,wdVg,Option.getD_none,Option.isSome_none,b0,write4]
   exact tP rfl λy hy=>by simp only[gB,gP];repeat rw[if_neg (by omega)]
  |some v=>
   simp only[XX,XY,F125,yA,yB,yC,XG,wdVg]
   refine cZ (decode_ok (w:=v) (by simp only[gB,gP];(repeat rw[if_neg (by omega)]);exact ht)) ?_
   cases hd:decodeX v with
   |none=>
    have ef:fetchX (some v) c=(ins0,3):=by unfold fetchX;rw[if_neg (λh=>h h4)];simp only[hd]
    rw[ef]
    simp only[XX,XY,F125,yA,yB,yC,yH,Option.getD_none,Option.isSome_none,insL,ins0,b0,write4]
    exact tP rfl λy hy=>by simp only[gB,gP];repeat rw[if_neg (by omega)]
   |some x=>
    have ef:fetchX (some v) c=(x,0):=by unfold fetchX;rw[if_neg (λh=>h h4)];simp only[hd]
    rw[ef]
    simp only[XX,XY,F125,yA,yB,yC,XG,insL,write4]
    exact tP rfl λy hy=>by simp only[gB,gP];repeat rw[if_neg (by omega)]
 ·have d4:=decide_eq_false h4
  have ef:fetchX w c=(ins0,2):=by unfold fetchX;rw[if_pos h4]
  rw[ef]
  simp only[XX,XY,F125,yA,yB,yC,he,hpc,rem4,z0,d4,b0,write4]
  exact tP rfl λy hy=>by simp only[gB,gP];repeat rw[if_neg (by omega)]
end
section
variable{m m' M:Mem}{x:Ins}{c:Cpu}{p pb:Nat}{cs:Cells}{tyP fW:Nat}{w:Option (BitVec 32)}
def adX(x:Ins)(c:Cpu):BitVec 32:=c.r.getD x.b.toNat 0#32+w32 x.imm
def loadX(x:Ins)(c:Cpu):Option (BitVec 32)->Cpu
 |none=>c
 |some v=>{c with r:=c.r.set x.a.toNat v}
theorem CpW.raw'{u v:Value}{c':Cpu}(hp:m.get pb=some (.cells cs true 0))(h:CpW m pb c' m')(hu:u=v):RawE m m' u λu m'=>u=v∧CpW m pb c' m':=
 ⟨⟨h.next,λy hy e=>by rw[h.old y hy (λe2=>by rw[e2,hp] at e;cases e),e]⟩,hu,h⟩
theorem base1{o:AObj}{j:Nat}(hm:Fresh m)(hp:m.get pb=some (.cells cs true 0))(hc:CpC c cs):CpW m pb c ((m.put m.next o).bump (j+1)):=by
 have hl:=hm.lt hp
 exact⟨nO,Fresh.of_low (by have:=hm.n64;simp only[bN,nP];omega) (Low.bump (Low.put (Low.of hm nO) nO)),⟨cs,by rw[gB,gP,if_neg (by omega)];exact hp,hc⟩,λy hy _=>by rw[gB,gP,if_neg (by omega)]⟩
theorem base2{o:AObj}{j k:Nat}{v:Value}{c':Cpu}(hm:Fresh m)(hp:m.get pb=some (.cells cs true 0))(h:CpC c' (cs.write k [v])):CpW m pb c' (((m.put m.next o).put pb (.cells (cs.write k [v]) true 0)).bump (j+1)):=by
 have hl:=hm.lt hp
 exact⟨nO,Fresh.of_low (by have:=hm.n64;simp only[bN,nP];omega) (Low.bump (Low.put (Low.put (Low.of hm nO) nO) nO)),⟨_,by rw[gB,gP,if_pos rfl],h⟩,λy hy e=>by rw[gB,gP,if_neg e,gP,if_neg (by omega)]⟩
theorem move15_ok(hm:Fresh m)(hp:m.get pb=some (.cells cs true 0))(hc:CpC c cs)(e:x.op=15)(a0:0<=x.a)(a8:x.a<8)(b0:0<=x.b)(b8:x.b<8)(hma:methodA EE.P tyP "Word" =some fW)(hcl:callable EE.P fW=true)(hW:∀M,Nx m M->Con EE.P fW [PT p,Um (adX x c)] M (wdVg w) M):
  ∃u m',Con EE.P 126 [.agg (insL x).toArray,PT pb, .iface tyP (PT p)] m u m'∧u= .bool (decide (adX x c % 4#32=0#32)&&w.isSome)∧CpW m pb (if adX x c % 4#32=0#32 then loadX x c w else c) m':=by
 obtain⟨op,xa,xb,imm⟩:=x
 simp only at e a0 a8 b0 b8
 subst e
 refine Con.raw EE_ok fn126 (bA rfl) _ ?_
 have hl:=hm.lt hp
 have ne1:∀j,¬pb=m.next+j:=λj=>by omega
 have ne2:∀j,¬m.next+j=pb:=λj=>by omega
 have ne3:¬pb=m.next:=by omega
 have ne4:¬m.next=pb:=by omega
 have ga:xa<((8:Nat):Int):=by omega
 have gb:xb<((8:Nat):Int):=by omega
 have rb:=hc.reg (k:=xb.toNat) (by omega)
 have ww:IntKind.u32.wrap imm=((w32 imm).toNat:Int):=w32_wrap
 have hi:invV EE.P (.iface tyP (PT p)) "Word" =some (fW,PT p):=invV_i hma hcl
 have ha:c.r.getD xb.toNat 0#32+w32 imm=adX ⟨15,xa,xb,imm⟩ c:=rfl
 have hk:xa.toNat+1<=cs.n:=by rw[hc.n];omega
 generalize adX ⟨15,xa,xb,imm⟩ c=at_ at hW ha⊢
 have z0:decide (((at_ % 4#32).toNat:Int)=0)=decide (at_ % 4#32=0#32):=eq0
 by_cases h4:at_ % 4#32=0#32
 ·have d4:=decide_eq_true h4
  rw[if_pos h4,d4]
  simp only[XX,XY,F126,yA,yB,yC,XG,insL,hp,ne3,b0,gb,rb,ww,add32,ha,rem4,z0,d4,hi]
  refine cZ (hW _ ⟨by(try simp only[bN,nP]);omega,Fresh.of_low (by have:=hm.n64;(try simp only[bN,nP]);omega) (by repeat(first|exact Low.of hm nO|refine Low.put ?_ nO|refine Low.bump ?_)),λy hy=>by simp only[gB,gP,ne_new0 hy,if_false]⟩) ?_
  cases w with
  |none=>
   simp only[XX,XY,F126,yA,yB,yC,wdVg,Option.getD_none,Option.isSome_none]
   exact CpW.raw' hp (base1 hm hp hc) rfl
  |some v=>
   simp only[XX,XY,F126,yA,yB,yC,XG,wdVg,hp,ne3,a0,ga,hk]
   exact CpW.raw' hp (base2 hm hp (hc.setr (k:=xa.toNat) (by omega))) rfl
 ·have d4:=decide_eq_false h4
  rw[if_neg h4,d4]
  simp only[XX,XY,F126,yA,yB,yC,XG,insL,hp,ne3,b0,gb,rb,ww,add32,ha,rem4,z0,d4]
  exact CpW.raw' hp (base1 hm hp hc) rfl
end
section
variable{m m' M:Mem}{x:Ins}{c:Cpu}{p pb:Nat}{cs:Cells}{tyP fW:Nat}{w:Option (BitVec 8)}
def byVg(w:Option (BitVec 8)):Value:= .tuple [By (w.getD 0#8), .bool w.isSome].toArray
def z32(b:BitVec 8):BitVec 32:=b.setWidth 32
theorem z32_wrap{b:BitVec 8}:IntKind.u32.wrap (b.toNat:Int)=((z32 b).toNat:Int):=by
 have:=b.isLt
 rw[wrap_u32]
 unfold z32
 rw[BitVec.toNat_setWidth]
 omega
def lo8(v:BitVec 32):BitVec 8:=v.setWidth 8
theorem lo8_wrap{v:BitVec 32}:IntKind.u8.wrap (v.toNat:Int)=((lo8 v).toNat:Int):=by
 have:=v.isLt
 unfold lo8 IntKind.wrap
 rw[BitVec.toNat_setWidth]
 simp only[IntKind.signed,IntKind.bits]
 simp
theorem move17_ok(hm:Fresh m)(hp:m.get pb=some (.cells cs true 0))(hc:CpC c cs)(e:x.op=17)(a0:0<=x.a)(a8:x.a<8)(b0:0<=x.b)(b8:x.b<8)(hma:methodA EE.P tyP "Byte" =some fW)(hcl:callable EE.P fW=true)(hW:∀M,Nx m M->Con EE.P fW [PT p,Um (adX x c)] M (byVg w) M):
  ∃u m',Con EE.P 126 [.agg (insL x).toArray,PT pb, .iface tyP (PT p)] m u m'∧u= .bool w.isSome∧CpW m pb (loadX x c (w.map z32)) m':=by
 obtain⟨op,xa,xb,imm⟩:=x
 simp only at e a0 a8 b0 b8
 subst e
 refine Con.raw EE_ok fn126 (bA rfl) _ ?_
 have hl:=hm.lt hp
 have ne1:∀j,¬pb=m.next+j:=λj=>by omega
 have ne2:∀j,¬m.next+j=pb:=λj=>by omega
 have ne3:¬pb=m.next:=by omega
 have ne4:¬m.next=pb:=by omega
 have ga:xa<((8:Nat):Int):=by omega
 have gb:xb<((8:Nat):Int):=by omega
 have ra:=hc.reg (k:=xa.toNat) (by omega)
 have rb:=hc.reg (k:=xb.toNat) (by omega)
 have ww:IntKind.u32.wrap imm=((w32 imm).toNat:Int):=w32_wrap
 have hi:invV EE.P (.iface tyP (PT p)) "Byte" =some (fW,PT p):=invV_i hma hcl
 have ha:c.r.getD xb.toNat 0#32+w32 imm=adX ⟨17,xa,xb,imm⟩ c:=rfl
 have hk:xa.toNat+1<=cs.n:=by rw[hc.n];omega
 generalize adX ⟨17,xa,xb,imm⟩ c=at_ at*
 have z0:decide (((at_ % 4#32).toNat:Int)=0)=decide (at_ % 4#32=0#32):=eq0
 simp only[XX,XY,F126,yA,yB,yC,yH,XG,insL,hp,ne3,b0,gb,rb,ww,add32,ha,hi]
 refine cZ (hW _ ⟨by(try simp only[bN,nP]);omega,Fresh.of_low (by have:=hm.n64;(try simp only[bN,nP]);omega) (by repeat(first|exact Low.of hm nO|refine Low.put ?_ nO|refine Low.bump ?_)),λy hy=>by simp only[gB,gP,ne_new0 hy,if_false]⟩) ?_
 have zw:= @z32_wrap
 cases w with
 |none=>
  simp only[XX,XY,F126,yA,yB,yC,byVg,Option.getD_none,Option.isSome_none]
  exact CpW.raw' hp (base1 hm hp hc) rfl
 |some v=>
  simp only[XX,XY,F126,yA,yB,yC,XG,byVg,hp,ne3,a0,ga,hk,zw]
  exact CpW.raw' hp (base2 hm hp (hc.setr (k:=xa.toNat) (by omega))) rfl
theorem nxput{o:AObj}{j:Nat}(hm:Fresh m):Nx m ((m.put m.next o).bump (j+1)):=⟨by(try simp only[bN,nP]);omega,Fresh.of_low (by have:=hm.n64;(try simp only[bN,nP]);omega) (by repeat(first|exact Low.of hm nO|refine Low.put ?_ nO|refine Low.bump ?_)),λy hy=>by simp only[gB,gP,ne_new0 hy,if_false]⟩
def WrR(m:Mem)(R:Mem->Bool->Mem->Prop)(u:Value)(m':Mem):Prop:=∃M is,Nx m M∧R M is m'∧u= .bool is
theorem WrR.raw{R:Mem->Bool->Mem->Prop}{M:Mem}{is:Bool}(hg:∀M is M',R M is M'->Grow M M')(hn:Nx m M)(h:R M is m'):RawE m m' (.bool is) (WrR m R):=by
 have g:=hg _ _ _ h
 exact⟨⟨lT hn.next g.1,λy hy e=>g.2 y (lL hy hn.next) (by rw[hn.old y hy,e])⟩,M,is,hn,h,rfl⟩
theorem move16_ok{R:Mem->Bool->Mem->Prop}(hg:∀M is M',R M is M'->Grow M M')(hm:Fresh m)(hp:m.get pb=some (.cells cs true 0))(hc:CpC c cs)(e:x.op=16)(a0:0<=x.a)(a8:x.a<8)(b0:0<=x.b)(b8:x.b<8)(hma:methodA EE.P tyP "SetWord" =some fW)(hcl:callable EE.P fW=true)(h4:adX x c % 4#32=0#32)
  (hW:∀M,Nx m M->∃u M',Con EE.P fW [PT p,Um (adX x c),Um (c.r.getD x.a.toNat 0#32)] M u M'∧∃is,u= .bool is∧R M is M'):
  ∃u m',Con EE.P 126 [.agg (insL x).toArray,PT pb, .iface tyP (PT p)] m u m'∧WrR m R u m':=by
 obtain⟨op,xa,xb,imm⟩:=x
 simp only at e a0 a8 b0 b8
 subst e
 refine Con.raw EE_ok fn126 (bA rfl) _ ?_
 have hl:=hm.lt hp
 have ne1:∀j,¬pb=m.next+j:=λj=>by omega
 have ne2:∀j,¬m.next+j=pb:=λj=>by omega
 have ne3:¬pb=m.next:=by omega
 have ne4:¬m.next=pb:=by omega
 have ga:xa<((8:Nat):Int):=by omega
 have gb:xb<((8:Nat):Int):=by omega
 have ra:=hc.reg (k:=xa.toNat) (by omega)
 have rb:=hc.reg (k:=xb.toNat) (by omega)
 have ww:IntKind.u32.wrap imm=((w32 imm).toNat:Int):=w32_wrap
 have hi:invV EE.P (.iface tyP (PT p)) "SetWord" =some (fW,PT p):=invV_i hma hcl
 have ha:c.r.getD xb.toNat 0#32+w32 imm=adX ⟨16,xa,xb,imm⟩ c:=rfl
 have hk:xa.toNat+1<=cs.n:=by rw[hc.n];omega
 generalize adX ⟨16,xa,xb,imm⟩ c=at_ at*
 have z0:decide (((at_ % 4#32).toNat:Int)=0)=decide (at_ % 4#32=0#32):=eq0
 have d4:=decide_eq_true h4
 have hms:(methodA EE.P tyP "SetWord").isSome=true:=by rw[hma];rfl
 simp only[XX,XY,F126,yA,yB,yC,yH,XG,insL,hp,ne3,a0,b0,ga,gb,rb,ww,add32,ha,hi,ra,rem4,z0,d4,hms]
 refine cX (hW _ (nxput hm)) λu M' hM=>?_
 obtain⟨is,rfl,hR⟩:=hM
 have n1:=lT (nxput hm).next (hg _ _ _ hR).1
 simp only[XX,XY,yA,yB]
 exact WrR.raw hg (nxput hm) hR
theorem move16n_ok(hm:Fresh m)(hp:m.get pb=some (.cells cs true 0))(hc:CpC c cs)(e:x.op=16)(a0:0<=x.a)(a8:x.a<8)(b0:0<=x.b)(b8:x.b<8)(hma:methodA EE.P tyP "SetWord" =some fW)(hcl:callable EE.P fW=true)(h4:¬adX x c % 4#32=0#32):
  ∃u m',Con EE.P 126 [.agg (insL x).toArray,PT pb, .iface tyP (PT p)] m u m'∧u= .bool false∧CpW m pb c m':=by
 obtain⟨op,xa,xb,imm⟩:=x
 simp only at e a0 a8 b0 b8
 subst e
 refine Con.raw EE_ok fn126 (bA rfl) _ ?_
 have hl:=hm.lt hp
 have ne1:∀j,¬pb=m.next+j:=λj=>by omega
 have ne2:∀j,¬m.next+j=pb:=λj=>by omega
 have ne3:¬pb=m.next:=by omega
 have ne4:¬m.next=pb:=by omega
 have ga:xa<((8:Nat):Int):=by omega
 have gb:xb<((8:Nat):Int):=by omega
 have ra:=hc.reg (k:=xa.toNat) (by omega)
 have rb:=hc.reg (k:=xb.toNat) (by omega)
 have ww:IntKind.u32.wrap imm=((w32 imm).toNat:Int):=w32_wrap
 have hi:invV EE.P (.iface tyP (PT p)) "SetWord" =some (fW,PT p):=invV_i hma hcl
 have ha:c.r.getD xb.toNat 0#32+w32 imm=adX ⟨16,xa,xb,imm⟩ c:=rfl
 have hk:xa.toNat+1<=cs.n:=by rw[hc.n];omega
 generalize adX ⟨16,xa,xb,imm⟩ c=at_ at*
 have z0:decide (((at_ % 4#32).toNat:Int)=0)=decide (at_ % 4#32=0#32):=eq0
 have d4:=decide_eq_false h4
 simp only[XX,XY,F126,yA,yB,yC,yH,XG,insL,hp,ne3,b0,gb,rb,ww,add32,ha,rem4,z0,d4]
 exact CpW.raw' hp (base1 hm hp hc) rfl
theorem move18_ok{R:Mem->Bool->Mem->Prop}(hg:∀M is M',R M is M'->Grow M M')(hm:Fresh m)(hp:m.get pb=some (.cells cs true 0))(hc:CpC c cs)(e:x.op=18)(a0:0<=x.a)(a8:x.a<8)(b0:0<=x.b)(b8:x.b<8)(hma:methodA EE.P tyP "SetByte" =some fW)(hcl:callable EE.P fW=true)
  (hW:∀M,Nx m M->∃u M',Con EE.P fW [PT p,Um (adX x c),By (lo8 (c.r.getD x.a.toNat 0#32))] M u M'∧∃is,u= .bool is∧R M is M'):
  ∃u m',Con EE.P 126 [.agg (insL x).toArray,PT pb, .iface tyP (PT p)] m u m'∧WrR m R u m':=by
 obtain⟨op,xa,xb,imm⟩:=x
 simp only at e a0 a8 b0 b8
 subst e
 refine Con.raw EE_ok fn126 (bA rfl) _ ?_
 have hl:=hm.lt hp
 have ne1:∀j,¬pb=m.next+j:=λj=>by omega
 have ne2:∀j,¬m.next+j=pb:=λj=>by omega
 have ne3:¬pb=m.next:=by omega
 have ne4:¬m.next=pb:=by omega
 have ga:xa<((8:Nat):Int):=by omega
 have gb:xb<((8:Nat):Int):=by omega
 have ra:=hc.reg (k:=xa.toNat) (by omega)
 have rb:=hc.reg (k:=xb.toNat) (by omega)
 have ww:IntKind.u32.wrap imm=((w32 imm).toNat:Int):=w32_wrap
 have hi:invV EE.P (.iface tyP (PT p)) "SetByte" =some (fW,PT p):=invV_i hma hcl
 have ha:c.r.getD xb.toNat 0#32+w32 imm=adX ⟨18,xa,xb,imm⟩ c:=rfl
 have hk:xa.toNat+1<=cs.n:=by rw[hc.n];omega
 generalize adX ⟨18,xa,xb,imm⟩ c=at_ at*
 have z0:decide (((at_ % 4#32).toNat:Int)=0)=decide (at_ % 4#32=0#32):=eq0
 have bw:= @lo8_wrap
 have hms:(methodA EE.P tyP "SetByte").isSome=true:=by rw[hma];rfl
 simp only[XX,XY,F126,yA,yB,yC,yH,XG,insL,hp,ne3,a0,b0,ga,gb,rb,ww,add32,ha,hi,ra,bw,hms]
 refine cX (hW _ (nxput hm)) λu M' hM=>?_
 obtain⟨is,rfl,hR⟩:=hM
 have n1:=lT (nxput hm).next (hg _ _ _ hR).1
 simp only[XX,XY,yA,yB]
 exact WrR.raw hg (nxput hm) hR
end
section
variable{m:Mem}{a b:BitVec 32}{x:Ins}
theorem count_no(h:x.op<1∨14<x.op):Con EE.P 129 [.agg (insL x).toArray,Um a,Um b] m (cntV (countX x a b)) m:=by
 obtain⟨op,xa,xb,imm⟩:=x
 simp only at h
 have n1:¬op=1:=by omega
 have n2:¬op=2:=by omega
 have n3:¬op=3:=by omega
 have n4:¬op=4:=by omega
 have n5:¬op=5:=by omega
 have n6:¬op=6:=by omega
 have n7:¬op=7:=by omega
 have n8:¬op=8:=by omega
 have n9:¬op=9:=by omega
 have n10:¬op=10:=by omega
 have n11:¬op=11:=by omega
 have n12:¬op=12:=by omega
 have n13:¬op=13:=by omega
 have n14:¬op=14:=by omega
 have hc:countX ⟨op,xa,xb,imm⟩ a b=none:=by
  unfold countX
  simp only[n1,n2,n3,n4,n5,n6,n7,n8,n9,n10,n11,n12,n13,n14,if_false]
 rw[hc]
 refine Con.of EE_ok fn129 (bA rfl) Grow.rfl λhm=>?_
 simp only[XX,XY,F129,yA,yB,yC,insL,n1,n2,n3,n4,n5,n6,n7,n8,n9,n10,n11,n12,n13,n14]
 exact tP rfl λy hy=>by simp only[gB,gP];rw[if_neg (by omega)]
theorem count_ok:Con EE.P 129 [.agg (insL x).toArray,Um a,Um b] m (cntV (countX x a b)) m:=by
 by_cases e1:x.op=1
 ·exact count_1 e1
 by_cases e2:x.op=2
 ·exact count_2 e2
 by_cases e3:x.op=3
 ·exact count_3 e3
 by_cases e4:x.op=4
 ·exact count_4 e4
 by_cases e5:x.op=5
 ·exact count_5 e5
 by_cases e6:x.op=6
 ·exact count_6 e6
 by_cases e7:x.op=7
 ·exact count_7 e7
 by_cases e8:x.op=8
 ·exact count_8 e8
 by_cases e9:x.op=9
 ·exact count_9 e9
 by_cases e10:x.op=10
 ·exact count_10 e10
 by_cases e11:x.op=11
 ·exact count_11 e11
 by_cases e12:x.op=12
 ·exact count_12 e12
 by_cases e13:x.op=13
 ·exact count_13 e13
 by_cases e14:x.op=14
 ·exact count_14 e14
 exact count_no (by omega)
end
section
variable{m m' M:Mem}{x:Ins}{c:Cpu}{p:Nat}{tyP fW:Nat}{w:Option (BitVec 32)}
theorem cpuL_len'(h:c.ok0):(cpuL c).length=11:=by simp[cpuL,h.1,h.2]
theorem cpuL_all:(cpuL c).all oneCell=true:=by
 unfold cpuL
 simp only[List.all_append,List.all_map,List.all_cons,List.all_nil,Bool.and_true]
 simp[oneCell,zV]
theorem CpC.of(h:c.ok0):CpC c (ofL (cpuL c)):=by
 have hl:=cpuL_len' h
 refine⟨by rw[ofList_n,hl],?_,h⟩
 have:=sub_ofList (l:=cpuL c) (o:=0) (n:=11) (by omega)
 rw[this,List.drop_zero,List.take_of_length_le (by omega)]
theorem cpuL_pl{k:Nat}:(cpuL c).all (plainN k)=true:=by
 rw[List.all_eq_true]
 intro v hv
 unfold cpuL at hv
 rcases List.mem_append.1 hv with hv|hv
 ·rcases List.mem_append.1 hv with hv|hv
  ·obtain⟨r,_,rfl⟩:=List.mem_map.1 hv;cases k<;>rfl
  ·obtain⟨r,_,rfl⟩:=List.mem_map.1 hv;cases k<;>rfl
 ·rw[List.mem_singleton.1 hv];cases k<;>rfl
def stepV(c:Cpu)(trap:Int):Value:= .tuple [.agg (cpuL c).toArray,In trap].toArray
theorem stepV_pl{t:Int}:plain (stepV c t)=true:=by
 show((cpuL c).all (plainN 4)&&((true)&&true))=true
 rw[cpuL_pl];rfl
theorem step_trap(ht:m.get 0=some (.cells (.ofList formsL) false 1))(hc:c.ok0)(hma:methodA EE.P tyP "Word" =some fW)(hcl:callable EE.P fW=true)(hW:∀M,Nx m M->Con EE.P fW [PT p,Um c.pc] M (wdVg w) M)(hf:¬(fetchX w c).2=0):
  Con EE.P 81 [.agg (cpuL c).toArray, .iface tyP (PT p)] m (stepV c (fetchX w c).2) m:=by
 refine Con.of EE_ok fn81 (bA rfl) Grow.rfl λhm=>?_
 have h64:=hm.n64
 have hs:=(CpC.of hc).l
 have hl:=cpuL_len' hc
 have ha:=cpuL_all (c:=c)
 simp only[XX,XY,F81,yA,yB,yC,hs]
 refine cZ (fetch_ok (w:=w) ?_ hc hma hcl λM hn=>hW M ?_) ?_
 ·simp only[gB,gP]
  repeat rw[if_neg (by omega)]
  exact ht
 ·exact Nx.trans (nX hm) hn
 ·simp only[XX,XY,F81,yA,yB,yC,hs,hl,ha,hf,insL]
  refine tP stepV_pl λy hy=>?_
  simp only[gB,gP]
  repeat rw[if_neg (by omega)]
theorem step_sys(ht:m.get 0=some (.cells (.ofList formsL) false 1))(hc:c.ok0)(hma:methodA EE.P tyP "Word" =some fW)(hcl:callable EE.P fW=true)(hW:∀M,Nx m M->Con EE.P fW [PT p,Um c.pc] M (wdVg w) M)(hf:(fetchX w c).2=0)(ho:(fetchX w c).1.op=24):
  Con EE.P 81 [.agg (cpuL c).toArray, .iface tyP (PT p)] m (stepV c 1) m:=by
 refine Con.of EE_ok fn81 (bA rfl) Grow.rfl λhm=>?_
 have h64:=hm.n64
 have hs:=(CpC.of hc).l
 have hl:=cpuL_len' hc
 have ha:=cpuL_all (c:=c)
 simp only[XX,XY,F81,yA,yB,yC,hs]
 refine cZ (fetch_ok (w:=w) ?_ hc hma hcl λM hn=>hW M ?_) ?_
 ·simp only[gB,gP]
  repeat rw[if_neg (by omega)]
  exact ht
 ·exact Nx.trans (nX hm) hn
 ·simp only[XX,XY,F81,yA,yB,yC,hs,hl,ha,hf,ho,insL,write4]
  refine tP stepV_pl λy hy=>?_
  simp only[gB,gP]
  repeat rw[if_neg (by omega)]
end
section
variable{m m' M:Mem}{x:Ins}{c:Cpu}{p:Nat}{tyP fW:Nat}{w:Option (BitVec 32)}
abbrev zN:Cells:=ofL [.int .u32 0, .int .u32 0, .int .u32 0, .int .u32 0, .int .u32 0, .int .u32 0, .int .u32 0, .int .u32 0, .complex .f64 0 0, .complex .f64 0 0, .int .u32 0]
theorem CpC.fill(h:c.ok0):CpC c (zN.write 0 (cpuL c)):=⟨by rw[write_n];rfl,sub_write_same (cpuL_len' h) (by exact lR' 11),h⟩
def countC(x:Ins)(c:Cpu):Cpu:=match countX x (c.r.getD x.a.toNat 0#32) (c.r.getD x.b.toNat 0#32) with
 |some v=>{c with r:=c.r.set x.a.toNat v,pc:=c.pc+4#32}
 |none=>{c with pc:=c.pc+4#32}
theorem step_count(ht:m.get 0=some (.cells (.ofList formsL) false 1))(hc:c.ok0)(hma:methodA EE.P tyP "Word" =some fW)(hcl:callable EE.P fW=true)(hW:∀M,Nx m M->Con EE.P fW [PT p,Um c.pc] M (wdVg w) M)(hf:fetchX w c=(x,0))(ho:x.op<15)(a0:0<=x.a)(a8:x.a<8)(b0:0<=x.b)(b8:x.b<8):
  Con EE.P 81 [.agg (cpuL c).toArray, .iface tyP (PT p)] m (stepV (countC x c) 0) m:=by
 refine Con.of EE_ok fn81 (bA rfl) Grow.rfl λhm=>?_
 have h64:=hm.n64
 have hs:=(CpC.of hc).l
 have hl:=cpuL_len' hc
 have ha:=cpuL_all (c:=c)
 simp only[XX,XY,F81,yA,yB,yC,hs]
 refine cZ (fetch_ok (w:=w) ?_ hc hma hcl λM hn=>hW M ?_) ?_
 ·simp only[gB,gP]
  repeat rw[if_neg (by omega)]
  exact ht
 ·exact Nx.trans (nX hm) hn
 ·rw[hf]
  have cf:=CpC.fill hc
  have n24:¬x.op=24:=by omega
  have d15:decide (15<=x.op)=false:=decide_eq_false (by omega)
  have d19:decide (19<=x.op)=false:=decide_eq_false (by omega)
  have d25:decide (25<=x.op)=false:=decide_eq_false (by omega)
  have ga:x.a<((8:Nat):Int):=by omega
  have gb:x.b<((8:Nat):Int):=by omega
  have ra:=(CpC.of hc).reg (k:=x.a.toNat) (by omega)
  have rb:=(CpC.of hc).reg (k:=x.b.toNat) (by omega)
  have hq:= @eqvIg
  simp only[XX,XY,F81,yA,yB,yC,XG,hs,hl,ha,insL,write4,n24,d15,d19,d25,a0,b0,ga,gb,ra,rb]
  refine cZ (count_ok (x:=x)) ?_
  cases hx:countX x (c.r.getD x.a.toNat 0#32) (c.r.getD x.b.toNat 0#32) with
  |none=>
   have ec:countC x c={c with pc:=c.pc+4#32}:=by unfold countC;rw[hx]
   rw[ec]
   have p1:=cf.pc
   have p2:=(cf.setpc (v:=c.pc+4#32)).l
   have hl2:=cpuL_len' (c:={c with pc:=c.pc+4#32}) hc
   have ha2:=cpuL_all (c:={c with pc:=c.pc+4#32})
   simp only[XX,XY,F81,yA,yB,yC,cntV,Option.getD_none,Option.isSome_none,add4,p1,p2,hl2,ha2]
   refine tP stepV_pl λy hy=>?_
   simp only[gB,gP]
   repeat rw[if_neg (by omega)]
  |some v=>
   have ec:countC x c={c with r:=c.r.set x.a.toNat v,pc:=c.pc+4#32}:=by unfold countC;rw[hx]
   rw[ec]
   have cr:=cf.setr (k:=x.a.toNat) (v:=v) (by omega)
   have p1:=cr.pc
   have p2:=(cr.setpc (v:=c.pc+4#32)).l
   have ok2:=(cr.setpc (v:=c.pc+4#32)).ok
   have hl2:=cpuL_len' ok2
   have ha2:=cpuL_all (c:={c with r:=c.r.set x.a.toNat v,pc:=c.pc+4#32})
   have hk:x.a.toNat+1<=11:=by omega
   simp only[XX,XY,F81,yA,yB,yC,XG,cntV,add4,a0,ga,hk,p1,p2,hl2,ha2]
   refine tP stepV_pl λy hy=>?_
   simp only[gB,gP]
   repeat rw[if_neg (by omega)]
end
section
variable{m m' M:Mem}{x:Ins}{c:Cpu}{p:Nat}{tyP fW:Nat}{w:Option (BitVec 32)}
theorem step_jump(ht:m.get 0=some (.cells (.ofList formsL) false 1))(hc:c.ok0)(hma:methodA EE.P tyP "Word" =some fW)(hcl:callable EE.P fW=true)(hW:∀M,Nx m M->Con EE.P fW [PT p,Um c.pc] M (wdVg w) M)(hf:fetchX w c=(x,0))(ho:19<=x.op∧x.op<=23)(a0:0<=x.a)(a8:x.a<8):
  Con EE.P 81 [.agg (cpuL c).toArray, .iface tyP (PT p)] m (stepV {(jumpX x c).2 with pc:=(jumpX x c).1} 0) m:=by
 refine Con.of EE_ok fn81 (bA rfl) Grow.rfl λhm=>?_
 have h64:=hm.n64
 have hs:=(CpC.of hc).l
 have hl:=cpuL_len' hc
 have ha:=cpuL_all (c:=c)
 simp only[XX,XY,F81,yA,yB,yC,hs]
 refine cZ (fetch_ok (w:=w) ?_ hc hma hcl λM hn=>hW M ?_) ?_
 ·simp only[gB,gP]
  repeat rw[if_neg (by omega)]
  exact ht
 ·exact Nx.trans (nX hm) hn
 ·rw[hf]
  have cf:=CpC.fill hc
  have n24:¬x.op=24:=by omega
  have d15:decide (15<=x.op)=true:=decide_eq_true (by omega)
  have d18:decide (x.op<=18)=false:=decide_eq_false (by omega)
  have d19:decide (19<=x.op)=true:=decide_eq_true (by omega)
  have d23:decide (x.op<=23)=true:=decide_eq_true (by omega)
  have hq:= @eqvIg
  simp only[XX,XY,F81,yA,yB,yC,XG,hs,hl,ha,insL,write4,n24,d15,d18,d19,d23]
  refine cX (jump_ok (x:=x) ?_ ?_ cf a0 a8) λu m' hu=>?_
  ·refine Nx.fresh (m:=m) ?_
   exact(nX hm)
  ·(simp only[gB,gP];repeat(first|rw[if_neg (by omega)]|rw[if_pos trivial]|rw[if_pos (by omega)]))
  ·obtain⟨rfl,hw⟩:=hu
   have n1:=hw.next
   simp only[bN,nP] at n1
   have h1:m'.get (m.next+1)=some (.cells zN true 0):=by
    rw[hw.old _ nO (by omega)]
    (simp only[gB,gP];repeat(first|rw[if_neg (by omega)]|rw[if_pos trivial]|rw[if_pos (by omega)]))
   obtain⟨cs',g1,g2⟩:=hw.cell
   have n2:m.next<=m'.next:=by omega
   have p2:=(g2.setpc (v:=(jumpX x c).1)).l
   have hk:10+1<=cs'.n:=by rw[g2.n];decide
   have hl2:=cpuL_len' (c:={(jumpX x c).2 with pc:=(jumpX x c).1}) g2.ok
   have ha2:=cpuL_all (c:={(jumpX x c).2 with pc:=(jumpX x c).1})
   simp only[XX,XY,F81,yA,yB,yC,n2,h1,g1,hk,p2,hl2,ha2]
   refine tP stepV_pl λy hy=>?_
   simp only[gB,gP]
   rw[if_neg (by omega),if_neg (by omega),hw.old y nO (by omega)]
   simp only[gB,gP]
   repeat rw[if_neg (by omega)]
end
section
variable{m m' M:Mem}{x:Ins}{c:Cpu}{p:Nat}{tyP fW:Nat}{w:Option (BitVec 32)}
theorem step_whole(ht:m.get 0=some (.cells (.ofList formsL) false 1))(hc:c.ok0)(hma:methodA EE.P tyP "Word" =some fW)(hcl:callable EE.P fW=true)(hW:∀M,Nx m M->Con EE.P fW [PT p,Um c.pc] M (wdVg w) M)(hf:fetchX w c=(x,0))(hz:c.zok)(ho:25<=x.op∧x.op<=29)(a0:0<=x.a)(a2:x.a<2)(b0:0<=x.b)(b2:x.b<7)(b3:x.op=27∨x.op=28->x.b<2):
  Con EE.P 81 [.agg (cpuL c).toArray, .iface tyP (PT p)] m (stepV {(wholeX x c) with pc:=(wholeX x c).pc+4#32} 0) m:=by
 refine Con.of EE_ok fn81 (bA rfl) Grow.rfl λhm=>?_
 have h64:=hm.n64
 have hs:=(CpC.of hc).l
 have hl:=cpuL_len' hc
 have ha:=cpuL_all (c:=c)
 simp only[XX,XY,F81,yA,yB,yC,hs]
 refine cZ (fetch_ok (w:=w) ?_ hc hma hcl λM hn=>hW M ?_) ?_
 ·simp only[gB,gP]
  repeat rw[if_neg (by omega)]
  exact ht
 ·exact Nx.trans (nX hm) hn
 ·rw[hf]
  have cf:=CpC.fill hc
  have n24:¬x.op=24:=by omega
  have d15:decide (15<=x.op)=true:=decide_eq_true (by omega)
  have d18:decide (x.op<=18)=false:=decide_eq_false (by omega)
  have d19:decide (19<=x.op)=true:=decide_eq_true (by omega)
  have d23:decide (x.op<=23)=false:=decide_eq_false (by omega)
  have d25:decide (25<=x.op)=true:=decide_eq_true (by omega)
  have hq:= @eqvIg
  simp only[XX,XY,F81,yA,yB,yC,XG,hs,hl,ha,insL,write4,n24,d15,d18,d19,d23,d25]
  refine cX (whole_ok (x:=x) ?_ ?_ cf hz ho a0 a2 b0 b2 b3) λu m' hu=>?_
  ·refine Nx.fresh (m:=m) ?_
   exact(nX hm)
  ·(simp only[gB,gP];repeat(first|rw[if_neg (by omega)]|rw[if_pos trivial]|rw[if_pos (by omega)]))
  ·have hw:=hu
   have n1:=hw.next
   simp only[bN,nP] at n1
   have h1:m'.get (m.next+1)=some (.cells zN true 0):=by
    rw[hw.old _ nO (by omega)]
    (simp only[gB,gP];repeat(first|rw[if_neg (by omega)]|rw[if_pos trivial]|rw[if_pos (by omega)]))
   obtain⟨cs',g1,g2⟩:=hw.cell
   have n2:m.next<=m'.next:=by omega
   have p2:=(g2.setpc (v:=(wholeX x c).pc+4#32)).l
   have p1:=g2.pc
   have hk:10+1<=cs'.n:=by rw[g2.n];decide
   have hl2:=cpuL_len' (c:={(wholeX x c) with pc:=(wholeX x c).pc+4#32}) g2.ok
   have ha2:=cpuL_all (c:={(wholeX x c) with pc:=(wholeX x c).pc+4#32})
   simp only[XX,XY,F81,yA,yB,yC,n2,h1,g1,hk,p1,add4,p2,hl2,ha2,lA]
   refine tP stepV_pl λy hy=>?_
   simp only[gB,gP]
   rw[if_neg (by omega),if_neg (by omega),hw.old y nO (by omega)]
   simp only[gB,gP]
   repeat rw[if_neg (by omega)]
end
section
variable{m m' M:Mem}{x:Ins}{c:Cpu}{p:Nat}{tyP fW:Nat}{w w2:Option (BitVec 32)}{w3:Option (BitVec 8)}{fB:Nat}
def lwX(x:Ins)(c:Cpu)(w:Option (BitVec 32)):Bool:=decide (adX x c % 4#32=0#32)&&w.isSome
theorem lw_same:(if adX x c % 4#32=0#32 then loadX x c w2 else c)=if lwX x c w2=true then loadX x c w2 else c:=by
 unfold lwX
 by_cases h:adX x c % 4#32=0#32
 ·rw[if_pos h,decide_eq_true h]
  cases w2 with
  |none=>rfl
  |some v=>rfl
 ·rw[if_neg h,decide_eq_false h];rfl
theorem lb_same:loadX x c (w3.map z32)=if w3.isSome=true then loadX x c (w3.map z32) else c:=by cases w3<;>rfl
theorem step_lw(ht:m.get 0=some (.cells (.ofList formsL) false 1))(hc:c.ok0)(hma:methodA EE.P tyP "Word" =some fW)(hcl:callable EE.P fW=true)(hW:∀M,Nx m M->Con EE.P fW [PT p,Um c.pc] M (wdVg w) M)(hf:fetchX w c=(x,0))(ho:x.op=15)(a0:0<=x.a)(a8:x.a<8)(b0:0<=x.b)(b8:x.b<8)(hW2:∀M,Nx m M->Con EE.P fW [PT p,Um (adX x c)] M (wdVg w2) M):
  Con EE.P 81 [.agg (cpuL c).toArray, .iface tyP (PT p)] m (if lwX x c w2 then stepV {loadX x c w2 with pc:=c.pc+4#32} 0 else stepV c 2) m:=by
 refine Con.of EE_ok fn81 (bA rfl) Grow.rfl λhm=>?_
 have h64:=hm.n64
 have hs:=(CpC.of hc).l
 have hl:=cpuL_len' hc
 have ha:=cpuL_all (c:=c)
 simp only[XX,XY,F81,yA,yB,yC,hs]
 refine cZ (fetch_ok (w:=w) ?_ hc hma hcl λM hn=>hW M ?_) ?_
 ·simp only[gB,gP]
  repeat rw[if_neg (by omega)]
  exact ht
 ·exact Nx.trans (nX hm) hn
 ·rw[hf]
  have cf:=CpC.fill hc
  have n24:¬x.op=24:=by omega
  have d15:decide (15<=x.op)=true:=decide_eq_true (by omega)
  have d18:decide (x.op<=18)=true:=decide_eq_true (by omega)
  have hq:= @eqvIg
  simp only[XX,XY,F81,yA,yB,yC,XG,hs,hl,ha,insL,write4,n24,d15,d18]
  refine cX (move15_ok (x:=x) (w:=w2) ?_ ?_ cf ho a0 a8 b0 b8 hma hcl λM hn=>hW2 M (Nx.trans ?_ hn)) λu m' hu=>?_
  ·refine Nx.fresh (m:=m) ?_
   exact(nX hm)
  ·(simp only[gB,gP];repeat(first|rw[if_neg (by omega)]|rw[if_pos trivial]|rw[if_pos (by omega)]))
  ·exact(nX hm)
  ·obtain⟨hu1,hw⟩:=hu
   rw[lw_same] at hw
   have hu2:u= .bool (lwX x c w2):=hu1
   subst hu2
   have n1:=hw.next
   simp only[bN,nP] at n1
   have h1:m'.get (m.next+1)=some (.cells zN true 0):=by
    rw[hw.old _ nO (by omega)]
    (simp only[gB,gP];repeat(first|rw[if_neg (by omega)]|rw[if_pos trivial]|rw[if_pos (by omega)]))
   have h0:m'.get m.next=some (.cells (ofL (cpuL c)) true 0):=by
    rw[hw.old _ nO (by omega)]
    (simp only[gB,gP];repeat(first|rw[if_neg (by omega)]|rw[if_pos trivial]|rw[if_pos (by omega)]))
   obtain⟨cs',g1,g2⟩:=hw.cell
   have n2:m.next<=m'.next:=by omega
   have hfin:∀y,y<m.next->m'.get y=m.get y:=λy hy=>by
    rw[hw.old y nO (by omega)]
    simp only[gB,gP]
    repeat rw[if_neg (by omega)]
   by_cases hok:(lwX x c w2)=true
   ·rw[if_pos hok] at g2
    rw[if_pos hok,hok]
    have pcn:(loadX x c w2).pc=c.pc:=by unfold loadX;cases w2<;>rfl
    have p1:=g2.pc
    rw[pcn] at p1
    have p2:=(g2.setpc (v:=c.pc+4#32)).l
    have hk:10+1<=cs'.n:=by rw[g2.n];decide
    have hl2:=cpuL_len' (c:={loadX x c w2 with pc:=c.pc+4#32}) g2.ok
    have ha2:=cpuL_all (c:={loadX x c w2 with pc:=c.pc+4#32})
    simp only[XX,XY,F81,yA,yB,yC,n2,h1,g1,hk,p1,add4,p2,hl2,ha2,lA]
    refine tP stepV_pl λy hy=>?_
    simp only[gB,gP]
    rw[if_neg (by omega),if_neg (by omega),hfin y hy]
   ·have hok':(lwX x c w2)=false:=by simpa using hok
    rw[if_neg hok,hok']
    simp only[XX,XY,F81,yA,yB,yC,n2,h1,h0,hs,hl,ha]
    refine tP stepV_pl λy hy=>?_
    simp only[gB,gP]
    rw[if_neg (by omega),hfin y hy]
theorem step_lb(ht:m.get 0=some (.cells (.ofList formsL) false 1))(hc:c.ok0)(hma:methodA EE.P tyP "Word" =some fW)(hcl:callable EE.P fW=true)(hW:∀M,Nx m M->Con EE.P fW [PT p,Um c.pc] M (wdVg w) M)(hf:fetchX w c=(x,0))(ho:x.op=17)(a0:0<=x.a)(a8:x.a<8)(b0:0<=x.b)(b8:x.b<8)(hmb:methodA EE.P tyP "Byte" =some fB)(hcb:callable EE.P fB=true)(hW2:∀M,Nx m M->Con EE.P fB [PT p,Um (adX x c)] M (byVg w3) M):
  Con EE.P 81 [.agg (cpuL c).toArray, .iface tyP (PT p)] m (if w3.isSome then stepV {loadX x c (w3.map z32) with pc:=c.pc+4#32} 0 else stepV c 2) m:=by
 refine Con.of EE_ok fn81 (bA rfl) Grow.rfl λhm=>?_
 have h64:=hm.n64
 have hs:=(CpC.of hc).l
 have hl:=cpuL_len' hc
 have ha:=cpuL_all (c:=c)
 simp only[XX,XY,F81,yA,yB,yC,hs]
 refine cZ (fetch_ok (w:=w) ?_ hc hma hcl λM hn=>hW M ?_) ?_
 ·simp only[gB,gP]
  repeat rw[if_neg (by omega)]
  exact ht
 ·exact Nx.trans (nX hm) hn
 ·rw[hf]
  have cf:=CpC.fill hc
  have n24:¬x.op=24:=by omega
  have d15:decide (15<=x.op)=true:=decide_eq_true (by omega)
  have d18:decide (x.op<=18)=true:=decide_eq_true (by omega)
  have hq:= @eqvIg
  simp only[XX,XY,F81,yA,yB,yC,XG,hs,hl,ha,insL,write4,n24,d15,d18]
  refine cX (move17_ok (x:=x) (w:=w3) ?_ ?_ cf ho a0 a8 b0 b8 hmb hcb λM hn=>hW2 M (Nx.trans ?_ hn)) λu m' hu=>?_
  ·refine Nx.fresh (m:=m) ?_
   exact(nX hm)
  ·(simp only[gB,gP];repeat(first|rw[if_neg (by omega)]|rw[if_pos trivial]|rw[if_pos (by omega)]))
  ·exact(nX hm)
  ·obtain⟨rfl,hw⟩:=hu
   rw[lb_same] at hw
   have n1:=hw.next
   simp only[bN,nP] at n1
   have h1:m'.get (m.next+1)=some (.cells zN true 0):=by
    rw[hw.old _ nO (by omega)]
    (simp only[gB,gP];repeat(first|rw[if_neg (by omega)]|rw[if_pos trivial]|rw[if_pos (by omega)]))
   have h0:m'.get m.next=some (.cells (ofL (cpuL c)) true 0):=by
    rw[hw.old _ nO (by omega)]
    (simp only[gB,gP];repeat(first|rw[if_neg (by omega)]|rw[if_pos trivial]|rw[if_pos (by omega)]))
   obtain⟨cs',g1,g2⟩:=hw.cell
   have n2:m.next<=m'.next:=by omega
   have hfin:∀y,y<m.next->m'.get y=m.get y:=λy hy=>by
    rw[hw.old y nO (by omega)]
    simp only[gB,gP]
    repeat rw[if_neg (by omega)]
   by_cases hok:(w3.isSome)=true
   ·rw[if_pos hok] at g2
    rw[if_pos hok,hok]
    have pcn:(loadX x c (w3.map z32)).pc=c.pc:=by unfold loadX;cases w3<;>rfl
    have p1:=g2.pc
    rw[pcn] at p1
    have p2:=(g2.setpc (v:=c.pc+4#32)).l
    have hk:10+1<=cs'.n:=by rw[g2.n];decide
    have hl2:=cpuL_len' (c:={loadX x c (w3.map z32) with pc:=c.pc+4#32}) g2.ok
    have ha2:=cpuL_all (c:={loadX x c (w3.map z32) with pc:=c.pc+4#32})
    simp only[XX,XY,F81,yA,yB,yC,n2,h1,g1,hk,p1,add4,p2,hl2,ha2,lA]
    refine tP stepV_pl λy hy=>?_
    simp only[gB,gP]
    rw[if_neg (by omega),if_neg (by omega),hfin y hy]
   ·have hok':(w3.isSome)=false:=by simpa using hok
    rw[if_neg hok,hok']
    simp only[XX,XY,F81,yA,yB,yC,n2,h1,h0,hs,hl,ha]
    refine tP stepV_pl λy hy=>?_
    simp only[gB,gP]
    rw[if_neg (by omega),hfin y hy]
end
end
end Go.Ab
