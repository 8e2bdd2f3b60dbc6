/- Part. -/
import Derived.Test.YtdhcheegbnnlbaaGreatDoorR15
set_option linter.all false
open Go.Ab.Mem renaming next_bump → bN, next_put → nP, get_bump → gB, get_put → gP
open Nat renaming le_of_ble_eq_true → bA, le_add_right_of_le → lA, lt_of_lt_of_le → lL, le_refl → lR', le_trans → lT
open List renaming getD_eq_getElem?_getD → gD', getElem?_eq_getElem → gE', length_append → aL, getElem?_map → gM', length_map → lM, length_set → sL
open Bool renaming false_eq_true → bF
open Go.Ab.CallI renaming ex2 → cX, con0 → cZ
open Go.Ab.TidyE renaming pure → tP
open Go.Ab.Cells renaming ofList → ofL
open Go.Ab.Be renaming trans → bE
open Nat renaming reduceLT → yA, reduceEqDiff → yB, reduceAdd → yC, reduceMul → yD, reduceSub → yE, reducePow → yF, reduceLeDiff → yG
open Int renaming reduceEq → yH, reduceLT → yI, reduceLE → yJ
namespace Go.Ab
open Go.Proofs
noncomputable section
set_option maxHeartbeats 4000000
set_option maxRecDepth 10000
section
variable{m m' M mr:Mem}{n:Nat}{L L' L1 L2:Loc}{X X' X1 X2 Y W:St}{v:Value}{fl:List Value}{pid:Int}
def zvU(X:St)(i:Nat)(a:BitVec 32):St:={X with P:=X.P.set i {X.p i with wait:=5,left:=a}}
def zBs(X:St):BitVec 32:=(1#32<<<X.cores.toNat)-1#32
def zDY(X:St)(i:Nat)(a:BitVec 32):St:=if a&&&zBs X=0#32 then zaZ X i 22 else zar {X with P:=X.P.set i {X.p i with aff:=a}} i (X.p i).aff
def stepC(X:St)(i:Nat):St:={X with P:=X.P.set i {X.p i with cpu:={(X.p i).cpu with r:=(X.p i).cpu.r.set 0 0#32,pc:=(X.p i).cpu.pc+4#32}}}
def znG(X:St)(i:Nat)(a:BitVec 32):St:=stepC (zfR X i 2 0 a) i
def zeX(X:St)(i:Nat)(n:Int)(a0 a1 a2:BitVec 32):St:=
 if n=1 then zjR X i a0 else if n=2 then zhT X i else if n=3 then zgy X i a0
 else if n=4 then zar X i (BitVec.ofInt 32 (X.p i).pid) else if n=5 then zar X i (BitVec.ofInt 32 (X.p i).parent)
 else if n=17 then if a0=0#32 then zar X i 0#32 else zvU X i a0
 else if n=18 then zar X i 0#32
 else if n=19 then zaZ (zaz X i a0 a1 a2).1 i (zaz X i a0 a1 a2).2
 else if n=20 then zaZ (zaX X i a0.toNat a1.toNat).1 i (zaX X i a0.toNat a1.toNat).2
 else if n=21 then zDY X i a0
 else if n=22 then znG X i a0 else X
theorem Sh.unmapPages(h:GX X){i a n:Nat}(hi:i<X.P.length):Sh 0 X (zaX X i a n).1:=by
 unfold zaX;split
 ·exact Sh.unmaps h hi
 ·exact Sh.refl h
theorem zBr{a b:BitVec 32}:IntKind.u32.wrap ((a.toNat:Int)-(b.toNat:Int))=((a-b).toNat:Int):=by rw[za4,BitVec.toNat_sub];have:=a.isLt;have:=b.isLt;omega
theorem zsm{a:BitVec 32}:IntKind.u32.wrap ((a.toNat:Int)-1)=((a-1#32).toNat:Int):=zBr (b:=1#32)
theorem zkn(h:FAt m L X)(hm:zad m)(ht:Tb m)(hg:GX X){i:Nat}(hi:i<X.P.length)(hs:X.seen.length+X.fut.length<99000){n:Int}{a0 a1 a2:BitVec 32}:∃u m',Con EE.P 133 [PT (L.p i),In n, .agg [Um a0,Um a1,Um a2].toArray] m u m'∧Be m L (zeX X i n a0 a1 a2) m':=by
 refine Con.raw zai zGC (bA rfl) _ ?_;have t0:Int.toNat 0=0:=rfl;have t1:Int.toNat 1=1:=rfl;have t2:Int.toNat 2=2:=rfl;have g0:(0:Int)<=0:=by decide
 have g1:(0:Int)<=1:=by decide
 have g2:(0:Int)<=2:=by decide
 have i0:(0:Int)<((3:Nat):Int):=by decide
 have i1:(1:Int)<((3:Nat):Int):=by decide
 have i2:(2:Int)<((3:Nat):Int):=by decide
 have h64:=hm.n64;obtain⟨cs,h1,h2⟩:=h.pr i hi;have hlt:=h.ids_lt (h.mp hi);have ne1:¬L.p i=m.next:=by omega
 have ne2:¬m.next=L.p i:=by omega
 have hN1:∀(o1:zaS) (k:Nat),1<=k->Nx m ((m.put m.next o1).bump k):=λo1 k hk=>⟨by(try simp only[bN,nP]);omega,zad.of_low (by have:=hm.n64;(try simp only[bN,nP]);omega) (by repeat(first|exact Low.of hm nO|refine Low.put ?_ nO|refine Low.bump ?_)),λy hy=>by simp only[gB,gP,zb3 hy,if_false]⟩;have hsn:X.seen.length<99990:=by omega
 have hfn:X.fut.length<99990:=by omega
 unfold zeX;by_cases c1:n=1
 ·have d1:=decide_eq_true c1;rw[if_pos c1];simp only[XX,XY,zlb,yA,yB,yC,t0,g0,i0,d1];refine cX (zjO (h.nx (hN1 _ _ (by omega))) (hN1 _ _ (by omega)).fresh (ht.nx hm (hN1 _ _ (by omega))) hg hi hsn hfn) λu M hB=>?_;have nx:=hB.of_bump.next;simp only[nP] at nx;simp only[XX,yA];exact(bE Lx.refl (Fd.of_nx (hN1 _ _ (by omega))) hB).raw
 have d1:=decide_eq_false c1;rw[if_neg c1];by_cases c2:n=2
 ·have d2:=decide_eq_true c2;rw[if_pos c2];simp only[XX,XY,zlb,yA,yB,yC,d1,d2];refine cX (zxl (h.nx (hN1 _ _ (by omega))) (hN1 _ _ (by omega)).fresh (ht.nx hm (hN1 _ _ (by omega))) hg hi hsn hfn) λu M hB=>?_;have nx:=hB.of_bump.next;simp only[nP] at nx;simp only[XX,yA];exact(bE Lx.refl (Fd.of_nx (hN1 _ _ (by omega))) hB).raw
 have d2:=decide_eq_false c2;rw[if_neg c2];by_cases c3:n=3
 ·have d3:=decide_eq_true c3;rw[if_pos c3];simp only[XX,XY,zlb,yA,yB,yC,t0,g0,i0,d1,d2,d3];refine cX (zys (h.nx (hN1 _ _ (by omega))) (hN1 _ _ (by omega)).fresh (ht.nx hm (hN1 _ _ (by omega))) hg hi hsn) λu M hB=>?_;have nx:=hB.of_bump.next;simp only[nP] at nx;simp only[XX,yA];exact(bE Lx.refl (Fd.of_nx (hN1 _ _ (by omega))) hB).raw
 have d3:=decide_eq_false c3;rw[if_neg c3];by_cases c4:n=4
 ·have d4:=decide_eq_true c4;rw[if_pos c4];simp only[XX,XY,zlb,yA,yB,yC,h1,ne1,d1,d2,d3,d4,h2.pid,zdf];refine cX (zaL (h.nx (hN1 _ _ (by omega))) (hN1 _ _ (by omega)).fresh (ht.nx hm (hN1 _ _ (by omega))) hi (by omega)) λu M hB=>?_;have nx:=hB.of_bump.next;simp only[nP] at nx;simp only[XX,yA];exact(bE Lx.refl (Fd.of_nx (hN1 _ _ (by omega))) hB).raw
 have d4:=decide_eq_false c4;rw[if_neg c4];by_cases c5:n=5
 ·have d5:=decide_eq_true c5;rw[if_pos c5];simp only[XX,XY,zlb,yA,yB,yC,h1,ne1,d1,d2,d3,d4,d5,h2.parent,zdf];refine cX (zaL (h.nx (hN1 _ _ (by omega))) (hN1 _ _ (by omega)).fresh (ht.nx hm (hN1 _ _ (by omega))) hi (by omega)) λu M hB=>?_;have nx:=hB.of_bump.next;simp only[nP] at nx;simp only[XX,yA];exact(bE Lx.refl (Fd.of_nx (hN1 _ _ (by omega))) hB).raw
 have d5:=decide_eq_false c5;rw[if_neg c5];by_cases c17:n=17
 ·have d17:=decide_eq_true c17;rw[if_pos c17];by_cases z0:a0=0#32
  ·have dz:decide ((a0.toNat:Int)=0)=true:=by rw[eq0];exact decide_eq_true z0
   rw[if_pos z0];simp only[XX,XY,zlb,yA,yB,yC,t0,g0,i0,d1,d2,d3,d4,d5,d17,dz];refine cX (zaL (v:=0#32) (h.nx (hN1 _ _ (by omega))) (hN1 _ _ (by omega)).fresh (ht.nx hm (hN1 _ _ (by omega))) hi (by omega)) λu M hB=>?_;have nx:=hB.of_bump.next;simp only[nP] at nx;simp only[XX,yA];exact(bE Lx.refl (Fd.of_nx (hN1 _ _ (by omega))) hB).raw
  ·have dz:decide ((a0.toNat:Int)=0)=false:=by rw[eq0];exact decide_eq_false z0
   rw[if_neg z0];have k1:46+1<=cs.n:=by rw[h2.n];decide
   have k2:51+1<=cs.n:=by rw[h2.n];decide
   have q1:= @zq1;have q2:= @zwL;have hp:=(h2.w_wait (x:=5)).w_left (x:=a0);simp only[XX,XY,zlb,yA,yB,yC,t0,g0,i0,h1,ne1,ne2,d1,d2,d3,d4,d5,d17,dz,k1,k2,q2];refine zcY.fin rfl ⟨L,h.upd_p hi hp nO gA (λy hy hne=>(by have:=h.lt y hy;(simp only[gB,gP];repeat(first|rw[if_neg (by omega)]|rw[if_pos trivial]|rw[if_pos (by omega)])))),Lx.refl,Pu.fd (j:=1) (Pu.own h (h.mp hi) (Pu.own h (h.mp hi) (Pu.new (Pu.refl hm) (by omega)))) hm (by omega)⟩
 have d17:=decide_eq_false c17;rw[if_neg c17];by_cases c18:n=18
 ·have d18:=decide_eq_true c18;rw[if_pos c18];simp only[XX,XY,zlb,yA,yB,yC,d1,d2,d3,d4,d5,d17,d18];refine cX (zaL (v:=0#32) (h.nx (hN1 _ _ (by omega))) (hN1 _ _ (by omega)).fresh (ht.nx hm (hN1 _ _ (by omega))) hi (by omega)) λu M hB=>?_;have nx:=hB.of_bump.next;simp only[nP] at nx;simp only[XX,yA];exact(bE Lx.refl (Fd.of_nx (hN1 _ _ (by omega))) hB).raw
 have d18:=decide_eq_false c18;rw[if_neg c18];by_cases c19:n=19
 ·have d19:=decide_eq_true c19;rw[if_pos c19];simp only[XX,XY,zlb,yA,yB,yC,t0,t1,t2,g0,g1,g2,i0,i1,i2,d1,d2,d3,d4,d5,d17,d18,d19];refine cX (zhO (a:=a0) (n:=a1) (f:=a2) (h.nx (hN1 _ _ (by omega))) (hN1 _ _ (by omega)).fresh hg hi) λu M hM=>?_;obtain⟨rfl,hB⟩:=hM;have nx:=hB.of_bump.next;simp only[nP] at nx;have hS:=Sh.mapPages (a:=a0) (n:=a1) (f:=a2) hg hi;have hB1:Be m L (zaz X i a0 a1 a2).1 M:=bE Lx.refl (Fd.of_nx (hN1 _ _ (by omega))) hB;generalize zaz X i a0 a1 a2=Z at hB1 hS⊢;obtain⟨L1,a1',x1,f1⟩:=id hB1;have ep:L1.p i=L.p i:=x1.p (by rw[h.lP];exact hi);have hsz:=hS.sn;simp only[XX,XY,zlb,yA,yB];refine CallI.ex2L (by rw[<-ep];exact za1 a1' f1.fresh (hB1.tb h hm ht) (lL hi hS.P) (by omega)) (by simp) λu M9 hB9=>?_;have n9:=hB9.next;have n10:m.next<=M9.next:=by omega
  simp only[XX,yA];exact(bE x1 f1 hB9).raw
 have d19:=decide_eq_false c19;rw[if_neg c19];by_cases c20:n=20
 ·have d20:=decide_eq_true c20;rw[if_pos c20];simp only[XX,XY,zlb,yA,yB,yC,t0,t1,g0,g1,i0,i1,d1,d2,d3,d4,d5,d17,d18,d19,d20];refine cX (zjd (a:=a0) (n:=a1) (h.nx (hN1 _ _ (by omega))) (hN1 _ _ (by omega)).fresh hg hi) λu M hM=>?_;obtain⟨rfl,hB⟩:=hM;have nx:=hB.of_bump.next;simp only[nP] at nx;have hS:=Sh.unmapPages (a:=a0.toNat) (n:=a1.toNat) hg hi;have hB1:Be m L (zaX X i a0.toNat a1.toNat).1 M:=bE Lx.refl (Fd.of_nx (hN1 _ _ (by omega))) hB;generalize zaX X i a0.toNat a1.toNat=Z at hB1 hS⊢;obtain⟨L1,a1',x1,f1⟩:=id hB1;have ep:L1.p i=L.p i:=x1.p (by rw[h.lP];exact hi);have hsz:=hS.sn;simp only[XX,XY,zlb,yA,yB];refine CallI.ex2L (by rw[<-ep];exact za1 a1' f1.fresh (hB1.tb h hm ht) (lL hi hS.P) (by omega)) (by simp) λu M9 hB9=>?_;have n9:=hB9.next;have n10:m.next<=M9.next:=by omega
  simp only[XX,yA];exact(bE x1 f1 hB9).raw
 have d20:=decide_eq_false c20;rw[if_neg c20];by_cases c21:n=21
 ·have d21:=decide_eq_true c21;rw[if_pos c21];unfold zDY;obtain⟨cf,f1,f2⟩:=h.fl;have hlf:=h.ids_lt h.mf;have nef:¬L.f=m.next:=by omega
  have hsh:=zux (P:=EE.P) (ty:=36) (k:=X.cores) (by have:=hg.co;omega);have haf:∀ty,zcG EE.P .and ty (Um a0) (Um ((1#32<<<X.cores.toNat)-1#32))=some (Um (a0&&&zBs X)):=λty=>zgi;have q1:= @zq1;have q2:= @zwL;by_cases z0:a0&&&zBs X=0#32
  ·have dz:decide (((a0&&&zBs X).toNat:Int)=0)=true:=by rw[eq0];exact decide_eq_true z0
   rw[if_pos z0];simp only[XX,XY,zlb,yA,yB,yC,t0,g0,i0,h1,ne1,d1,d2,d3,d4,d5,d17,d18,d19,d20,d21,h2.f,f1,f2.cores,nef,hsh,zsm,haf,dz];refine cX (za1 (h.nx (hN1 _ _ (by omega))) (hN1 _ _ (by omega)).fresh (ht.nx hm (hN1 _ _ (by omega))) hi (by omega)) λu M hB=>?_;have nx:=hB.of_bump.next;simp only[nP] at nx;simp only[XX,yA];exact(bE Lx.refl (Fd.of_nx (hN1 _ _ (by omega))) hB).raw
  ·have dz:decide (((a0&&&zBs X).toNat:Int)=0)=false:=by rw[eq0];exact decide_eq_false z0
   rw[if_neg z0];have k1:60+1<=cs.n:=by rw[h2.n];decide
   have hp:=h2.w_aff (x:=a0);simp only[XX,XY,zlb,yA,yB,yC,t0,g0,i0,h1,ne1,d1,d2,d3,d4,d5,d17,d18,d19,d20,d21,h2.f,h2.aff,f1,f2.cores,nef,hsh,zsm,haf,dz,k1];refine CallI.gen (λM=>Be m L {X with P:=X.P.set i {X.p i with aff:=a0}} M) ⟨L,h.upd_p hi hp nO gA (λy hy hne=>(by have:=h.lt y hy;(simp only[gB,gP];repeat(first|rw[if_neg (by omega)]|rw[if_pos trivial]|rw[if_pos (by omega)])))),Lx.refl,Pu.fd (j:=1) (Pu.own h (h.mp hi) (Pu.new (Pu.refl hm) (by omega))) hm (by omega)⟩ λM hM=>?_;have n1:=hM.next;obtain⟨L1,a1',x1,f1⟩:=id hM;have ep:L1.p i=L.p i:=x1.p (by rw[h.lP];exact hi);refine cX (by rw[<-ep];exact zaL (v:=(X.p i).aff) a1' f1.fresh (hM.tb h hm ht) (by rw[sL];exact hi) (show X.seen.length<100000 by omega)) λu M9 hB9=>?_;have n9:=hB9.next;have n10:m.next<=M9.next:=by omega
   simp only[XX,yA];exact(bE x1 f1 hB9).raw
 have d21:=decide_eq_false c21;rw[if_neg c21];by_cases c22:n=22
 ·have d22:=decide_eq_true c22;rw[if_pos c22];simp only[XX,XY,zlb,yA,yB,yC,t0,g0,i0,d1,d2,d3,d4,d5,d17,d18,d19,d20,d21,d22];refine cX (znp (h.nx (hN1 _ _ (by omega))) (hN1 _ _ (by omega)).fresh hi (by omega)) λu M hB=>?_;have hB1:Be m L (zfR X i 2 0 a0) M:=bE Lx.refl (Fd.of_nx (hN1 _ _ (by omega))) hB;have nx:m.next<=M.next:=hB1.next;unfold znG;generalize hV:zfR X i 2 0 a0=V at hB1⊢;have hVP:V.P=X.P:=by rw[<-hV];rfl
  obtain⟨L1,a1',x1,f1⟩:=id hB1;have ep:L1.p i=L.p i:=x1.p (by rw[h.lP];exact hi);have hiV:i<V.P.length:=by rw[hVP];exact hi
  obtain⟨c1,y1,y2⟩:=a1'.pr i hiV;have y1':=y1;rw[ep] at y1;have hpc:(c1.write 5 [.int .u32 0]).nth 15=some (Um (V.p i).cpu.pc):=by rw[zaa (.inr (bA rfl)),znk y2]
  have ha:IntKind.u32.wrap (((V.p i).cpu.pc.toNat:Int)+4)=(((V.p i).cpu.pc+4#32).toNat:Int):=by rw[<-zcH];rfl
  have k1:5+1<=c1.n:=by rw[y2.n];decide
  have k2:15+1<=c1.n:=by rw[y2.n];decide
  have g8:(0:Int)<((8:Nat):Int):=by decide
  have hp1:PC L1 {V.p i with cpu:={(V.p i).cpu with r:=(V.p i).cpu.r.set 0 0#32}} (c1.write 5 [Um 0#32]):=y2.w1_cpu (k:=0) (by decide) (zev y2.okc (by decide)) ⟨by rw[sL];exact y2.okc.1,y2.okc.2⟩;have hp2:=hp1.w1_cpu (k:=10) (x:={(V.p i).cpu with r:=(V.p i).cpu.r.set 0 0#32,pc:=(V.p i).cpu.pc+4#32}) (v:=Um ((V.p i).cpu.pc+4#32)) (by decide) (zdH hp1.okc) hp1.okc;simp only[XX,XY,zlb,yA,yB,yC,nx,y1,hpc,ha,k1,k2,g8,t0,g0,lA];have nM:=a1'.ids_lt (a1'.mp hiV);have hF:=Pu.fd (j:=0) (k:=16) (Pu.own (o:= .cells ((c1.write 5 [Um 0#32]).write 15 [Um ((V.p i).cpu.pc+4#32)]) true 0) a1' (a1'.mp hiV) (Pu.own (o:= .cells (c1.write 5 [Um 0#32]) true 0) a1' (a1'.mp hiV) (Pu.refl f1.fresh))) f1.fresh (by omega);rw[ep] at hF;refine zcY.fin rfl (bE x1 f1 ⟨L1,a1'.upd_p hiV hp2 nO (by rw[ep];(simp only[gB,gP];repeat(first|rw[if_neg (by omega)]|rw[if_pos trivial]|rw[if_pos (by omega)]));rfl) (λy hy hne=>(by rw[ep] at hne;have:=a1'.lt y hy;(simp only[gB,gP];repeat(first|rw[if_neg (by omega)]|rw[if_pos trivial]|rw[if_pos (by omega)])))),Lx.refl,hF⟩)
 have d22:=decide_eq_false c22;rw[if_neg c22];simp only[XX,XY,zlb,yA,yB,yC,d1,d2,d3,d4,d5,d17,d18,d19,d20,d21,d22];exact zcY.fin rfl ⟨L,h.nx (hN1 _ _ (by omega)),Lx.refl,Fd.of_nx (hN1 _ _ (by omega))⟩
end
section
variable{m m' M mr:Mem}{n:Nat}{L L' L1 L2:Loc}{X X' X1 X2 Y W:St}{v:Value}{fl:List Value}{pid:Int}
def zu4(X:St)(i:Nat)(n:Int)(a:List (BitVec 32)):St:=if 6<=n∧n<=10 then zhg X i n (a.getD 0 0#32) (a.getD 1 0#32) (a.getD 2 0#32)
 else if 11<=n∧n<=14 then zpa X i n (a.getD 0 0#32) (a.getD 1 0#32)
 else if n=15∨n=16 then zhi X i n (a.getD 0 0#32) (a.getD 1 0#32)
 else zeX X i n (a.getD 0 0#32) (a.getD 1 0#32) (a.getD 2 0#32)
def zmw(X:St)(i:Nat):St:=if ofB (X.p i).cpu.r=true then zu4 X i (ofN (X.p i).cpu.r) (ofA (X.p i).cpu.r) else zaZ X i 38
theorem zFG{α:Type}{l:List α}(h:l.length=3):∃a b c,l=[a,b,c]:=by
 match l,h with
 |[a,b,c],_=>exact⟨a,b,c,rfl⟩
theorem zvq(h:FAt m L X)(hm:zad m)(ht:Tb m)(hg:GX X){i:Nat}(hi:i<X.P.length)(hs:X.seen.length+X.fut.length<99000):∃u m',Con EE.P 82 [PT (L.p i)] m u m'∧Be m L (zmw X i) m':=by
 refine Con.raw zai zI4 (bA rfl) _ ?_;obtain⟨cs,h1,h2⟩:=h.pr i hi;have hr:=zi9 h2;have h64:=hm.n64;simp only[XX,XY,F82,yA,yB,yC,h1,hr];refine cZ (zzi (ht.bump _) h2.okc.1) ?_;obtain⟨a0,a1,a2,ha⟩:=zFG (zme (r:=(X.p i).cpu.r));unfold zmw;rw[ha];obtain⟨n,hn⟩:∃n,n=ofN (X.p i).cpu.r:=⟨_,rfl⟩;obtain⟨b,hb⟩:∃b,b=ofB (X.p i).cpu.r:=⟨_,rfl⟩;rw[<-hn,<-hb];have w4:(ofL [In 0,Um 0,Um 0,Um 0]).write 0 [In n,Um a0,Um a1,Um a2]=ofL [In n,Um a0,Um a1,Um a2]:=zbl;have w3:(ofL [Um 0,Um 0,Um 0]).write 0 [Um a0,Um a1,Um a2]=ofL [Um a0,Um a1,Um a2]:=zed;cases b with
 |false=>
  rw[if_neg (by simp)];simp only[XX,XY,F82,yA,yB,yC,zbl,zed];refine CallI.gen (λM=>Nx m M) ⟨by(try simp only[bN,nP]);omega,zad.of_low (by have:=hm.n64;(try simp only[bN,nP]);omega) (by repeat(first|exact Low.of hm nO|refine Low.put ?_ nO|refine Low.bump ?_)),λy hy=>by simp only[gB,gP,zbL hy,if_false]⟩ λM hN=>?_;have n1:=hN.next;refine cX (za1 (h.nx hN) hN.fresh (ht.nx hm hN) hi (show X.seen.length<100000 by omega)) λu M9 hB9=>?_;have n9:=hB9.next;have n10:m.next<=M9.next:=by omega
  simp only[XX,yA];exact(bE Lx.refl (Fd.of_nx hN) hB9).raw
 |true=>
  rw[if_pos rfl];unfold zu4;by_cases cA:6<=n∧n<=10
  ·rw[if_pos cA];have d6:=decide_eq_true (show 6<=n by omega);have d10:=decide_eq_true (show n<=10 by omega);simp only[XX,XY,F82,yA,yB,yC,zbl,zed,d6,d10];refine CallI.gen (λM=>Nx m M) ⟨by(try simp only[bN,nP]);omega,zad.of_low (by have:=hm.n64;(try simp only[bN,nP]);omega) (by repeat(first|exact Low.of hm nO|refine Low.put ?_ nO|refine Low.bump ?_)),λy hy=>by simp only[gB,gP,zbL hy,if_false]⟩ λM hN=>?_;have n1:=hN.next;refine cX (zup (h.nx hN) hN.fresh (ht.nx hm hN) hg hi (by omega) (by omega)) λu M9 hB9=>?_;have n9:=hB9.next;have n10:m.next<=M9.next:=by omega
   simp only[XX,yA];exact(bE Lx.refl (Fd.of_nx hN) hB9).raw
  rw[if_neg cA];by_cases cB:11<=n∧n<=14
  ·rw[if_pos cB];have d6:=decide_eq_true (show 6<=n by omega);have d10:=decide_eq_false (show¬n<=10 by omega);have d11:=decide_eq_true (show 11<=n by omega);have d14:=decide_eq_true (show n<=14 by omega);simp only[XX,XY,F82,yA,yB,yC,zbl,zed,d6,d10,d11,d14];refine CallI.gen (λM=>Nx m M) ⟨by(try simp only[bN,nP]);omega,zad.of_low (by have:=hm.n64;(try simp only[bN,nP]);omega) (by repeat(first|exact Low.of hm nO|refine Low.put ?_ nO|refine Low.bump ?_)),λy hy=>by simp only[gB,gP,zbL hy,if_false]⟩ λM hN=>?_;have n1:=hN.next;refine cX (zxI (h.nx hN) hN.fresh (ht.nx hm hN) hg hi (by omega) (by omega)) λu M9 hB9=>?_;have n9:=hB9.next;have n10:m.next<=M9.next:=by omega
   simp only[XX,yA];exact(bE Lx.refl (Fd.of_nx hN) hB9).raw
  rw[if_neg cB];by_cases cC:n=15∨n=16
  ·rw[if_pos cC];by_cases c15:n=15
   ·skip
    have d6:=decide_eq_true (show 6<=n by omega);have d10:=decide_eq_false (show¬n<=10 by omega);have d11:=decide_eq_true (show 11<=n by omega);have d14:=decide_eq_false (show¬n<=14 by omega);have d15:=decide_eq_true (show n=15 by omega);simp only[XX,XY,F82,yA,yB,yC,zbl,zed,d6,d10,d11,d14,d15];refine CallI.gen (λM=>Nx m M) ⟨by(try simp only[bN,nP]);omega,zad.of_low (by have:=hm.n64;(try simp only[bN,nP]);omega) (by repeat(first|exact Low.of hm nO|refine Low.put ?_ nO|refine Low.bump ?_)),λy hy=>by simp only[gB,gP,zbL hy,if_false]⟩ λM hN=>?_;have n1:=hN.next;refine cX (ziK (h.nx hN) hN.fresh (ht.nx hm hN) hg hi hs) λu M9 hB9=>?_;have n9:=hB9.next;have n10:m.next<=M9.next:=by omega
    simp only[XX,yA];exact(bE Lx.refl (Fd.of_nx hN) hB9).raw
   ·skip
    have d6:=decide_eq_true (show 6<=n by omega);have d10:=decide_eq_false (show¬n<=10 by omega);have d11:=decide_eq_true (show 11<=n by omega);have d14:=decide_eq_false (show¬n<=14 by omega);have d15:=decide_eq_false (show¬n=15 by omega);have d16:=decide_eq_true (show n=16 by omega);simp only[XX,XY,F82,yA,yB,yC,zbl,zed,d6,d10,d11,d14,d15,d16];refine CallI.gen (λM=>Nx m M) ⟨by(try simp only[bN,nP]);omega,zad.of_low (by have:=hm.n64;(try simp only[bN,nP]);omega) (by repeat(first|exact Low.of hm nO|refine Low.put ?_ nO|refine Low.bump ?_)),λy hy=>by simp only[gB,gP,zbL hy,if_false]⟩ λM hN=>?_;have n1:=hN.next;refine cX (ziK (h.nx hN) hN.fresh (ht.nx hm hN) hg hi hs) λu M9 hB9=>?_;have n9:=hB9.next;have n10:m.next<=M9.next:=by omega
    simp only[XX,yA];exact(bE Lx.refl (Fd.of_nx hN) hB9).raw
  rw[if_neg cC];by_cases c6:6<=n
  ·skip
   have d6:=decide_eq_true (show 6<=n by omega);have d10:=decide_eq_false (show¬n<=10 by omega);have d11:=decide_eq_true (show 11<=n by omega);have d14:=decide_eq_false (show¬n<=14 by omega);have d15:=decide_eq_false (show¬n=15 by omega);have d16:=decide_eq_false (show¬n=16 by omega);simp only[XX,XY,F82,yA,yB,yC,zbl,zed,d6,d10,d11,d14,d15,d16];refine CallI.gen (λM=>Nx m M) ⟨by(try simp only[bN,nP]);omega,zad.of_low (by have:=hm.n64;(try simp only[bN,nP]);omega) (by repeat(first|exact Low.of hm nO|refine Low.put ?_ nO|refine Low.bump ?_)),λy hy=>by simp only[gB,gP,zbL hy,if_false]⟩ λM hN=>?_;have n1:=hN.next;refine cX (zkn (h.nx hN) hN.fresh (ht.nx hm hN) hg hi hs) λu M9 hB9=>?_;have n9:=hB9.next;have n10:m.next<=M9.next:=by omega
   simp only[XX,yA];exact(bE Lx.refl (Fd.of_nx hN) hB9).raw
  ·skip
   have d6:=decide_eq_false (show¬6<=n by omega);have d11:=decide_eq_false (show¬11<=n by omega);have d15:=decide_eq_false (show¬n=15 by omega);have d16:=decide_eq_false (show¬n=16 by omega);simp only[XX,XY,F82,yA,yB,yC,zbl,zed,d6,d11,d15,d16];refine CallI.gen (λM=>Nx m M) ⟨by(try simp only[bN,nP]);omega,zad.of_low (by have:=hm.n64;(try simp only[bN,nP]);omega) (by repeat(first|exact Low.of hm nO|refine Low.put ?_ nO|refine Low.bump ?_)),λy hy=>by simp only[gB,gP,zbL hy,if_false]⟩ λM hN=>?_;have n1:=hN.next;refine cX (zkn (h.nx hN) hN.fresh (ht.nx hm hN) hg hi hs) λu M9 hB9=>?_;have n9:=hB9.next;have n10:m.next<=M9.next:=by omega
   simp only[XX,yA];exact(bE Lx.refl (Fd.of_nx hN) hB9).raw
end
section
variable{m m' M mr:Mem}{n:Nat}{L L' L1 L2:Loc}{X X' X1 X2 Y W:St}{v:Value}{fl:List Value}{pid:Int}
structure Cr where
 X:St
 c:Cpu
 t:Int
def zoH(X:St)(i:Nat)(x:Ins):Cr:=
 let c:=(X.p i).cpu
 if x.op=24 then⟨X,c,1⟩
 else if x.op<15 then⟨X,zhy x c,0⟩
 else if x.op=15 then if lwX x c (zdt X i (adX x c))=true then⟨X,{zd4 x c (zdt X i (adX x c)) with pc:=c.pc+4#32},0⟩ else⟨X,c,2⟩
 else if x.op=17 then if(zhX X i (adX x c)).isSome=true then⟨X,{zd4 x c ((zhX X i (adX x c)).map z32) with pc:=c.pc+4#32},0⟩ else⟨X,c,2⟩
 else if x.op=16 then if adX x c % 4#32=0#32 then if(zau X i (adX x c) (zb4 (c.r.getD x.a.toNat 0#32))).2=0 then⟨(zau X i (adX x c) (zb4 (c.r.getD x.a.toNat 0#32))).1,{c with pc:=c.pc+4#32},0⟩ else⟨(zau X i (adX x c) (zb4 (c.r.getD x.a.toNat 0#32))).1,c,2⟩ else⟨X,c,2⟩
 else if x.op=18 then if(zau X i (adX x c) [lo8 (c.r.getD x.a.toNat 0#32)]).2=0 then⟨(zau X i (adX x c) [lo8 (c.r.getD x.a.toNat 0#32)]).1,{c with pc:=c.pc+4#32},0⟩ else⟨(zau X i (adX x c) [lo8 (c.r.getD x.a.toNat 0#32)]).1,c,2⟩
 else if x.op<24 then⟨X,{(zcj x c).2 with pc:=(zcj x c).1},0⟩
 else⟨X,{zby x c with pc:=(zby x c).pc+4#32},0⟩
def zdJ(X:St)(i:Nat):Cr:=if(za5 (zdt X i (X.p i).cpu.pc) (X.p i).cpu).2=0 then zoH X i (za5 (zdt X i (X.p i).cpu.pc) (X.p i).cpu).1 else⟨X,(X.p i).cpu,(za5 (zdt X i (X.p i).cpu.pc) (X.p i).cpu).2⟩
theorem zr6{w:Option (BitVec 32)}{c:Cpu}(h:(za5 w c).2=0):∃v,zc6 v=some (za5 w c).1:=by
 unfold za5 at h⊢;split at h
 ·cases h
 ·rename_i h4;rw[if_neg h4];split at h
  ·cases h
  ·split at h
   ·cases h
   ·rename_i x hx;exact⟨_,hx⟩
theorem zh0:zaB EE.P 70 "Word" =some 188:=kr
theorem zGE:zaB EE.P 70 "Byte" =some 64:=kr
theorem zvR:zaB EE.P 70 "SetWord" =some 27:=kr
theorem zDj:zaB EE.P 70 "SetByte" =some 370:=kr
theorem ztm:zab EE.P 188=true:=kr
theorem zIG:zab EE.P 64=true:=kr
theorem zA5:zab EE.P 27=true:=kr
theorem zGp:zab EE.P 370=true:=kr
def WrS(m:Mem)(L:Loc)(Z:St×Int)(M:Mem)(is:Bool)(M':Mem):Prop:=Nx m M∧is=decide (Z.2=0)∧Be M L Z.1 M'
theorem WrS.ok(h:FAt m L X){Z:St×Int}:zEz m.next (WrS m L Z):=⟨λM is M' ⟨_,_,hB⟩=>by obtain⟨_,_,_,f⟩:=hB;exact f.grow,λM is M' ⟨_,_,hB⟩=>hB.fresh,λM is M' y ⟨hN,_,hB⟩ h1 h2=>hB.old h2 λe=>by have:=h.lt y e;omega⟩
theorem WrS.out(h:FAt m L X){Z:St×Int}{c:Cpu}{u:Value}{m2:Mem}(hS:StR m (WrS m L Z) c u m2):Be m L Z.1 m2∧u=if Z.2=0 then zdx {c with pc:=c.pc+4#32} 0 else zdx c 2:=by
 obtain⟨M,is,M',hN,⟨_,his,hB⟩,h1,h2,h3,h4⟩:=hS;have n0:=hN.next;obtain⟨L',a,x,f⟩:=hB;have n1:=f.next;refine⟨⟨L',a.keep h1 λy hy=>?_,⟨x.f,x.P,x.G,x.C,x.I,x.F,λy hy=>(x.D y hy).imp id λe=>by omega⟩,by omega,h2,λy hy hD=>?_,λy hy e=>?_⟩,?_⟩
 ·rcases x.D y hy with e|e
  ·exact h3 y (.inl (h.lt y e))
  ·exact h3 y (.inr e)
 ·rw[h3 y (.inl hy),f.old y (by omega) hD,hN.old y hy]
 ·rw[h3 y (.inl hy)];exact f.low y (by omega) (by rw[hN.old y hy];exact e)
 ·rw[h4,his];by_cases e:Z.2=0
  ·rw[if_pos e,if_pos (decide_eq_true e)]
  ·rw[if_neg e,if_neg (by simpa using e)]
theorem zxz(h:FAt m L X)(hm:zad m)(ht:Tb m)(hg:GX X){i:Nat}(hi:i<X.P.length):∃u m',Con EE.P 81 [.agg (zbm (X.p i).cpu).toArray, .iface 70 (PT (L.p i))] m u m'∧u=zdx (zdJ X i).c (zdJ X i).t∧Be m L (zdJ X i).X m':=by
 obtain⟨cs,h1,h2⟩:=h.pr i hi;have hc:=h2.okc.o;have hW:∀a M,Nx m M->Con EE.P 188 [PT (L.p i),Um a] M (zjU (zdt X i a)) M:=λa M hN=>zmu (h.nx hN) hg hi;have hBy:∀a M,Nx m M->Con EE.P 64 [PT (L.p i),Um a] M (zAu (zhX X i a)) M:=λa M hN=>zr9 (h.nx hN) hg hi;have hsame:Be m L X m:=⟨L,h,Lx.refl,Fd.refl hm⟩;unfold zdJ;by_cases hf:(za5 (zdt X i (X.p i).cpu.pc) (X.p i).cpu).2=0
 ·rw[if_pos hf];obtain⟨wv,hdx⟩:=zr6 hf;have hfx:za5 (zdt X i (X.p i).cpu.pc) (X.p i).cpu=((za5 (zdt X i (X.p i).cpu.pc) (X.p i).cpu).1,0):=by rw[<-hf]
  generalize(za5 (zdt X i (X.p i).cpu.pc) (X.p i).cpu).1=x at hdx hfx⊢;obtain⟨o0,o1,a0,a8,b0,b8,k25,k27⟩:=zom hdx;unfold zoH;by_cases c24:x.op=24
  ·simp only[if_pos c24];exact⟨_,_,ztv ht.forms hc zh0 ztm (hW _) hf (by rw[hfx];exact c24),rfl,hsame⟩
  simp only[if_neg c24];by_cases c15:x.op<15
  ·simp only[if_pos c15];exact⟨_,_,zpr ht.forms hc zh0 ztm (hW _) hfx c15 a0 a8 b0 b8,rfl,hsame⟩
  simp only[if_neg c15];by_cases e15:x.op=15
  ·simp only[if_pos e15];have hs:=zw4 ht.forms hc zh0 ztm (hW _) hfx e15 a0 a8 b0 b8 (w2:=zdt X i (adX x (X.p i).cpu)) (hW _);split
   ·rename_i hl;rw[if_pos hl] at hs;exact⟨_,_,hs,rfl,hsame⟩
   ·rename_i hl;rw[if_neg hl] at hs;exact⟨_,_,hs,rfl,hsame⟩
  simp only[if_neg e15];by_cases e17:x.op=17
  ·simp only[if_pos e17];have hs:=zyq ht.forms hc zh0 ztm (hW _) hfx e17 a0 a8 b0 b8 zGE zIG (w3:=zhX X i (adX x (X.p i).cpu)) (hBy _);split
   ·rename_i hl;rw[if_pos hl] at hs;exact⟨_,_,hs,rfl,hsame⟩
   ·rename_i hl;rw[if_neg hl] at hs;exact⟨_,_,hs,rfl,hsame⟩
  simp only[if_neg e17];by_cases e16:x.op=16
  ·simp only[if_pos e16];by_cases c4:adX x (X.p i).cpu % 4#32=0#32
   ·simp only[if_pos c4];obtain⟨u,m2,h3,h4⟩:=zx7 (WrS.ok h (Z:=zau X i (adX x (X.p i).cpu) (zb4 ((X.p i).cpu.r.getD x.a.toNat 0#32)))) hm ht.forms hc zh0 ztm (hW _) hfx e16 a0 a8 b0 b8 c4 zvR zA5 λM hN=>by obtain⟨u,M',q1,q2,q3⟩:=zid (h.nx hN) hN.fresh hg hi (a:=adX x (X.p i).cpu) (w:=(X.p i).cpu.r.getD x.a.toNat 0#32);exact⟨u,M',q1,_,q2,hN,rfl,q3⟩
    obtain⟨h5,h6⟩:=WrS.out h h4;split
    ·rename_i hl;rw[if_pos hl] at h6;exact⟨u,m2,h3,h6,h5⟩
    ·rename_i hl;rw[if_neg hl] at h6;exact⟨u,m2,h3,h6,h5⟩
   ·simp only[if_neg c4];exact⟨_,_,zu5 ht.forms hc zh0 ztm (hW _) hfx e16 a0 a8 b0 b8 c4 zvR zA5,rfl,hsame⟩
  simp only[if_neg e16];by_cases e18:x.op=18
  ·simp only[if_pos e18];obtain⟨u,m2,h3,h4⟩:=zz1 (WrS.ok h (Z:=zau X i (adX x (X.p i).cpu) [lo8 ((X.p i).cpu.r.getD x.a.toNat 0#32)])) hm ht.forms hc zh0 ztm (hW _) hfx e18 a0 a8 b0 b8 zDj zGp λM hN=>by obtain⟨u,M',q1,q2,q3⟩:=zpe (h.nx hN) hN.fresh hg hi (a:=adX x (X.p i).cpu) (b:=lo8 ((X.p i).cpu.r.getD x.a.toNat 0#32));exact⟨u,M',q1,_,q2,hN,rfl,q3⟩
   obtain⟨h5,h6⟩:=WrS.out h h4;split
   ·rename_i hl;rw[if_pos hl] at h6;exact⟨u,m2,h3,h6,h5⟩
   ·rename_i hl;rw[if_neg hl] at h6;exact⟨u,m2,h3,h6,h5⟩
  simp only[if_neg e18];by_cases e24:x.op<24
  ·simp only[if_pos e24];exact⟨_,_,zqr ht.forms hc zh0 ztm (hW _) hfx (by omega) a0 a8,rfl,hsame⟩
  ·simp only[if_neg e24];obtain⟨q1,q2⟩:=k25 (by omega);exact⟨_,_,zoh ht.forms hc zh0 ztm (hW _) hfx h2.okc.2.2 (by omega) a0 q1 b0 q2 k27,rfl,hsame⟩
 ·rw[if_neg hf];exact⟨_,_,zq4 ht.forms hc zh0 ztm (hW _) hf,rfl,hsame⟩
end
section
variable{m m' M mr:Mem}{n:Nat}{L L' L1 L2:Loc}{X X' X1 X2 Y W:St}{v:Value}{fl:List Value}{pid:Int}
theorem zq6{s:Sg}{r:BitVec 32}:∀(f n:Nat) (p:BitVec 32),n+f<=16->0<=(zbH s r f n p).1∧(zbH s r f n p).1<16
 |0,n,p,_=>by unfold zbH;exact⟨Int.le_refl _,by show(0:Int)<16;decide⟩
 |f+1,n,p,h=>by
  unfold zbH;split
  ·split
   ·exact zq6 f (n+1) _ (by omega)
   ·show 0<=(n:Int)∧(n:Int)<16;omega
  ·exact zq6 f (n+1) _ (by omega)
theorem zwV{s:Sg}:0<=(zbd s).1∧(zbd s).1<16:=by
 unfold zbd;split
 ·exact zq6 15 1 _ (by decide)
 ·exact⟨Int.le_refl _,by show(0:Int)<16;decide⟩
theorem Cpu.ok.setr{c:Cpu}(h:c.ok){k:Nat}{v:BitVec 32}:Cpu.ok {c with r:=c.r.set k v}:=⟨by show(c.r.set k v).length=8;rw[sL];exact h.1,h.2⟩
theorem znQ{x:Ins}{c:Cpu}(h:c.ok){w:Option (BitVec 32)}:(zd4 x c w).ok:=by
 cases w with
 |none=>exact h
 |some v=>exact h.setr
theorem zuZ{x:Ins}{c:Cpu}(h:c.ok):(zcj x c).2.ok:=by
 unfold zcj;simp only
 repeat' split
 all_goals first|exact h|exact h.setr
theorem zpZ{x:Ins}{c:Cpu}(h:c.ok):(zby x c).ok:=by
 refine⟨?_,?_,zoR h.2.2⟩
 ·unfold zby;simp only
  repeat' split
  all_goals simp[h.1]
 ·unfold zby;simp only
  repeat' split
  all_goals simp[h.2.1]
theorem ztE{i:Nat}(h:(X.p i).cpu.ok):(zdJ X i).c.ok:=by
 unfold zdJ;split
 ·unfold zoH;simp only
  repeat' split
  all_goals first|exact h|skip
  ·unfold zhy;split
   ·exact h.setr
   ·exact h
  ·exact znQ h
  ·exact znQ h
  ·exact zuZ h
  ·exact zpZ h
 ·exact h
def zFh(p:zb9)(s:Sg)(g:Int):zb9:={p with sig:=s,saved:=p.cpu,cpu:={p.cpu with r:=p.cpu.r.set 0 (BitVec.ofInt 32 g),pc:=s.h.getD g.toNat 0#32}}
def zoC(X:St)(i:Nat)(s:Sg)(g:Int):St:={X with P:=X.P.set i (zFh (X.p i) s g)}
def zvx(Z:Cr)(i:Nat):St:=if Z.t=1 then zmw Z.X i else if Z.t=2 then zjR Z.X i 139#32 else if Z.t=3 then zjR Z.X i 132#32 else{Z.X with P:=Z.X.P.set i {Z.X.p i with cpu:=Z.c}}
def zul(X:St)(i:Nat)(z:Int×Int×Sg):St:=if z.2.1=1 then zjR (ziP X i z.2.2) i (128#32+BitVec.ofInt 32 z.1) else if z.2.1=2 then zfR (zoC X i z.2.2 z.1) i 3 0 (BitVec.ofInt 32 z.1) else zvx (zdJ (ziP X i z.2.2) i) i
def ziT(X:St)(i:Nat):St:=zul X i (zbd (X.p i).sig)
section
variable{E:Env}{base i:Nat}{rest:List (Nat×SOp)}{L:List zb8}{t:List Value}{m:Mem}{K:KI}{ty rt:TypeId}{d:Tmp}{n0:Nat}{rd:Option Nat}
theorem zyY [zaM E]{x:Operand}:XWi E base ((i,⟨some d, .makeInterface ty x,rt,none⟩)::rest) L t m (Q:=K)=okI (za9 E.P ⟨some d, .makeInterface ty x,rt,none⟩ (ev · t)) (k:=⟨λv=>XWi E base rest L (t.set d v) m (Q:=K)⟩):=by refine propext ?_;unfold XWi okI;rw[zbg rfl rfl,zaD zaM.h];rfl
end
theorem zEu{d:Option Tmp}{x:Operand}{rt:TypeId}{r:Operand->Value}:za9 EE.P ⟨d, .makeInterface 70 x,rt,none⟩ r=some (.iface 70 (r x)):=by simp only[za9,zew]
theorem zC4{a:BitVec 32}:IntKind.u32.wrap (128+(a.toNat:Int))=((128#32+a).toNat:Int):=zcH (a:=128#32)
theorem Sx.core(h:GX X){i:Nat}(hi:i<X.P.length):Sx 0 0 X (zdJ X i).X:=by
 unfold zdJ;split
 ·unfold zoH;simp only
  repeat' split
  all_goals first|exact Sx.refl h|exact Sx.of (Sh.write h hi)
 ·exact Sx.refl h
theorem zze(h:FAt m L X)(hm:zad m)(ht:Tb m)(hg:GX X){i:Nat}(hi:i<X.P.length)(hs:X.seen.length+X.fut.length<99000):∃u m',Con EE.P 46 [PT (L.p i)] m u m'∧Be m L (ziT X i) m':=by
 refine Con.raw zai zJr (bA rfl) _ ?_;obtain⟨cs,h1,h2⟩:=h.pr i hi;have hlt:=h.ids_lt (h.mp hi);have h64:=hm.n64;have h16:=h2.okh;have hh:=h2.sig;have ho:= @zbv (X.p i).sig;have hl:=za6 h16;have ne1:∀j,¬L.p i=m.next+j:=λj=>by omega
 have ne2:∀j,¬m.next+j=L.p i:=λj=>by omega
 have q1:= @zq1;have q2:= @zAF;have q3:= @zwL;simp only[XX,XY,F46,yA,yB,yC,h1,hh];refine cZ (zv8 h16) ?_;unfold ziT;have h16':=zww h16;obtain⟨z1,z2⟩:=zwV (s:=(X.p i).sig);generalize zbd (X.p i).sig=z at h16' z1 z2⊢;obtain⟨g,b,s⟩:=z;have h16':s.h.length=16:=h16';have z1:0<=g:=z1;have z2:g<16:=z2;have ho':= @zbv s;have hl':=za6 h16';have hw':∀c:Cells,c.n=19->(c.write 0 (sgL s)).sub 0 19=some (sgL s):=λc hc=>zes h16' hc;have k1:27+19<=cs.n:=by rw[h2.n];decide
 have hp1:=h2.w_sig (x:=s) hl' h16';have S1:Sx 0 0 X (ziP X i s):=Sx.set_p hg ((hg.px hi).w rfl rfl (.inl rfl) (.inl rfl));have hi1:i<(ziP X i s).P.length:=by show i<(X.P.set i _).length;rw[sL];exact hi
 have hsn:X.seen.length<99990:=by omega
 have hfn:X.fut.length<99990:=by omega
 unfold zul;by_cases b1:b=1
 ·have d1:=decide_eq_true b1;rw[if_pos b1];simp only[XX,XY,F46,yA,yB,yC,h1,ho',hl',hw',ne1,k1,d1,zdf,zC4];refine CallI.gen (λM=>Be m L (ziP X i s) M) ⟨L,h.upd_p hi hp1 nO gA (λy hy hne=>(by have:=h.lt y hy;(simp only[gB,gP];repeat(first|rw[if_neg (by omega)]|rw[if_pos trivial]|rw[if_pos (by omega)])))),Lx.refl,Pu.fd (j:=10) (by repeat(first|exact Pu.refl hm|refine Pu.own h (h.mp hi) ?_|refine Pu.new ?_ (by omega))) hm (by omega)⟩ λM hM=>?_;have n1:=hM.next;obtain⟨L1,a1,x1,f1⟩:=id hM;have ep:L1.p i=L.p i:=x1.p (by rw[h.lP];exact hi);refine cX (by rw[<-ep];exact zjO a1 f1.fresh (hM.tb h hm ht) S1.sh.gx hi1 hsn hfn) λu M9 hB9=>?_;have n9:=hB9.next;have n10:m.next<=M9.next:=by omega
  simp only[XX,yA];exact(bE x1 f1 hB9).raw
 rw[if_neg b1];have d1:=decide_eq_false b1;by_cases b2:b=2
 ·have d2:=decide_eq_true b2;rw[if_pos b2];have l11:=zcy h2.okc;have o11:= @zdQ;have q4:= @zlr;have g3:g<((16:Nat):Int):=by omega
  have hq':∀c:Cells,c.n=19->(c.write 0 (sgL s)).nth (2+g.toNat)=some (Um (s.h.getD g.toNat 0#32)):=λc hc=>by have hs2:=zcw (k:=2+g.toNat) (hw' c hc) (by omega);rw[Nat.zero_add] at hs2;rw[hs2,zBw h16' (by omega)]
  have hp2:=hp1.w_saved (x:=(X.p i).cpu) l11 h2.okc;have hp3:=hp2.w1_cpu (k:=0) (x:={(X.p i).cpu with r:=(X.p i).cpu.r.set 0 (BitVec.ofInt 32 g)}) (v:=Um (BitVec.ofInt 32 g)) (by decide) (zev h2.okc (by decide)) h2.okc.setr;have hp4:=hp3.w1_cpu (k:=10) (x:={(X.p i).cpu with r:=(X.p i).cpu.r.set 0 (BitVec.ofInt 32 g),pc:=s.h.getD g.toNat 0#32}) (v:=Um (s.h.getD g.toNat 0#32)) (by decide) (zdH hp3.okc) hp3.okc;have hc1:=hp1.cpu;have k2:16+11<=cs.n:=by rw[h2.n];decide
  have k3:5+1<=cs.n:=by rw[h2.n];decide
  have k4:15+1<=cs.n:=by rw[h2.n];decide
  have t0:Int.toNat 0=0:=rfl;have g0:(0:Int)<=0:=by decide
  have g8:(0:Int)<((8:Nat):Int):=by decide
  have k5:2+(g.toNat+1)<=19:=by omega
  simp only[XX,XY,F46,yA,yB,yC,h1,ho',hl',hw',ne1,ne2,k1,d1,d2,zdf,hc1,l11,o11,k2,k3,k4,q3,z1,g3,hq',t0,g0,g8];refine CallI.gen (λM=>Be m L (zoC X i s g) M) ⟨L,h.upd_p hi hp4 nO gA (λy hy hne=>(by have:=h.lt y hy;(simp only[gB,gP];repeat(first|rw[if_neg (by omega)]|rw[if_pos trivial]|rw[if_pos (by omega)])))),Lx.refl,Pu.fd (j:=10) (by repeat(first|exact Pu.refl hm|refine Pu.own h (h.mp hi) ?_|refine Pu.new ?_ (by omega))) hm (by omega)⟩ λM hM=>?_;have n1:=hM.next;obtain⟨L1,a1,x1,f1⟩:=id hM;have ep:L1.p i=L.p i:=x1.p (by rw[h.lP];exact hi);have hi2:i<(zoC X i s g).P.length:=by show i<(X.P.set i _).length;rw[sL];exact hi
  refine cX (by rw[<-ep];exact znp a1 f1.fresh hi2 (show X.seen.length<100000 by omega)) λu M9 hB9=>?_;have hB9:Be M L1 (zfR (zoC X i s g) i 3 0 (BitVec.ofInt 32 g)) M9:=hB9;have n9:=hB9.next;have n10:m.next<=M9.next:=by omega
  simp only[XX,yA];exact(bE x1 f1 hB9).raw
 rw[if_neg b2];have d2:=decide_eq_false b2;have hc1:=hp1.cpu;have l10:=zcy h2.okc;have o10:= @zdQ;simp only[XX,XY,F46,yA,yB,yC,h1,ho',hl',hw',ne1,k1,d1,d2,hc1,zyY,zEu];refine CallI.gen (λM=>FAt M L (ziP X i s)∧Fd L.D m M∧m.next+36<=M.next) ⟨h.upd_p hi hp1 nO gA (λy hy hne=>(by have:=h.lt y hy;(simp only[gB,gP];repeat(first|rw[if_neg (by omega)]|rw[if_pos trivial]|rw[if_pos (by omega)])))),Pu.fd (j:=10) (by repeat(first|exact Pu.refl hm|refine Pu.own h (h.mp hi) ?_|refine Pu.new ?_ (by omega))) hm (by omega),nO⟩ λM hM=>?_;obtain⟨a1,f1,n36⟩:=hM;have n1:=f1.next;have ec:((ziP X i s).p i).cpu=(X.p i).cpu:=by show((X.P.set i _).getD i zbh).cpu=_;rw[zah hi]
 refine cX (by rw[<-ec];exact zxz a1 f1.fresh (ht.fd f1 hm h.d64) S1.sh.gx hi1) λu M2 hM2=>?_;obtain⟨rfl,hB2⟩:=hM2;have hok:=ztE (X:=ziP X i s) (i:=i) (by rw[ec];exact h2.okc);have S2:=S1.trans (Sx.core (i:=i) S1.sh.gx hi1);have hi2':i<(zdJ (ziP X i s) i).X.P.length:=lL hi1 (Sx.core (i:=i) S1.sh.gx hi1).sh.P;have n2:=hB2.next;generalize zdJ (ziP X i s) i=Z at hB2 hok S2 hi2'⊢;obtain⟨L2,a2,x2,f2⟩:=hB2;have n33:¬L2.D (m.next+33):=λe=>(x2.D _ e).elim (λe=>by have:=h.lt _ e;omega) λe=>by omega
 have x2:Lx m.next L L2:=⟨x2.f,x2.P,x2.G,x2.C,x2.I,x2.F,λy hy=>(x2.D y hy).imp id λe=>by omega⟩;have A3:∀o1 o2,FAt ((M2.put (m.next+33) o1).put (m.next+33) o2) L2 Z.X:=λo1 o2=>(a2.new n33).new n33;have F2:Fd L.D m M2:=f1.trans f2 λy hy=> .inl hy;have F3:∀o1 o2,Fd L.D m ((M2.put (m.next+33) o1).put (m.next+33) o2):=λo1 o2=>(F2.putN (by omega) (by omega)).putN (by omega) nO;have B3:∀o1 o2 k,Be m L Z.X (((M2.put (m.next+33) o1).put (m.next+33) o2).bump k):=λo1 o2 k=>⟨L2,(A3 o1 o2).bump k,x2,(F3 o1 o2).bump k⟩;have hsz:=S2.sh.sn;have hfz:=S2.fl;have nm2:m.next<=M2.next:=by omega
 have l11:=zcy hok;have o11:= @zdQ;have hwc:∀c:Cells,c.n=11->(c.write 0 (zbm Z.c)).sub 0 11=some (zbm Z.c):=λc hc=>zay l11 (by rw[hc];decide);unfold zvx;by_cases t1:Z.t=1
 ·have d3:=decide_eq_true t1;rw[if_pos t1];simp only[XX,XY,F46,yA,yB,yC,nm2,zdx,l11,o11,d3,lA];refine CallI.gen (λM=>Be m L Z.X M) (B3 _ _ _) λM3 hN3=>?_;have n3:=hN3.next;obtain⟨L2,a2,x2,f2⟩:=id hN3;have ep2:L2.p i=L.p i:=x2.p (by rw[h.lP];exact hi);refine cX (by rw[<-ep2];exact zvq a2 f2.fresh (hN3.tb h hm ht) S2.sh.gx hi2' (by omega)) λu M9 hB9=>?_;have n9:=hB9.next;have n10:m.next<=M9.next:=by omega
  simp only[XX,yA];exact(bE x2 f2 hB9).raw
 rw[if_neg t1];have d3:=decide_eq_false t1;by_cases t2:Z.t=2
 ·have d4:=decide_eq_true t2;rw[if_pos t2];simp only[XX,XY,F46,yA,yB,yC,nm2,zdx,l11,o11,d3,d4,lA];refine CallI.gen (λM=>Be m L Z.X M) (B3 _ _ _) λM3 hN3=>?_;have n3:=hN3.next;obtain⟨L2,a2,x2,f2⟩:=id hN3;have ep2:L2.p i=L.p i:=x2.p (by rw[h.lP];exact hi);refine cX (by rw[<-ep2];exact zjO (s:=139#32) a2 f2.fresh (hN3.tb h hm ht) S2.sh.gx hi2' (by omega) (by omega)) λu M9 hB9=>?_;have n9:=hB9.next;have n10:m.next<=M9.next:=by omega
  simp only[XX,yA];exact(bE x2 f2 hB9).raw
 rw[if_neg t2];have d4:=decide_eq_false t2;by_cases t3:Z.t=3
 ·have d5:=decide_eq_true t3;rw[if_pos t3];simp only[XX,XY,F46,yA,yB,yC,nm2,zdx,l11,o11,d3,d4,d5,lA];refine CallI.gen (λM=>Be m L Z.X M) (B3 _ _ _) λM3 hN3=>?_;have n3:=hN3.next;obtain⟨L2,a2,x2,f2⟩:=id hN3;have ep2:L2.p i=L.p i:=x2.p (by rw[h.lP];exact hi);refine cX (by rw[<-ep2];exact zjO (s:=132#32) a2 f2.fresh (hN3.tb h hm ht) S2.sh.gx hi2' (by omega) (by omega)) λu M9 hB9=>?_;have n9:=hB9.next;have n10:m.next<=M9.next:=by omega
  simp only[XX,yA];exact(bE x2 f2 hB9).raw
 rw[if_neg t3];have d5:=decide_eq_false t3;have ep2:L2.p i=L.p i:=x2.p (by rw[h.lP];exact hi);obtain⟨c2,y1,y2⟩:=a2.pr i hi2';have hp2:=y2.w_cpu (x:=Z.c) l11 hok;have y1':=y1;rw[ep2] at y1;have kk:5+11<=c2.n:=by rw[y2.n];decide
 simp only[XX,XY,F46,yA,yB,yC,nm2,zdx,l11,o11,hwc,d3,d4,d5,y1,kk,ne1,lA];have hA9:=(A3 (.cells zN true 0) (.cells (zN.write 0 (zbm Z.c)) true 0)).put_p hi2' hp2;have hF9:=(F3 (.cells zN true 0) (.cells (zN.write 0 (zbm Z.c)) true 0)).putO (o:= .cells (c2.write 5 (zbm Z.c)) true 0) (h.dm _ (h.mp hi)) hlt (by rw[h1];simp);rw[ep2] at hA9;exact zcY.fin rfl ⟨L2,hA9.bump _,x2,hF9.bump _⟩
end
section
variable{m m' M mr:Mem}{n:Nat}{L L' L1 L2:Loc}{X X' X1 X2 Y W:St}{v:Value}{fl:List Value}{pid:Int}
structure Rn where
 X:St
 s:List zk2
 e:Int
def zvr(Y:St):Rn:=⟨zkl Y,Y.seen,0⟩
def zHU(X:St):Option Nat->Rn
 |none=>⟨X,[],290⟩
 |some i=>if(X.p i).wait=0 then zvr (ziT X i) else⟨X,[],290⟩
theorem zmM{i:Nat}:zHU X (some i)=if(X.p i).wait=0 then zvr (ziT X i) else⟨X,[],290⟩:=rfl
def ztT(X:St)(pid:Int):Rn:=if X.halted=true then⟨X,[],181⟩ else zHU X (zbO X pid)
def zzF(X:St)(pid g:Int):Rn:=if X.halted=true then⟨X,[],181⟩ else if zbO X pid=none∨g<1∨15<g then⟨X,[],290⟩ else zvr (zeO X pid g)
def Tl(m:Mem)(L:Loc)(R:Rn)(u:Value)(m':Mem):Prop:=Be m L R.X m'∧∃v,u= .tuple [v,In R.e].toArray∧SlV m' 4 v R.s.length (R.s.flatMap zpm)∧∀y,slB v=some y->L.D y∨m.next<=y
theorem Be.grow(h:Be m L X M):Grow m M:=by obtain⟨_,_,_,f⟩:=h;exact f.grow
theorem Tl.nil(h:FAt m L X)(hm:zad m){e:Int}{k:Nat}:zcY m (m.bump k) (.tuple [.slice none 0 0,In e].toArray) (Tl m L ⟨X,[],e⟩):=
 ⟨(Be.same h hm k).grow,Be.same h hm k,_,rfl,SlV.nil,λy hy=>by cases hy⟩
theorem zsd(h:FAt m L X)(hm:zad m)(ht:Tb m)(hg:GX X)(hs:X.seen.length+X.fut.length<99000):∃u m',Con EE.P 17 [PT L.f,In pid] m u m'∧Tl m L (ztT X pid) u m':=by
 refine Con.raw zai zIu (bA rfl) _ ?_;unfold ztT;simp only[XX,XY,F17,yA,yB,yC];refine cZ (zs5 (h.bump _) hg) ?_;cases hh:X.halted with
 |true=>rw[if_pos rfl];simp only[XX,XY,F17,yA,yB,yC,yH];exact Tl.nil h hm
 |false=>
  rw[if_neg (by simp)];simp only[XX,XY,F17,yA,yB,yC];refine cZ (zf6 (h.bump _) hg) ?_;cases hl:zbO X pid with
  |none=>simp only[XX,XY,F17,yA,yB,yC,pV];exact Tl.nil h hm
  |some i=>
   obtain⟨hi,_,_⟩:=zeK h hl;obtain⟨cs,h1,h2⟩:=h.pr i hi;by_cases hw:(X.p i).wait=0
   ·have d0:=decide_eq_true hw;rw[zmM,if_pos hw];simp only[XX,XY,F17,yA,yB,yC,pV,h1,h2.wait,hw];refine cX (zze (h.bump _) hm.bump (ht.bump _) hg hi hs) λu M hB=>?_;have hB:=hB.of_bump;have nx:=hB.next;obtain⟨L1,a1,x1,f1⟩:=id hB;have ef:L1.f=L.f:=x1.f;simp only[XX,XY,F17,yA,yB,yC,nx];refine cX (by rw[<-ef];exact zmI (a1.bump _) f1.fresh.bump) λu M9 hM9=>?_;obtain⟨rfl,hB9,hsl⟩:=hM9;have hB9:=hB9.of_bump;have n9:=hB9.next;have n10:m.next<=M9.next:=by omega
    simp only[XX,XY,yA,yB];have hBe:Be m L (zkl (ziT X i)) M9:=bE x1 f1 hB9;exact⟨hBe.grow,hBe,_,rfl,hsl,λy hy=>(x1.D y (a1.ds y hy))⟩
   ·have d0:=decide_eq_false hw;rw[zmM,if_neg hw];simp only[XX,XY,F17,yA,yB,yC,pV,h1,h2.wait,hw];exact Tl.nil h hm
theorem zyK(h:FAt m L X)(hm:zad m)(ht:Tb m)(hg:GX X)(hs:X.seen.length+X.fut.length<99000){g:Int}:∃u m',Con EE.P 24 [PT L.f,In pid,In g] m u m'∧Tl m L (zzF X pid g) u m':=by
 refine Con.raw zai zIO (bA rfl) _ ?_;unfold zzF;simp only[XX,XY,F24,yA,yB,yC];refine cZ (zs5 (h.bump _) hg) ?_;cases hh:X.halted with
 |true=>rw[if_pos rfl];simp only[XX,XY,F24,yA,yB,yC,yH];exact Tl.nil h hm
 |false=>
  rw[if_neg (by simp)];simp only[XX,XY,F24,yA,yB,yC];refine cZ (zf6 (h.bump _) hg) ?_;cases hl:zbO X pid with
  |none=>rw[if_pos (.inl rfl)];simp only[XX,XY,F24,yA,yB,yC,pV];exact Tl.nil h hm
  |some i=>
   by_cases c1:g<1
   ·have d1:=decide_eq_true c1;rw[if_pos (.inr (.inl c1))];simp only[XX,XY,F24,yA,yB,yC,pV,d1];exact Tl.nil h hm
   have d1:=decide_eq_false c1;by_cases c2:15<g
   ·have d2:=decide_eq_true c2;rw[if_pos (.inr (.inr c2))];simp only[XX,XY,F24,yA,yB,yC,pV,d1,d2];exact Tl.nil h hm
   have d2:=decide_eq_false c2;rw[if_neg (λe=>by rcases e with e|e|e;cases e;exact c1 e;exact c2 e)];simp only[XX,XY,F24,yA,yB,yC,pV,d1,d2];refine cX (ziV (h.bump _) hm.bump (ht.bump _) hg (by omega) (by omega)) λu M hB=>?_;have hB:=hB.of_bump;have nx:=hB.next;obtain⟨L1,a1,x1,f1⟩:=id hB;have ef:L1.f=L.f:=x1.f;simp only[XX,XY,F24,yA,yB,yC,nx];refine cX (by rw[<-ef];exact zmI (a1.bump _) f1.fresh.bump) λu M9 hM9=>?_;obtain⟨rfl,hB9,hsl⟩:=hM9;have hB9:=hB9.of_bump;have n9:=hB9.next;have n10:m.next<=M9.next:=by omega
   simp only[XX,XY,yA,yB];have hBe:Be m L (zkl (zeO X pid g)) M9:=bE x1 f1 hB9;exact⟨hBe.grow,hBe,_,rfl,hsl,λy hy=>(x1.D y (a1.ds y hy))⟩
end
section
variable{m m' M mr:Mem}{n:Nat}{L L' L1 L2:Loc}{X X' X1 X2 Y W:St}{v:Value}{fl:List Value}{pid:Int}
def tk1(X:St)(i:Nat):St:={X with P:=X.P.set i {X.p i with left:=(X.p i).left-1#32}}
def tick1(X:St)(i:Nat):St:=if(X.p i).left-1#32=0#32 then zaI (zar (tk1 X i) i 0#32) i else tk1 X i
def zhU(X:St)(i:Nat):St:=if(X.p i).wait=5 then tick1 X i else X
def tickI(X:St)(l:List Nat):St:=l.foldl zhU X
def zmz(X:St):Rn:=if X.halted=true then⟨X,[],181⟩ else zvr (tickI X X.l)
theorem ziJ{k:Nat}(hk:k<X.l.length):tickI X (X.l.take (k+1))=zhU (tickI X (X.l.take k)) (X.l.getD k 0):=by unfold tickI;rw[zkc hk,List.foldl_append];rfl
theorem Sx.tk1(h:GX X){i:Nat}(hi:i<X.P.length):Sx 0 0 X (tk1 X i):=Sx.set_p h ((h.px hi).w rfl rfl (.inl rfl) (.inl rfl))
theorem Sx.tick1(h:GX X){i:Nat}(hi:i<X.P.length):Sx 0 1 X (tick1 X i)∧(tick1 X i).P.length=X.P.length∧(tick1 X i).l=X.l:=by
 have h1:=Sx.tk1 h hi;have hi1:i<(Go.Ab.tk1 X i).P.length:=by show i<(X.P.set i _).length;rw[sL];exact hi
 unfold Go.Ab.tick1;split
 ·have h2:=h1.trans (Sx.answer (v:=0#32) h1.sh.gx hi1);exact⟨h2.trans (Sx.ready h2.sh.gx (lL hi h2.sh.P)),by simp[zaI,zar,zfR,Go.Ab.tk1],rfl⟩
 ·exact⟨h1.up (by omega) (by omega),by simp[Go.Ab.tk1],rfl⟩
theorem Sx.tickI:∀{l:List Nat} {X:St},GX X->(∀j∈l,j<X.P.length)->Sx 0 l.length X (tickI X l)∧(tickI X l).P.length=X.P.length∧(tickI X l).l=X.l
 |[],X,h,_=>⟨Sx.refl h,rfl,rfl⟩
 |i::l,X,h,hl=>by
  have key:Sx 0 1 X (zhU X i)∧(zhU X i).P.length=X.P.length∧(zhU X i).l=X.l:=by
   unfold zhU;split
   ·exact Sx.tick1 h (hl i List.mem_cons_self)
   ·exact⟨(Sx.refl h).up (by omega) (by omega),rfl,rfl⟩
  obtain⟨a1,a2,a3⟩:=key;obtain⟨b1,b2,b3⟩:=Sx.tickI (l:=l) a1.sh.gx (λk hk=>by rw[a2];exact hl k (List.mem_cons_of_mem _ hk));exact⟨(a1.trans b1).up (by omega) (by simp;omega),b2.trans a2,b3.trans a3⟩
theorem zBM(h:FAt m L X){i:Nat}(hi:i<X.P.length):Con EE.P 69 [PT (L.p i)] m (.bool (decide ((X.p i).wait=5))) m:=by refine Con.of zai zI5 (bA rfl) Grow.rfl λhm=>?_;obtain⟨cs,h1,h2⟩:=h.pr i hi;simp only[XX,XY,F69,yA,yB,yC,h1,h2.wait];exact tP rfl λ_ _=>rfl
theorem zpj{lp i j:Nat}{tl:List (Nat×Value)}(hF:zad M)(ht:Tb M)(hA:FAt M L2 X)(hg:GX X)(hl:M.get lp=some (.loop {state:= .ready,pend:=none,tmps:=T 32 tl,ps:=[13],assign:=(kO Tryz.f34.body 15),body:=(kO Tryz.f34.body 16)}))(hD:¬L2.D lp)(h64:64<=lp)(hi:i<X.P.length)(hs:X.seen.length<99999)(hf:X.fut.length<99999):
  ∃u m',zgt EE.P lp [PT (L2.p i)] (M.bump j) u m'∧u= .bool true∧M.next+j<=m'.next∧Be M L2 (tick1 X i) m':=by
 have hlt:=hF.lt hl;obtain⟨cs,h1,h2⟩:=hA.pr i hi;have hpl:=hA.ids_lt (hA.mp hi);have nlp:¬lp=L2.p i:=λe=>hD (by rw[e];exact hA.dm _ (hA.mp hi));have npl:¬L2.p i=lp:=λe=>nlp e.symm;have k1:51+1<=cs.n:=by rw[h2.n];decide
 have hp:=h2.w_left (x:=(X.p i).left-1#32);have hp':(cs.write 51 [Um ((X.p i).left-1#32)]).nth 51=some (Um ((X.p i).left-1#32)):=hp.left;refine zgt.of zai (by rw[gB];exact hl) rfl rfl ?_;have hne:∀k,¬lp=M.next+k:=λk=>by omega
 unfold tick1;by_cases z0:(X.p i).left-1#32=0#32
 ·have dz:decide ((((X.p i).left-1#32).toNat:Int)=0)=true:=by rw[eq0];exact decide_eq_true z0
  rw[if_pos z0];simp only[XX,XY,F34,yA,yB,yC,yG,hl,h1,npl,h2.left,k1,zsm,hp',dz];have A1:∀o1,FAt ((M.put lp o1).put (L2.p i) (.cells (cs.write 51 [Um ((X.p i).left-1#32)]) true 0)) L2 (tk1 X i):=λo1=>(hA.new hD).put_p hi hp;have F1:∀o1,Fd L2.D ((M.put lp o1).bump (j+16)) (((M.put lp o1).put (L2.p i) (.cells (cs.write 51 [Um ((X.p i).left-1#32)]) true 0)).bump (j+16)):=λo1=>by rw[<-zbp];exact Fd.own ((hA.new hD).bump _) (hF.put hlt).bump (hA.mp hi)
  have S1:=Sx.tk1 hg hi;have hi1:i<(tk1 X i).P.length:=by show i<(X.P.set i _).length;rw[sL];exact hi
  refine cX (zaL (v:=0#32) ((A1 _).bump _) (F1 _).fresh (((ht.put (b:=lp) (o:=_) h64).put (hA.d64 _ (hA.dm _ (hA.mp hi)))).bump _) hi1 (show X.seen.length<100000 by omega)) λu M5 hB5=>?_;have hB5:=bE Lx.refl (F1 _) hB5;have n5:=hB5.next;simp only[bN,nP] at n5;obtain⟨L5,a5,x5,f5⟩:=id hB5;have e5:L5.p i=L2.p i:=x5.p (by rw[hA.lP];exact hi);have hl5:=hB5.old (y:=lp) nO hD;simp only[gB,gP,if_true] at hl5;have m5a:M.next+j<=M5.next:=by omega
  have m5b:∀k,k<=16->M.next+(j+k)<=M5.next:=λk hk=>by omega
  simp only[XX,XY,F34,yA,yB,yC,yG,m5b];refine cX (by rw[<-e5];exact zfP (a5.bump _) f5.fresh.bump (by show i<((tk1 X i).P.set i _).length;rw[sL];exact hi1) (show X.fut.length<100000 by omega)) λu M7 hB7=>?_;have hB7:=bE x5 f5 hB7.of_bump;have n7:=hB7.next;simp only[bN,nP] at n7;have hl7:=hB7.old (y:=lp) nO hD;simp only[gB,gP,if_true] at hl7;have m7b:∀k,k<=16->M.next+(j+k)<=M7.next:=λk hk=>by omega
  have m7a:M.next+j<=M7.next:=by omega
  rw[<-zbp] at hB7;simp only[XX,XY,yA,yG,hl7,m7a,m7b];have hBl:=Be.loop (M:=M.bump (j+16)) (by rw[gB];exact hl) nO hD hB7;exact⟨hBl.grow_b (by omega),hBl.of_bump⟩
 ·have dz:decide ((((X.p i).left-1#32).toNat:Int)=0)=false:=by rw[eq0];exact decide_eq_false z0
  rw[if_neg z0];simp only[XX,XY,F34,yA,yB,yC,yG,hl,h1,nlp,npl,h2.left,k1,zsm,hp',dz];rw[<-zbp,<-zbp,<-zbp];have hBl:=Be.loop (M:=M.bump (j+14)) (by rw[gB];exact hl) nO hD (((hA.bump (j+14)).new (o:= .loop {state:= .busy,pend:=none,tmps:=T 32 tl,ps:=[13],assign:=(kO Tryz.f34.body 15),body:=(kO Tryz.f34.body 16)}) hD).be_p (hF.bump.put nO) hi hp);exact⟨hBl.grow_b (by omega),hBl.of_bump⟩
theorem ztU(h:FAt m L X)(hm:zad m)(ht:Tb m)(hg:GX X)(hs:X.seen.length+X.fut.length<99000):∃u m',Con EE.P 34 [PT L.f] m u m'∧Tl m L (zmz X) u m':=by
 refine Con.raw zai zIH (bA rfl) _ ?_;unfold zmz;simp only[XX,XY,F34,yA,yB,yC];refine cZ (zs5 (h.bump _) hg) ?_;cases hh:X.halted with
 |true=>rw[if_pos rfl];simp only[XX,XY,F34,yA,yB,yC,yH];exact Tl.nil h hm
 |false=>
  rw[if_neg (by simp)];simp only[XX,XY,F34,yA,yB,yC];refine cX (zjF (L:=L) (x:= .func (.func 69) #[] #[]) hm.bump rfl) λu M hv=>?_;obtain⟨x1,x2,rfl,x3,x4,x5,x6,x7,hn1⟩:=hv;have hNM:=hn1.of_bump;have n1:=hn1.next;simp only[bN] at n1 x3 x4;have hA:FAt M L X:=h.nx hNM;have n2:m.next<=M.next:=by omega
  simp only[XX,F34,yA];refine zgS (g:=101) (l':=[(0,PT L.f)]) (R:=λ_ m2=>(∃r:zct,m2.get M.next=some (.loop r)∧r.state= .ready∧r.pend=none)∧∀o,Be M L (tickI X X.l) (m2.put M.next o)) [] [PT x1,PT x2] (by omega) (by simp only[zwB,zc4,Nat.reduceLT,Nat.reduceEqDiff,reduceIte]) kr ?_ (λp hp=>?_) (λ_ m2 hI=>?_)
  ·have e0:tickI X (X.l.take 0)=X:=rfl;have ee:tickI X X.l=(λk=>tickI X (X.l.take k)) X.l.length:=by simp only[List.take_length]
   rw[ee];refine zkB (g:=69) (cap:=[]) hn1.fresh hA hg x5 x6 (λe=>by have:=h.lt _ e;omega) kr ⟨rfl,rfl⟩ (λk=>tickI X (X.l.take k)) e0 λk M' L2 hk hF' hA' hx' hD' hn' hl' ho'=>?_;obtain⟨S1,S2,S3⟩:=Sx.tickI (l:=X.l.take k) hg (λj hj=>h.pi j (List.mem_of_mem_take hj));have hi:X.l.getD k 0<(tickI X (X.l.take k)).P.length:=by rw[S2];exact h.lk hk
   have ep:L.p (X.l.getD k 0)=L2.p (X.l.getD k 0):=(hx'.p (by rw[h.lP];exact h.lk hk)).symm;have hl32:(X.l.take k).length<=32:=by have:=hg.ln;rw[List.length_take];omega
   have s1:=S1.sh.sn;have s2:=S1.fl;refine⟨decide (((tickI X (X.l.take k)).p (X.l.getD k 0)).wait=5),λj=>?_,λe=>?_,λe j=>?_⟩
   ·rw[ep];exact zBM (hA'.bump j) hi
   ·show tickI X (X.l.take (k+1))=tickI X (X.l.take k);rw[ziJ hk];unfold zhU;rw[if_neg (of_decide_eq_false e)]
   ·show∃u m',zgt EE.P M.next _ _ u m'∧u= .bool true∧_∧Be M' L2 (tickI X (X.l.take (k+1))) m';rw[ziJ hk];unfold zhU;rw[if_pos (of_decide_eq_true e),ep];have htM':Tb M':=ht.keep λy hy=>by rw[ho' y (by have:=hm.n64;omega) (λe=>by have:=h.d64 _ e;omega),hNM.old y (by have:=hm.n64;omega)]
    exact zpj hF' htM' hA' S1.sh.gx hl' hD' (by have:=hm.n64;omega) hi (by omega) (by omega)
  ·rw[List.mem_singleton.1 hp];exact zgn (by have:=h.ids_lt h.mf;omega)
  ·obtain⟨⟨r,q1,q2,q3⟩,q4⟩:=hI;obtain⟨st,pe,tm,ps,sa,bd⟩:=r;simp only at q2 q3;subst q2 q3;refine zb1 q1 ?_;have hB:=q4 (.loop {state:= .exhausted,pend:=none,tmps:=tm,ps:=ps,assign:=sa,body:=bd});have hBm:Be m L (tickI X X.l) _:=bE Lx.refl (Fd.of_nx hNM) hB;have nx:=hBm.next;rw[nP] at nx;obtain⟨L1,a1,y1,f1⟩:=id hBm;have ef:L1.f=L.f:=y1.f;simp only[XX,XY,F34,yA,yB,yC,nx];refine cX (by rw[<-ef];exact zmI (a1.bump _) f1.fresh.bump) λu M9 hM9=>?_;obtain⟨rfl,hB9,hsl⟩:=hM9;have hB9:=hB9.of_bump;have n9:=hB9.next;rw[nP] at n9;have n10:m.next<=M9.next:=by omega
   simp only[XX,XY,yA,yB];have hBe:Be m L (zkl (tickI X X.l)) M9:=bE y1 f1 hB9;exact⟨hBe.grow,hBe,_,rfl,hsl,λy hy=>(y1.D y (a1.ds y hy))⟩
end
section
variable{X Y Z W:St}{i j k:Nat}
def Kk(X Y:St):Prop:=Y.l=X.l∧X.P.length<=Y.P.length
theorem Kk.refl:Kk X X:=⟨rfl,lR' _⟩
theorem Kk.trans(h:Kk X Y)(g:Kk Y Z):Kk X Z:=⟨g.1.trans h.1,lT h.2 g.2⟩
theorem Lk.kk(h:Lk X)(g:Kk X Y):Lk Y:=λj hj=>by rw[g.1] at hj;exact lL (h j hj) g.2
theorem Kk.set_p{r:zb9}:Kk X {X with P:=X.P.set i r}:=⟨rfl,by simp⟩
theorem Kk.answer{v:BitVec 32}:Kk X (zar X i v):=⟨rfl,by simp[zar,zfR]⟩
theorem Kk.see{a b:Int}{v:BitVec 32}:Kk X (zfR X i a b v):=Kk.refl
theorem Kk.ready:Kk X (zaI X i):=⟨rfl,by simp[zaI]⟩
theorem Kk.wake{w:Int}{q:Nat}{l:List Nat}:Kk X (wakeI X w q l):=⟨zfb.2.2.2.1,Nat.le_of_eq zfb.1.symm⟩
theorem Kk.child{pid:Int}:Kk X (zbs X pid):=by
 unfold zbs;split
 ·split
  ·exact Kk.ready
  ·exact Kk.refl
 ·exact Kk.refl
theorem Kk.unmap{k:Nat}:Kk X (zbi X i k):=by
 unfold zbi;split
 ·exact Kk.refl
 ·first|exact Kk.set_p|exact⟨rfl,by simp⟩|(split<;>exact⟨rfl,by simp⟩)
theorem Kk.unmaps:∀{l:List Nat} {X:St},Kk X (zaY X i l)
 |[],X=>Kk.refl
 |k::l,X=>Kk.unmap.trans (Kk.unmaps (l:=l))
theorem Kk.write{a:BitVec 32}{l:List (BitVec 8)}:Kk X (zau X i a l).1:=⟨znC,Nat.le_of_eq znj.symm⟩
theorem Kk.orph{l:List Nat}{Z:St×Bool}:Kk Z.1 (orphI i l Z).1:=by obtain⟨P',e,h⟩:=zfC (i:=i) (l:=l) (Z:=Z);rw[e];exact⟨rfl,Nat.le_of_eq h.symm⟩
theorem Sh.orph(h:GX X)(hl:Lk X):Sh 0 X (orphI i X.l (X,false)).1:=by have hg:GX (orphI i X.l (X,false)).1:=GX.orphI (Z:=(X,false)) h hl;obtain⟨P',e,hP⟩:=zfC (i:=i) (l:=X.l) (Z:=(X,false));rw[e] at hg⊢;exact⟨Nat.le_of_eq hP.symm,lR' _,lR' _,lR' _,lR' _,lR' _,lR' _,hg⟩
theorem Sx.exitD{Z:St×Bool}(h:GX Z.1)(hl:Lk Z.1):Sx 0 0 Z.1 (exitD Z i)∧Kk Z.1 (exitD Z i):=by
 unfold Go.Ab.exitD;cases Z.2 with
 |false=>simp only[bF,if_false];exact⟨.of (Sh.child h hl),Kk.child⟩
 |true=>simp only[if_true];have h1:Sx 0 0 Z.1 (zbs Z.1 1):= .of (Sh.child h hl);exact⟨h1.trans (.of (Sh.child h1.sh.gx (hl.kk Kk.child))),Kk.child.trans Kk.child⟩
theorem Sx.exitB(h:GX Y)(hl:Lk Y):Sx 0 1 Y (exitB Y i):=by
 unfold Go.Ab.exitB;split
 ·exact⟨⟨lR' _,lR' _,lR' _,lR' _,lR' _,Nat.le_add_right _ _,Nat.le_add_right _ _,h.set_halted⟩,lR' _⟩
 ·have h1:Sx 0 0 Y (orphI i Y.l (Y,false)).1:= .of (Sh.orph h hl);have k1:Kk Y (orphI i Y.l (Y,false)).1:=Kk.orph (Z:=(Y,false));obtain⟨h2,k2⟩:=Sx.exitD (i:=i) h1.sh.gx (hl.kk k1);exact(h1.trans h2).trans (Sx.post (h1.trans h2).sh.gx (hl.kk (k1.trans k2)))
theorem zt7{s:BitVec 32}:Kk X (exitA X i s):=by unfold exitA zei;exact Kk.trans (Kk.trans (Kk.see (i:=i) (a:=4) (b:=0) (v:=s)) (Kk.ready (i:=i))) (Kk.trans Kk.set_p Kk.unmaps)
theorem Sx.exit(h:GX X)(hi:i<X.P.length)(hl:Lk X){s:BitVec 32}:Sx 0 2 X (zjR X i s):=by unfold zjR zCn;have h1:=Sh.exitA (s:=s) h hi;have hA:Sx 0 1 X (exitA X i s):=⟨h1,by unfold exitA;have a1:=Sx.see (i:=i) (a:=4) (b:=0) (v:=s) h;have a2:=Sx.ready (i:=i) a1.sh.gx (lL hi a1.sh.P);have hi2:=lL hi (lT a1.sh.P a2.sh.P);have a3:=Sh.dead (s:=s) a2.sh.gx hi2;have a4:=Sh.unmaps (i:=i) (l:=List.range 64) a3.gx (lL hi2 a3.P);have:=a4.fut;have:=a3.fut;have:=a2.fl;have:=a1.fl;unfold zei;omega⟩;have hiA:=lL hi h1.P;have hlA:=hl.kk (zt7 (i:=i) (s:=s));obtain⟨b1,b2,b3⟩:=Sh.closes (i:=i) (F:=((exitA X i s).p i).fds) (l:=List.range 8) (λk y hy=>(h1.gx.fd i hiA).2 k y hy) h1.gx hiA hlA;have hlC:=hlA.kk ⟨b2,Nat.le_of_eq b3.symm⟩;exact((hA.trans (.of b1)).trans (Sx.exitB b1.gx hlC)).up (by omega) (by omega)
theorem Sx.fork(h:GX X)(hi:i<X.P.length):Sx 0 1 X (zhT X i):=by
 unfold zhT;split
 ·exact Sx.code h hi
 ·rename_i hc;have hc1:X.l.length<X.procs:=by
   by_cases e:X.procs<=X.l.length
   ·exact absurd (.inl e) hc
   ·omega
  have hc2:X.next<=65535:=by
   by_cases e:65535<X.next
   ·exact absurd (.inr e) hc
   ·omega
  have a1:=Sh.forkA h hi hc2;have hj:X.P.length<(forkA X i).P.length:=by simp[forkA]
  have hiA:i<(forkA X i).P.length:=by omega
  have a2:Sh 0 (forkA X i) (zbq X i):=Sh.cloneI a1.gx hj (a1.gx.pg i hiA).2;have kl1:Kl (forkA X i) (zbq X i):=zkJ;have hjB:=lL hj a2.P;have a3:Sh 0 (zbq X i) (zcQ (zbq X i) X.P.length):=Sh.sharesX a2.gx (a2.gx.fd _ hjB).2;have kl2:Kl (zbq X i) (zcQ (zbq X i) X.P.length):=zic;have h3:=(a1.trans a2).trans a3;have el:(zcQ (zbq X i) X.P.length).l=X.l:=kl2.1.trans kl1.1;have epr:(zcQ (zbq X i) X.P.length).procs=X.procs:=kl2.2.1.trans kl1.2.1;generalize zcQ (zbq X i) X.P.length=V at h3 el epr a3⊢;have hjV:=lL hjB a3.P;have a4:Sh 0 V (zcC V X.P.length):=Sh.set_p h3.gx ((h3.gx.px hjV).w rfl rfl (.inl rfl) (.inl rfl));have g5:GX (zlv (zcC V X.P.length) X.P.length):=a4.gx.set_l (by show((V.l++ [X.P.length]).length:Int)<=V.procs;rw[el,epr,aL];show((X.l.length+1:Nat):Int)<=_;omega);have a5:Sh 0 (zcC V X.P.length) (zlv (zcC V X.P.length) X.P.length):=⟨lR' _,lR' _,lR' _,lR' _,lR' _,lR' _,lR' _,g5⟩;have h5:=(h3.trans a4).trans a5;exact(Sx.of h5).trans (Sx.answer h5.gx (lL hi h5.P))
theorem Sx.wait(h:GX X)(hi:i<X.P.length){a:BitVec 32}:Sx 0 1 X (zgy X i a):=by
 unfold zgy;split
 ·exact Sx.code h hi
 split
 ·exact Sx.up (Sx.set_p (i:=i) (r:={X.p i with wait:=1}) h ((h.px hi).w rfl rfl (.inl rfl) (.inl rfl))) (by omega) (by omega)
 have key:∀W:St×Int,Sx 0 0 X W.1->∀k,Sx 0 1 X (waitB W i k):=λW hW k=>by
  unfold waitB;split
  ·have g1:GX {W.1 with l:=W.1.l.take k++W.1.l.drop (k+1)}:=hW.sh.gx.set_l (by have:=hW.sh.gx.lp;rw[aL,List.length_take,List.length_drop];omega);have a1:Sx 0 0 W.1 {W.1 with l:=W.1.l.take k++W.1.l.drop (k+1)}:=⟨⟨lR' _,lR' _,lR' _,lR' _,lR' _,lR' _,lR' _,g1⟩,lR' _⟩;exact(hW.trans a1).trans (Sx.answer g1 (lL hi hW.sh.P))
  ·exact hW.trans (Sx.code hW.sh.gx (lL hi hW.sh.P))
 split
 ·exact key _ (Sx.refl h) _
 ·exact key _ (.of (Sh.write h hi)) _
theorem Sx.pipe(h:GX X)(hi:i<X.P.length){a:BitVec 32}{F:List Nat}:Sx 0 1 X (zkC X i a F):=by
 unfold zkC;split
 ·exact Sx.code h hi
 split
 ·exact Sx.code h hi
 have hW:Sx 0 0 X (zau X i a (zf4 F)).1:= .of (Sh.write h hi);have hiW:=lL hi hW.sh.P;unfold zlO;split
 ·have a1:Sx 0 0 _ (pipeA (zau X i a (zf4 F)).1 i (F.getD 0 0) (F.getD 1 0)):= .of (Sh.pipeA hW.sh.gx hiW);exact(hW.trans a1).trans (Sx.answer a1.sh.gx (lL hiW a1.sh.P))
 ·exact hW.trans (Sx.code hW.sh.gx hiW)
theorem Sx.wakes(h:GX X)(hl:Lk X){q:Nat}{b:List (BitVec 8)}{w:Int}(hb:(b.length:Int)<=X.cap):Sx 0 0 X (zcx {X with I:=X.I.set q {X.i q with b:=b}} w q)∧Kk X (zcx {X with I:=X.I.set q {X.i q with b:=b}} w q):=by have g1:GX {X with I:=X.I.set q {X.i q with b:=b}}:=h.set_i hb;have a1:Sx 0 0 X {X with I:=X.I.set q {X.i q with b:=b}}:=⟨⟨lR' _,lR' _,by simp,lR' _,lR' _,lR' _,lR' _,g1⟩,lR' _⟩;exact⟨a1.trans (.of (Sh.wake g1 hl)),Kk.wake⟩
theorem Sx.readP(h:GX X)(hi:i<X.P.length)(hl:Lk X){q:Nat}(hq:q<X.I.length){a n:BitVec 32}:Sx 0 1 X (zgl X i q a n):=by
 unfold zgl;split
 ·exact Sx.code h hi
 split
 ·have hp:=h.px hi;exact Sx.up (Sx.set_p (i:=i) (r:={X.p i with wait:=2,pipe:=some q}) h ⟨hp.pg,hp.fd,λq' hq'=>by cases hq';exact hq,hp.fc,hp.fp⟩) (by omega) (by omega)
 have hW:Sx 0 0 X (zau X i a ((X.i q).b.take (rdK X q n))).1:= .of (Sh.write h hi);have hI:(zau X i a ((X.i q).b.take (rdK X q n))).1.I=X.I:=zm2;have kW:Kk X (zau X i a ((X.i q).b.take (rdK X q n))).1:=Kk.write;generalize zau X i a ((X.i q).b.take (rdK X q n))=W at hW hI kW⊢;have hiW:=lL hi hW.sh.P;unfold zlS;split
 ·unfold zld;split
  ·obtain⟨a1,k1⟩:=Sx.wakes (q:=q) (b:=(W.1.i q).b.drop (rdK X q n)) (w:=3) hW.sh.gx (hl.kk kW) (by have:=hW.sh.gx.ib q (by rw[hI];exact hq);rw[List.length_drop];omega);exact(hW.trans a1).trans (Sx.answer a1.sh.gx (lL hiW a1.sh.P))
  ·exact hW.trans (Sx.answer hW.sh.gx hiW)
 ·exact hW.trans (Sx.code hW.sh.gx hiW)
theorem Sx.writeP(h:GX X)(hi:i<X.P.length)(hl:Lk X){q:Nat}(hq:q<X.I.length){a n:BitVec 32}:Sx 0 1 X (zel X i q a n):=by
 unfold zel;split
 ·exact Sx.code h hi
 split
 ·exact Sx.code h hi
 split
 ·have hp:=h.px hi;exact Sx.up (Sx.set_p (i:=i) (r:={X.p i with wait:=3,pipe:=some q}) h ⟨hp.pg,hp.fd,λq' hq'=>by cases hq';exact hq,hp.fc,hp.fp⟩) (by omega) (by omega)
 cases hr:zdE X i a (min n.toNat (wrR X q)) with
 |none=>exact Sx.code h hi
 |some l=>
  have hlen:=zeC hr;show Sx 0 1 X (zar (wrY X q l) i _);unfold wrY;split
  ·obtain⟨a1,k1⟩:=Sx.wakes (q:=q) (b:=(X.i q).b++l) (w:=2) h hl (by have:=h.ib q hq;rw[aL];unfold wrR at hlen;omega);exact a1.trans (Sx.answer a1.sh.gx (lL hi a1.sh.P))
  ·exact Sx.answer h hi
theorem Sx.files(h:GX X)(hi:i<X.P.length)(hl:Lk X){n:Int}{a0 a1 a2:BitVec 32}:Sx 0 1 X (zhg X i n a0 a1 a2):=by
 unfold zhg zbI;split
 ·exact Sx.pipe h hi
 split
 ·exact Sx.code h hi
 ·rename_i x hx;obtain⟨h8,hgx,hxl⟩:=zqp h hi hx;have hq:=h.xp x hxl;split
  ·exact Sx.readP h hi hl hq
  split
  ·exact Sx.writeP h hi hl hq
  split
  ·unfold closeF;have b1:Sx 0 0 X (fdS X i a0.toNat none):=Sx.set_p h ((h.px hi).s_fds (λx e=>by cases e));have b2:=Sx.answer (v:=0#32) b1.sh.gx (lL hi b1.sh.P);have b3:Sx 0 0 _ (zcu (zar (fdS X i a0.toNat none) i 0#32) x):= .of (Sh.drop b2.sh.gx (lL hxl (lT b1.sh.F b2.sh.F)) (hl.kk (Kk.set_p.trans Kk.answer)));exact(b1.trans b2).trans b3
  split
  ·exact Sx.code h hi
  split
  ·exact Sx.code h hi
  ·unfold zEn;have g1:GX (zo3 X x):=h.set_x hq;have b1:Sx 0 0 X (zo3 X x):=⟨⟨lR' _,by simp[zo3],lR' _,lR' _,lR' _,lR' _,lR' _,g1⟩,lR' _⟩;have b2:Sx 0 0 (zo3 X x) (fdS (zo3 X x) i ((zc0 (X.p i).fds 8).getD 0 0) (some x)):=Sx.set_p g1 ((g1.px hi).s_fds (λy e=>by cases e;simpa [zo3] using hxl));exact(b1.trans b2).trans (Sx.answer b2.sh.gx (lL hi b2.sh.P))
theorem Sx.stepC(h:GX X)(hi:i<X.P.length):Sx 0 0 X (stepC X i):=Sx.set_p h ((h.px hi).w rfl rfl (.inl rfl) (.inl rfl))
theorem Sx.others(h:GX X)(hi:i<X.P.length)(hl:Lk X){n:Int}{a0 a1 a2:BitVec 32}:Sx 0 2 X (zeX X i n a0 a1 a2):=by
 have up1:∀{Y:St},Sx 0 1 X Y->Sx 0 2 X Y:=λg=>g.up (by omega) (by omega);have up0:∀{Y:St},Sx 0 0 X Y->Sx 0 2 X Y:=λg=>g.up (by omega) (by omega);unfold zeX;split
 ·exact Sx.exit h hi hl
 split
 ·exact up1 (Sx.fork h hi)
 split
 ·exact up1 (Sx.wait h hi)
 split
 ·exact up1 (Sx.answer h hi)
 split
 ·exact up1 (Sx.answer h hi)
 split
 ·split
  ·exact up1 (Sx.answer h hi)
  ·exact up0 (Sx.set_p h ((h.px hi).w rfl rfl (.inl rfl) (.inl rfl)))
 split
 ·exact up1 (Sx.answer h hi)
 split
 ·have b1:Sx 0 0 X (zaz X i a0 a1 a2).1:= .of (Sh.mapPages h hi);exact up1 (b1.trans (Sx.code b1.sh.gx (lL hi b1.sh.P)))
 split
 ·have b1:Sx 0 0 X (zaX X i a0.toNat a1.toNat).1:= .of (Sh.unmapPages h hi);exact up1 (b1.trans (Sx.code b1.sh.gx (lL hi b1.sh.P)))
 split
 ·unfold zDY;split
  ·exact up1 (Sx.code h hi)
  ·have b1:Sx 0 0 X {X with P:=X.P.set i {X.p i with aff:=a0}}:=Sx.set_p h ((h.px hi).w rfl rfl (.inl rfl) (.inl rfl));exact up1 (b1.trans (Sx.answer b1.sh.gx (lL hi b1.sh.P)))
 split
 ·unfold znG;have b1:=Sx.see (i:=i) (a:=2) (b:=0) (v:=a0) h;exact up1 (b1.trans (Sx.stepC b1.sh.gx (lL hi b1.sh.P)))
 ·exact up0 (Sx.refl h)
theorem Sx.call(h:GX X)(hi:i<X.P.length)(hl:Lk X)(hf:∀j∈X.fut,j<X.P.length):Sx 1 (X.fut.length+2) X (zmw X i):=by
 unfold zmw;split
 ·unfold zu4;split
  ·exact(Sx.files h hi hl).up (by omega) (by omega)
  split
  ·exact(Sx.sigs h hi hl).up (by omega) (by omega)
  split
  ·exact(Sx.futex h hi hf).up (by omega) (by omega)
  ·exact(Sx.others h hi hl).up (by omega) (by omega)
 ·exact(Sx.code h hi).up (by omega) (by omega)
theorem zoE{a:BitVec 32}{l:List (BitVec 8)}:(zau X i a l).1.fut=X.fut:=by
 unfold zau;split
 ·rfl
 ·split
  ·rfl
  ·exact zeq.2.1
theorem ztC:Kk X (zdJ X i).X∧(zdJ X i).X.fut=X.fut:=by
 unfold zdJ;split
 ·unfold zoH;simp only
  repeat' split
  all_goals first|exact⟨Kk.refl,rfl⟩|exact⟨Kk.write,zoE⟩
 ·exact⟨Kk.refl,rfl⟩
theorem Sx.step(h:GX X)(hi:i<X.P.length)(hl:Lk X)(hf:∀j∈X.fut,j<X.P.length):Sx 1 (X.fut.length+2) X (ziT X i):=by
 unfold ziT zul;have b1:Sx 0 0 X (ziP X i (zbd (X.p i).sig).2.2):=Sx.set_p h ((h.px hi).w rfl rfl (.inl rfl) (.inl rfl));have hi1:=lL hi b1.sh.P;have hl1:Lk (ziP X i (zbd (X.p i).sig).2.2):=hl.kk Kk.set_p;split
 ·exact(b1.trans (Sx.exit b1.sh.gx hi1 hl1)).up (by omega) (by omega)
 split
 ·have b2:Sx 0 0 X (zoC X i (zbd (X.p i).sig).2.2 (zbd (X.p i).sig).1):=Sx.set_p h ((h.px hi).w rfl rfl (.inl rfl) (.inl rfl));exact(b2.trans (Sx.see b2.sh.gx)).up (by omega) (by omega)
 ·have b3:=b1.trans (Sx.core (i:=i) b1.sh.gx hi1);obtain⟨k3,f3⟩:=ztC (X:=ziP X i (zbd (X.p i).sig).2.2) (i:=i);have hi3:=lL hi b3.sh.P;have hl3:=hl1.kk k3;have hf3:∀j∈(zdJ (ziP X i (zbd (X.p i).sig).2.2) i).X.fut,j<(zdJ (ziP X i (zbd (X.p i).sig).2.2) i).X.P.length:=λj hj=>by rw[f3] at hj;exact lL (hf j hj) b3.sh.P
  have hfl:=b3.fl;generalize zdJ (ziP X i (zbd (X.p i).sig).2.2) i=Z at b3 hi3 hl3 hf3 hfl⊢;unfold zvx;split
  ·exact(b3.trans (Sx.call b3.sh.gx hi3 hl3 hf3)).up (by omega) (by omega)
  split
  ·exact(b3.trans (Sx.exit b3.sh.gx hi3 hl3)).up (by omega) (by omega)
  split
  ·exact(b3.trans (Sx.exit b3.sh.gx hi3 hl3)).up (by omega) (by omega)
  ·exact(b3.trans (Sx.set_p (i:=i) (r:={Z.X.p i with cpu:=Z.c}) b3.sh.gx ((b3.sh.gx.px hi3).w rfl rfl (.inl rfl) (.inl rfl)))).up (by omega) (by omega)
end
structure OpR where
 kind:Int
 core:Int
 n:Int
 pid:Int
 sig:Int
 mask:BitVec 32
 name:ByteArray
def opL(o:OpR):List Value:=[In o.kind,In o.core,In o.n,In o.pid,In o.sig,Um o.mask, .string o.name]
def zgq(m:Mem)(v:Value)(l:List OpR):Prop:=∃a C,v= .slice a l.length C∧(l=[]∨∃b cs ww z,a=some ⟨b,0,none⟩∧m.get b=some (.cells cs ww z)∧∀i o,l[i]? =some o->cs.sub (i*7) 7=some (opL o))
def zec(o:OpR)(R:List Int):Int:=if o.kind=1 then if R=[] then 0 else R.getD (((o.n.tmod R.length+R.length).tmod R.length).toNat) 0 else o.pid
section
variable{m m' M mr:Mem}{n:Nat}{L L' L1 L2:Loc}{X X' X1 X2 Y W:St}{v:Value}{fl:List Value}{pid:Int}
theorem zkA{o:OpR}{R:List Int}(hv:SlV m 1 v R.length (il R))(hR:R.length<1000):Con EE.P 31 [.agg (opL o).toArray,v] m (In (zec o R)) m:=by
 refine Con.of zai zJf (bA rfl) Grow.rfl λhm=>?_;have hlen:∀M,lenA EE.P 41 v M=some (In R.length):=λM=>hv.lenA zdN;by_cases hk:o.kind=1
 ·have d1:=decide_eq_true hk;cases R with
  |nil=>
   have hlen:∀M,lenA EE.P 41 v M=some (In 0):=hlen;have e:zec o []=0:=by unfold zec;rw[if_pos hk,if_pos rfl]
   rw[e];simp only[XX,XY,F31,yA,yB,yC,opL,d1,hlen];exact tP rfl λy hy=>gA
  |cons a R=>
   replace hlen:∀M,lenA EE.P 41 v M=some (In ((R.length+1:Nat):Int)):=hlen;have z0:decide (((R.length+1:Nat):Int)=0)=false:=decide_eq_false (by omega);have e:zec o (a::R)=(a::R).getD (((o.n.tmod (R.length+1:Nat)+(R.length+1:Nat)).tmod (R.length+1:Nat)).toNat) 0:=by unfold zec;rw[if_pos hk,if_neg (by simp)];rfl
   have hl1:R.length+1<1000:=hR;rw[e];have hk0:((R.length+1:Nat):Int)≠0:=by omega
   have b1:=Int.tmod_lt_of_pos o.n (show(0:Int)<((R.length+1:Nat):Int) by omega);have b2:=Int.lt_tmod_of_pos o.n (show(0:Int)<((R.length+1:Nat):Int) by omega);have hr1:∀ty (x:Int),zcG EE.P .rem ty (In x) (In ((R.length+1:Nat):Int))=some (In (x.tmod ((R.length+1:Nat):Int))):=λty x=>zjP hk0;have hw:IntKind.i64.wrap (o.n.tmod ((R.length+1:Nat):Int)+((R.length+1:Nat):Int))=o.n.tmod ((R.length+1:Nat):Int)+((R.length+1:Nat):Int):=zae (by omega) (by omega);have c1:=Int.tmod_lt_of_pos (o.n.tmod ((R.length+1:Nat):Int)+((R.length+1:Nat):Int)) (show(0:Int)<((R.length+1:Nat):Int) by omega);have c2:=Int.tmod_nonneg ((R.length+1:Nat):Int) (show 0<=o.n.tmod ((R.length+1:Nat):Int)+((R.length+1:Nat):Int) by omega);have hr2:=hr1 3 (o.n.tmod ((R.length+1:Nat):Int)+((R.length+1:Nat):Int));have hr3:=hr1 3 o.n;generalize(o.n.tmod ((R.length+1:Nat):Int)+((R.length+1:Nat):Int)).tmod ((R.length+1:Nat):Int)=q at c1 c2 hr2⊢;obtain⟨b,c,cs,rfl,k1,k2,k3,k4⟩:=hv.cons (by simp);have hq:cs.nth q.toNat=some (In ((a::R).getD q.toNat 0)):=by
    have hql:q.toNat<(a::R).length:=by rw[List.length_cons];omega
    rw[zbV (by omega),k4 q.toNat (by rw[lM];exact hql),gD',gM',gD',gE' hql];rfl
   have nb:¬b=m.next:=by have:=hm.lt k1;omega
   simp only[XX,XY,F31,yA,yB,yC,opL,d1,z0,hr2,hr3,hw,c1,c2,k1,hq,nb];exact tP rfl λy hy=>gA
 ·have d1:=decide_eq_false hk;have e:zec o R=o.pid:=by unfold zec;rw[if_neg hk]
  rw[e];simp only[XX,XY,F31,yA,yB,yC,opL,d1];exact tP rfl λy hy=>gA
def opX(X:St)(o:OpR):St:=if o.kind=1∨o.kind=2 then(ztT X (zec o (zbM X (zdp X)))).X else if o.kind=3 then(zmz X).X else if o.kind=5 then(zzF X o.pid o.sig).X else X
def zwF(X:St)(l:List OpR):St:=l.foldl opX X
structure Ox(k:Nat)(X:St):Prop where
 gx:GX X
 sn:X.seen=[]
 fl:X.fut.length<=k
theorem Ox.up{a b:Nat}(h:Ox a X)(e:a<=b):Ox b X:=⟨h.gx,h.sn,by have:=h.fl;omega⟩
theorem Ox.told{k b:Nat}(h:Ox k X)(g:Sx 1 b X Y):Ox (k+1) (zkl Y):=⟨g.sh.gx.told,rfl,by show Y.fut.length<=_;have:=g.fl;have:=h.fl;omega⟩
theorem Ox.run{k:Nat}(h:Ox k X)(hl:Lk X)(hf:∀j∈X.fut,j<X.P.length):Ox (k+1) (ztT X pid).X:=by
 unfold ztT;split
 ·exact h.up (by omega)
 ·cases e:zbO X pid with
  |none=>exact h.up (by omega)
  |some i=>
   rw[zmM];split
   ·exact h.told (Sx.step h.gx (hl i (zgz e)) hl hf)
   ·exact h.up (by omega)
theorem Ox.tick{k:Nat}(h:Ox k X)(hl:Lk X):Ox (k+1) (zmz X).X:=by
 unfold zmz;split
 ·exact h.up (by omega)
 ·exact h.told ((Sx.tickI h.gx hl).1.up (by omega) (lR' _))
theorem Ox.sig{k:Nat}(h:Ox k X)(hl:Lk X){g:Int}:Ox (k+1) (zzF X pid g).X:=by
 unfold zzF;split
 ·exact h.up (by omega)
 ·split
  ·exact h.up (by omega)
  ·exact h.told ((Sx.post h.gx hl).up (by omega) (lR' _))
theorem Ox.op{k:Nat}(h:Ox k X)(hl:Lk X)(hf:∀j∈X.fut,j<X.P.length){o:OpR}:Ox (k+1) (opX X o):=by
 unfold opX;split
 ·exact h.run hl hf
 split
 ·exact h.tick hl
 split
 ·exact h.sig hl
 ·exact h.up (by omega)
theorem zrz{l:List OpR}{k:Nat}{o:OpR}(ho:l[k]? =some o):zwF X (l.take (k+1))=opX (zwF X (l.take k)) o:=by unfold zwF;rw[List.take_add_one,ho,List.foldl_append];rfl
theorem zwS{o:OpR}:EE.eqv (.agg (opL o).toArray) (.agg (opL o).toArray)=true:=zCS λv hv=>by
 unfold opL at hv;simp only[List.mem_cons,List.not_mem_nil,or_false] at hv;rcases hv with rfl|rfl|rfl|rfl|rfl|rfl|rfl
 all_goals (try simp[zgZ,vEq,zlo];done)
 show(o.name==o.name)=true;generalize o.name=s;obtain⟨d⟩:=s;show(d==d)=true;simp
end
structure zff where
 cores:Int
 frames:Int
 procs:Int
 cap:Int
 prog:List (BitVec 32)
def zbE(b:zff)(pv:Value):List Value:=[In b.cores,In b.frames,In b.procs,In b.cap,pv]
def zgj(m:Mem)(v:Value)(l:List (BitVec 32)):Prop:=∃a C,v= .slice a l.length C∧(l=[]∨∃b cs ww z,a=some ⟨b,0,none⟩∧m.get b=some (.cells cs ww z)∧∀i w,l[i]? =some w->cs.nth i=some (Um w))
section
variable{m m' M mr:Mem}{n:Nat}{L L' L1 L2:Loc}{X X' X1 X2 Y W:St}{v w:Value}{fl:List Value}{pid:Int}{b:zff}
def znU(b:zff)(k:Nat)(most:Int):Bool:=decide (most<(k:Int))||(decide (64<b.frames)||(decide (8<b.procs)||decide (512<(b.prog.length:Int))))
theorem zuj{l:List OpR}(hv:zgq m w l)(hp:zgj m v b.prog){most:Int}:Con EE.P 7 [.agg (zbE b v).toArray,w,In most] m (In (if znU b l.length most then 1 else 0)) m:=by
 refine Con.of zai fn7 (bA rfl) Grow.rfl λhm=>?_;obtain⟨a,C,rfl,_⟩:=hv;obtain⟨a2,C2,rfl,_⟩:=hp;unfold znU;cases d1:decide (most<(l.length:Int)) with
 |true=>simp only[XX,XY,F7,yA,yB,yC,zbE,d1,Bool.true_or];exact tP rfl λy hy=>gA
 |false=>
  cases d2:decide (64<b.frames) with
  |true=>simp only[XX,XY,F7,yA,yB,yC,zbE,d1,d2,Bool.true_or,Bool.false_or];exact tP rfl λy hy=>gA
  |false=>
   cases d3:decide (8<b.procs) with
   |true=>simp only[XX,XY,F7,yA,yB,yC,zbE,d1,d2,d3,Bool.true_or,Bool.false_or];exact tP rfl λy hy=>gA
   |false=>
    cases d4:decide (512<(b.prog.length:Int)) with
    |true=>simp only[XX,XY,F7,yA,yB,yC,zbE,d1,d2,d3,d4,Bool.false_or];exact tP rfl λy hy=>gA
    |false=>simp only[XX,XY,F7,yA,yB,yC,zbE,d1,d2,d3,d4,Bool.false_or];exact tP rfl λy hy=>gA
end
end
end Go.Ab
