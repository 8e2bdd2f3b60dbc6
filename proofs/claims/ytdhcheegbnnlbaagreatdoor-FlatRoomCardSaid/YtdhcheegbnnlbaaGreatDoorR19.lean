/- Part. -/
import Derived.Test.YtdhcheegbnnlbaaGreatDoorR18
set_option linter.all false
open Go.Ab.Mem renaming next_bump → bN, next_put → nP, get_bump → gB, get_put → gP
open Nat renaming le_of_ble_eq_true → bA, le_add_right_of_le → lA
open List renaming getD_eq_getElem?_getD → gD', getElem?_eq_getElem → gE', length_append → aL, getElem?_map → gM', length_map → lM
open Go.Ab.CallI renaming ex2 → cX, con0 → cZ
open Go.Ab.Cells renaming ofList → ofL
open Go.Ab.View renaming temps → vT
open Go.Ab.Be renaming trans → bE
open Nat renaming reduceLT → yA, reduceEqDiff → yB, reduceAdd → yC, reduceMul → yD, reduceSub → yE, reducePow → yF, reduceLeDiff → yG
open Int renaming reduceEq → yH, reduceLT → yI, reduceLE → yJ
namespace Go.Ab
open Go.Proofs
noncomputable section
set_option maxHeartbeats 4000000
set_option maxRecDepth 10000
section
variable{m m' M mr:Mem}{n:Nat}{L L' L1 L2:Loc}{X X' X1 X2 Y W:St}{v w:Value}{fl:List Value}{pid:Int}
theorem zpn(h:FAt m L X)(hm:zad m)(ht:Tb m){base:Nat}(hg:Ox base X)(hbs:base<=1000){l:List OpR}(hl:l.length<=1000){b off C z:Nat}{cs:Cells}{ww:Bool}(hb:m.get b=some (.cells cs ww z))(hsub:∀i o,l[i]? =some o->cs.sub (off+i*7) 7=some (opL o))(hD:¬L.D b):∃u m',Con EE.P 20 [PT L.f, .slice (some ⟨b,off,none⟩) l.length C] m u m'∧Be m L (zwF X l) m'∧Ox (base+l.length) (zwF X l):=by
 refine Con.raw zai zIo (bA rfl) _ ?_;simp only[XX,XY,F20,yA,yB,yC];refine WX.loop_of (λkk tt M=>∃k:Nat,k<=l.length∧kk=l.length-k∧tt=T 46 [(7,In k),(6,In l.length),(0,PT L.f),(1, .slice (some ⟨b,off,none⟩) l.length C)]∧Be m L (zwF X (l.take k)) M∧Ox (base+k) (zwF X (l.take k))) ?_ (k:=l.length) (t1:=T 46 [(7,In (0:Nat)),(6,In l.length),(0,PT L.f),(1, .slice (some ⟨b,off,none⟩) l.length C)]) (vT ⟨rfl,rfl,rfl,rfl,trivial⟩) ⟨0,by omega,rfl,rfl,Be.same h hm _,hg⟩;rintro kk tt M ⟨k,hk,rfl,rfl,hB,hX⟩;have nx:=hB.next;by_cases hk2:k<l.length
 ·obtain⟨o,hok⟩:∃o,l[k]? =some o:=⟨_,gE' hk2⟩;have eN:=zrz (X:=X) hok;have hbl:=hm.lt hb;have hbM:M.get b=some (.cells cs ww z):=(hB.old hbl hD).trans hb;have hs:=hsub k o hok;have nj:∀j,j<7->cs.nth (off+k*7+j)=(opL o)[j]? :=λj hj=>zcw hs hj;have s0:cs.nth (off+k*7)=some (In o.kind):=nj 0 (by decide);have s3:cs.nth (off+(k*7+3))=some (In o.pid):=by rw[<-Nat.add_assoc];exact nj 3 (by decide)
  have s4:cs.nth (off+(k*7+4))=some (In o.sig):=by rw[<-Nat.add_assoc];exact nj 4 (by decide)
  have g1:(k:Int)<(l.length:Int):=by omega
  have g2:(0:Int)<=k:=by omega
  have hw:IntKind.i64.wrap ((k:Int)+1)=((k+1:Nat):Int):=by rw[zae (by omega) (by omega)];omega
  generalize zwF X (l.take k)=Y at hB hX eN;obtain⟨L1,a1,x1,f1⟩:=id hB;have ef:L1.f=L.f:=x1.f;have hsn:=hX.sn;have hfl:=hX.fl;have hOx:=hX.op (o:=o) a1.pi a1.pf;have hsf:Y.seen.length+Y.fut.length<99000:=by rw[hsn];simp;omega
  by_cases c1:o.kind=1
  ·have d1:=decide_eq_true c1;simp only[XX,XY,F20,yA,yB,yC,g1,g2,nx,hbM,s0,d1,lA];have eo:opX Y o=(ztT Y (zec o (zbM Y (zdp Y)))).X:=by unfold opX;rw[if_pos (.inl c1)]
   refine cX (by rw[<-ef];exact ziS (a1.bump _) f1.fresh.bump hX.gx) λu M2 hN2=>?_;have hN2:=hN2.of_bump;have n2:=hN2.nx.next;have nm2:m.next<=M2.next:=by omega
   have hbM2:=hN2.nx.keep f1.fresh hbM;have eqO:= @zwS o;have oo:=show(opL o).all oneCell=true from rfl
   have ol:=show(opL o).length=7 from rfl
   simp only[XX,XY,F20,yA,yB,g1,g2,hbM,hbM2,hs,eqO];refine CallI.con (zkA hN2.sl (by have:=hX.gx.ln;show(List.map _ (List.filter _ _)).length<1000;rw[lM];have:=List.length_filter_le (zdp Y) Y.l;omega)) (by simp) ?_;simp only[XX,XY,F20,yA,yB];refine CallI.ex2L (by rw[<-ef];exact zsd (pid:=zec o (zbM Y (zdp Y))) (a1.nx hN2.nx) hN2.nx.fresh ((hB.tb h hm ht).nx f1.fresh hN2.nx) hX.gx hsf) (by simp) λu M9 hT=>?_;obtain⟨hB9,_⟩:=hT;have n9:=hB9.next;have n10:m.next<=M9.next:=by omega
   rw[eo] at eN hOx;simp only[XX,XY,F20,yA,yB,yC,n10,hw,zac];exact⟨l.length-(k+1),_,_,by omega,vT (l':=[(7,In ((k+1:Nat):Int)),(6,In l.length),(0,PT L.f),(1, .slice (some ⟨b,off,none⟩) l.length C)]) ⟨rfl,rfl,rfl,rfl,trivial⟩,k+1,by omega,rfl,rfl,by rw[eN];exact(bE x1 f1 (bE Lx.refl (Fd.of_nx hN2.nx) hB9)).bump _,by rw[eN];exact hOx⟩
  have d1:=decide_eq_false c1;by_cases c2:o.kind=2
  ·have d2:=decide_eq_true c2;simp only[XX,XY,F20,yA,yB,yC,g1,g2,nx,hbM,s0,d1,d2,lA];have eo:opX Y o=(ztT Y (zec o (zbM Y (zdp Y)))).X:=by unfold opX;rw[if_pos (.inr c2)]
   refine cX (by rw[<-ef];exact ziS (a1.bump _) f1.fresh.bump hX.gx) λu M2 hN2=>?_;have hN2:=hN2.of_bump;have n2:=hN2.nx.next;have nm2:m.next<=M2.next:=by omega
   have hbM2:=hN2.nx.keep f1.fresh hbM;have eqO:= @zwS o;have oo:=show(opL o).all oneCell=true from rfl
   have ol:=show(opL o).length=7 from rfl
   simp only[XX,XY,F20,yA,yB,g1,g2,hbM,hbM2,hs,eqO];refine CallI.con (zkA hN2.sl (by have:=hX.gx.ln;show(List.map _ (List.filter _ _)).length<1000;rw[lM];have:=List.length_filter_le (zdp Y) Y.l;omega)) (by simp) ?_;simp only[XX,XY,F20,yA,yB];refine CallI.ex2L (by rw[<-ef];exact zsd (pid:=zec o (zbM Y (zdp Y))) (a1.nx hN2.nx) hN2.nx.fresh ((hB.tb h hm ht).nx f1.fresh hN2.nx) hX.gx hsf) (by simp) λu M9 hT=>?_;obtain⟨hB9,_⟩:=hT;have n9:=hB9.next;have n10:m.next<=M9.next:=by omega
   rw[eo] at eN hOx;simp only[XX,XY,F20,yA,yB,yC,n10,hw,zac];exact⟨l.length-(k+1),_,_,by omega,vT (l':=[(7,In ((k+1:Nat):Int)),(6,In l.length),(0,PT L.f),(1, .slice (some ⟨b,off,none⟩) l.length C)]) ⟨rfl,rfl,rfl,rfl,trivial⟩,k+1,by omega,rfl,rfl,by rw[eN];exact(bE x1 f1 (bE Lx.refl (Fd.of_nx hN2.nx) hB9)).bump _,by rw[eN];exact hOx⟩
  have d2:=decide_eq_false c2;by_cases c3:o.kind=3
  ·have d3:=decide_eq_true c3;simp only[XX,XY,F20,yA,yB,yC,g1,g2,nx,hbM,s0,d1,d2,d3,lA];have eo:opX Y o=(zmz Y).X:=by unfold opX;rw[if_neg (λe=>e.elim c1 c2),if_pos c3]
   refine cX (by rw[<-ef];exact ztU (a1.bump _) f1.fresh.bump ((hB.tb h hm ht).bump _) hX.gx hsf) λu M9 hT=>?_;obtain⟨hB9,_⟩:=hT;have hB9:=hB9.of_bump;have n9:=hB9.next;have n10:m.next<=M9.next:=by omega
   rw[eo] at eN hOx;simp only[XX,XY,F20,yA,yB,yC,n10,hw,zac];exact⟨l.length-(k+1),_,_,by omega,vT (l':=[(7,In ((k+1:Nat):Int)),(6,In l.length),(0,PT L.f),(1, .slice (some ⟨b,off,none⟩) l.length C)]) ⟨rfl,rfl,rfl,rfl,trivial⟩,k+1,by omega,rfl,rfl,by rw[eN];exact(bE x1 f1 hB9).bump _,by rw[eN];exact hOx⟩
  have d3:=decide_eq_false c3;by_cases c5:o.kind=5
  ·have d5:=decide_eq_true c5;simp only[XX,XY,F20,yA,yB,yC,g1,g2,nx,hbM,s0,s3,s4,d1,d2,d3,d5,lA];have eo:opX Y o=(zzF Y o.pid o.sig).X:=by unfold opX;rw[if_neg (λe=>e.elim c1 c2),if_neg c3,if_pos c5]
   refine cX (by rw[<-ef];exact zyK (pid:=o.pid) (g:=o.sig) (a1.bump _) f1.fresh.bump ((hB.tb h hm ht).bump _) hX.gx hsf) λu M9 hT=>?_;obtain⟨hB9,_⟩:=hT;have hB9:=hB9.of_bump;have n9:=hB9.next;have n10:m.next<=M9.next:=by omega
   rw[eo] at eN hOx;simp only[XX,XY,F20,yA,yB,yC,n10,hw,zac];exact⟨l.length-(k+1),_,_,by omega,vT (l':=[(7,In ((k+1:Nat):Int)),(6,In l.length),(0,PT L.f),(1, .slice (some ⟨b,off,none⟩) l.length C)]) ⟨rfl,rfl,rfl,rfl,trivial⟩,k+1,by omega,rfl,rfl,by rw[eN];exact(bE x1 f1 hB9).bump _,by rw[eN];exact hOx⟩
  have d5:=decide_eq_false c5;have eo:opX Y o=Y:=by unfold opX;rw[if_neg (λe=>e.elim c1 c2),if_neg c3,if_neg c5]
  rw[eo] at eN hOx;simp only[XX,XY,F20,yA,yB,yC,g1,g2,nx,hbM,s0,d1,d2,d3,d5,hw,zac,lA];exact⟨l.length-(k+1),_,_,by omega,vT (l':=[(7,In ((k+1:Nat):Int)),(6,In l.length),(0,PT L.f),(1, .slice (some ⟨b,off,none⟩) l.length C)]) ⟨rfl,rfl,rfl,rfl,trivial⟩,k+1,by omega,rfl,rfl,by rw[eN];exact hB.bump _,by rw[eN];exact hOx⟩
 ·obtain rfl:k=l.length:=by omega
  have g1:¬(l.length:Int)<(l.length:Int):=by omega
  rw[List.take_length] at hB hX;simp only[XX,XY,F20,yA,yB,g1,nx,zam];exact⟨(hB.bump _).grow,hB.bump _,hX⟩
end
section
variable{m m' M mr:Mem}{n:Nat}{L L' L1 L2:Loc}{X X' X1 X2 Y W:St}{v w:Value}{fl:List Value}{pid:Int}{b:zff}{l:List OpR}{fr pr:Int}
theorem zpW{f:Nat->Int}:∀{l:List Nat} {j:Nat} (hj:j<l.length),(l.map f).Nodup->l.find? (λi=>decide (f i=f l[j]))=some l[j]
 |a::l,0,_,_=>by rw[List.find?_cons];show(match decide (f a=f a) with|true=>some a|false=>_)=some a;rw[decide_eq_true rfl]
 |a::l,j+1,hj,hd=>by
  rw[List.map_cons,List.nodup_cons] at hd;have hj':j<l.length:=by simpa using hj
  have hne:¬f a=f l[j]:=λe=>hd.1 (by rw[e];exact List.mem_map_of_mem (List.getElem_mem hj'));rw[List.find?_cons];show(match decide (f a=f l[j]) with|true=>some a|false=>_)=some l[j];rw[decide_eq_false hne];exact zpW hj' hd.2
theorem zta{f:Nat->Bool}:∀{l:List Nat} {j:Nat} (hj:j<l.length),f l[j]=true->(l.filter f)[((l.take j).filter f).length]? =some l[j]
 |a::l,0,_,hf=>by have hf:f a=true:=hf;rw[List.filter_cons,if_pos hf];rfl
 |a::l,j+1,hj,hf=>by
  have hj':j<l.length:=by simpa using hj
  have ih:=zta hj' hf;rw[List.take_succ_cons,List.filter_cons,List.filter_cons];split
  ·rw[List.length_cons];exact ih
  ·exact ih
theorem zhp{f:Nat->Bool}{l:List Nat}{j:Nat}(hj:j<l.length):((l.take (j+1)).filter f).length=((l.take j).filter f).length+(if f l[j]=true then 1 else 0):=by rw[List.take_add_one,gE' hj,List.filter_append,aL];congr 1;show([l[j]].filter f).length=_;rw[List.filter_cons];split<;>rfl
theorem RI.found(h:RI fr pr X){j:Nat}(hj:j<X.l.length):zgw X (X.p X.l[j]).pid=some X.l[j]:=zpW (f:=λi=>(X.p i).pid) hj h.pd
theorem RI.state(h:RI fr pr X){j:Nat}(hj:j<X.l.length):zj7 X (X.p X.l[j]).pid=((X.p X.l[j]).state,(X.p X.l[j]).wait)∧(zbO X (X.p X.l[j]).pid).isSome=decide ((X.p X.l[j]).state=1):=by
 unfold zj7 zbO;rw[h.found hj];refine⟨rfl,?_⟩;simp only;split
 ·rename_i e;rw[decide_eq_true e];rfl
 ·rename_i e;rw[decide_eq_false e];rfl
theorem RI.room(h:RI fr pr X)(hl:X.l.length<=32)(hpr:1<=pr∧pr<=32):∃r0 r1 r2 r3,zxd X=[r0,r1,r2,r3]∧IntKind.i64.wrap (r1+(X.l.length:Int))=pr∧0<=r0∧r0<=fr∧0<=r2∧r2<=64∧0<=r3∧r3<=16:=by
 have h1:=h.cn;have h2:=h.cf;have h3:=h.ef.1;have h3':=h.ef.2;have h4:=h.ep;have h5:=h.fn;have h6:=h.ff;have h7:=h.pq;have h8:=h.pp;have e0:IntKind.i64.wrap (X.frames-X.contents)=X.frames-X.contents:=zae (by omega) (by omega);have e1:IntKind.i64.wrap (X.procs-(X.l.length:Int))=X.procs-(X.l.length:Int):=zae (by omega) (by omega);have e2:IntKind.i64.wrap (64-X.files)=64-X.files:=zae (by omega) (by omega);have e3:IntKind.i64.wrap (16-X.pipes)=16-X.pipes:=zae (by omega) (by omega);have e4:IntKind.i64.wrap (X.procs-(X.l.length:Int)+(X.l.length:Int))=pr:=by rw[zae (by omega) (by omega)];omega
 exact⟨_,_,_,_,by unfold zxd;rw[e0,e1,e2,e3],e4,by omega,by omega,by omega,by omega,by omega,by omega⟩
theorem zBy{bw:Nat}{k n C:Nat}(hk:k<n)(hC:n<=C):∃C',zb5 EE.P 25 (.slice (some ⟨bw,0,none⟩) n C) (some (In k)) (some (In ((k+1:Nat):Int)))=some (.slice (some ⟨bw,k*7,none⟩) 1 C'):=by
 have hz:zbc EE.P 38=some 7:=kr;have e1:zfI (some (In ((k+1:Nat):Int))) C n=some (k+1):=by show(if 0<=((k+1:Nat):Int)∧((k+1:Nat):Int)<=(C:Int) then some ((k+1:Nat):Int).toNat else none)=_;rw[if_pos (by omega),Int.toNat_natCast]
 have e2:zfI (some (In (k:Int))) (k+1) 0=some k:=by show(if 0<=(k:Int)∧(k:Int)<=((k+1:Nat):Int) then some (k:Int).toNat else none)=_;rw[if_pos (by omega),Int.toNat_natCast]
 unfold zb5;rw[zk4];simp only[e1,e2,hz];by_cases h0:k=0
 ·subst h0;exact⟨C,by rw[if_pos rfl]⟩
 ·exact⟨C-k,by rw[if_neg h0,if_pos (by omega),show k+1-k=1 by omega,Nat.zero_add]⟩
structure Rx(m0:Mem)(w:Value)(l:List OpR)(ff bb:Nat)(bc:Cells)(fr pr:Int)(k:Nat)(X:St)(L1:Loc)(M:Mem):Prop where
 a1:FAt M L1 X
 e1:L1.f=ff
 ox:Ox k X
 ri:RI fr pr X
 fr:zad M
 tb:Tb M
 gr:Grow m0 M
 bk:M.get bb=some (.cells bc true 0)
 bd:¬L1.D bb
 op:zgq M w l
 od:l=[]∨∀y,slB w=some y->¬L1.D y
section
variable{m0:Mem}{ff bb k:Nat}{bc:Cells}
theorem Rx.nx(h:Rx m0 w l ff bb bc fr pr k X L1 M)(hN:Nx M m'):Rx m0 w l ff bb bc fr pr k X L1 m':=
 ⟨h.a1.nx hN,h.e1,h.ox,h.ri,hN.fresh,h.tb.nx h.fr hN,Grow.tr h.gr (Nx.grow' hN),hN.keep h.fr h.bk,h.bd,h.op.nx h.fr hN,h.od⟩
theorem zgq.keep'(h:zgq m v l)(hk:l=[]∨∀y,slB v=some y->M.get y=m.get y):zgq M v l:=by
 obtain⟨a,C,rfl,h⟩:=h;rcases hk with hk|hk
 ·exact⟨a,C,rfl, .inl hk⟩
 refine⟨a,C,rfl,h.imp id λ⟨b,cs,ww,z,e,h1,h2⟩=>⟨b,cs,ww,z,e,?_,h2⟩⟩;subst e;rw[hk b rfl];exact h1
theorem Rx.op1(h:Rx m0 w l ff bb bc fr pr k X L1 M)(hk:k<=400){o:OpR}{bw C z:Nat}{cs:Cells}{ww:Bool}(hw:slB w=some bw)(hne:l≠ [])(hb:M.get bw=some (.cells cs ww z))(hs:cs.sub (n*7) 7=some (opL o)):∃u m',Con EE.P 20 [PT ff, .slice (some ⟨bw,n*7,none⟩) 1 C] M u m'∧∃L3,Rx m0 w l ff bb bc fr pr (k+1) (opX X o) L3 m'∧M.next<=m'.next:=by
 have hD:¬L1.D bw:=h.od.elim (λe=>absurd e hne) λhd=>hd bw hw;obtain⟨u,m',hc,hB,hO⟩:=zpn h.a1 h.fr h.tb h.ox (by omega) (l:=[o]) (by simp) (b:=bw) (off:=n*7) (C:=C) hb (λi o' ho=>by
  cases i with
  |zero=>cases ho;rw[Nat.zero_mul,Nat.add_zero];exact hs
  |succ i=>cases ho) hD
 rw[h.e1] at hc;have htb:=hB.tb h.a1 h.fr h.tb;have hgr:=hB.grow;obtain⟨L3,a3,x3,f3⟩:=hB;have hbw:=h.fr.lt hb;have hbb:=h.fr.lt h.bk;refine⟨u,m',hc,L3,⟨a3,x3.f.trans h.e1,hO,h.ri.op,f3.fresh,htb,Grow.tr h.gr hgr,(f3.old bb hbb h.bd).trans h.bk,λe=>(x3.D bb e).elim h.bd λe1=>by omega,?_,?_⟩,f3.next⟩
 ·exact h.op.keep' (.inr λy hy=>by rw[hw] at hy;cases hy;exact f3.old bw hbw hD)
 ·exact .inr λy hy=>by rw[hw] at hy;cases hy;exact λe=>(x3.D bw e).elim hD λe1=>by omega
end
theorem zvn(hm:zad m)(ht:Tb m)(hal:∀M,Nx m M->∃u M',Con EE.P 13 [] M u M'∧u= .bool true∧Nx M M')(hp:zgj m v b.prog)(ho:zgq m w l)(hcap:∀a n C,w= .slice (some a) n C->n<=C):∃m',Con EE.P 5 [.agg (zbE b v).toArray,w] m (.bool true) m':=by
 refine Con.raw1 zai fn5 (bA rfl) ?_;have h64:=hm.n64;have hv1:[v].all oneCell=true:=by obtain⟨a,C,rfl,_⟩:=hp;rfl
 have bo:(zbE b v).all oneCell=true:=by unfold zbE;simpa [oneCell] using hv1
 have bl:(zbE b v).length=5:=rfl;have hN1:∀(o1:zaS) (k:Nat),1<=k->Nx m ((m.put m.next o1).bump k):=λo1 k hk=>⟨by(try simp only[bN,nP]);omega,zad.of_low (by have:=hm.n64;(try simp only[bN,nP]);omega) (by repeat(first|exact Low.of hm nO|refine Low.put ?_ nO|refine Low.bump ?_)),λy hy=>by simp only[gB,gP,zb3 hy,if_false]⟩;simp only[XX,XY,F5,yA,yC];refine cX (hal _ (hN1 _ _ (by omega))) λu M1 hM1=>?_;obtain⟨rfl,hN⟩:=hM1;have hN1M:=(hN1 _ _ (by omega)).trans hN;have hb1:M1.get m.next=some (.cells (ofL (zbE b v)) true 0):=hN.keep (hN1 _ _ (by omega)).fresh gA;have n1:=hN1M.next;have bs:(ofL (zbE b v)).sub 0 5=some (zbE b v):=rfl;have hp1:=hp.nx hm (hN1M.bump 8);have ho1:=ho.nx hm (hN1M.bump 8);simp only[XX,XY,F5,yA,yB,yC,n1,hb1,bs];refine cZ (zuj ho1 hp1) ?_;cases hgr:znU b l.length 200 with
 |true=>simp only[XX,XY,F5,yA,yB,yC,yI,n1,lA];exact⟨Nx.grow' (hN1M.bump _),rfl⟩
 |false=>
  have hlen:b.prog.length<=512∧l.length<=200:=by unfold znU at hgr;simp only[Bool.or_eq_false_iff,decide_eq_false_iff_not] at hgr;omega
  by_cases hmay:zzz b
  ·simp only[XX,XY,F5,yA,yB,yC,yI,n1,hb1,bs,lA];refine cX (zAI (hp.nx hm (hN1M.bump _)) (hN1M.bump _).fresh hmay) λu M2 hM2=>?_;obtain⟨L,rfl,hA2,hN2,hD2,hG2⟩:=hM2;have hN12:=(Nx.refl hN1M.fresh|>.bump _).trans hN2;have hN2m:=(hN1M.bump _).trans hN2;have n2:=hN2m.next;have n21:=hN2.next;have hb2:=hN12.keep hN1M.fresh hb1;have hL2:∀y,L.D y->m.next<y:=λy hy=>by have:=hD2 y hy;rw[bN] at this;omega
   have hlw:∀M,lenA EE.P 25 w M=some (In l.length):=λM=>by obtain⟨aw,Cw,rfl,_⟩:=ho;exact zfy zk4
   have R0:Rx m w l L.f m.next (ofL (zbE b v)) b.frames b.procs 0 (zy5 b) L M2:=⟨hA2,rfl,Ox.new hmay,RI.new hmay,hN2.fresh,ht.nx hm hN2m,Nx.grow' hN2m,hb2,λe=>by have:=hL2 _ e;omega,ho.nx hm hN2m,(ho.blk hm).imp id λh y hy e=>by have:=h y hy;have:=hL2 y e;omega⟩;simp only[XX,XY,F5,yA,yB,yC,n2,hlw,lA];refine WX.loop_of (λkk tt M=>∃k:Nat,k<=l.length∧kk=l.length-k∧tt=T 147 [(39,In k),(38,In l.length),(6,PT L.f),(5, .bool true),(2,PT m.next),(1,w)]∧∃X L3,Rx m w l L.f m.next (ofL (zbE b v)) b.frames b.procs k X L3 M) ?_ (k:=l.length) (t1:=T 147 [(39,In (0:Nat)),(38,In l.length),(6,PT L.f),(5, .bool true),(2,PT m.next),(1,w)]) (vT ⟨rfl,rfl,rfl,rfl,rfl,rfl,trivial⟩) ⟨0,by omega,rfl,rfl,_,_,R0.nx ((Nx.refl hN2.fresh).bump _)⟩;rintro kk tt M ⟨k,hk,rfl,rfl,X,L3,hR⟩;have nM:=hR.gr.1;by_cases hk2:k<l.length
   ·obtain⟨o,hok⟩:∃o,l[k]? =some o:=⟨_,gE' hk2⟩;obtain⟨aw,Cw,ew,hop⟩:=id hR.op;subst ew;rcases hop with rfl|⟨bw,cs,ww,z,rfl,hb,hsub⟩
    ·simp at hk2
    have hs:=hsub k o hok;have hCw:=hcap _ _ _ rfl;have g1:(k:Int)<(l.length:Int):=by omega
    have hw:IntKind.i64.wrap ((k:Int)+1)=((k+1:Nat):Int):=by rw[zae (by omega) (by omega)];omega
    obtain⟨C',hsl⟩:=zBy (bw:=bw) hk2 hCw;simp only[XX,XY,F5,yA,yB,yC,g1,nM,hw,hsl,lA];refine cX ((hR.nx ((Nx.refl hR.fr).bump _)).op1 (by omega) (o:=o) rfl (λe=>by rw[e] at hk2;cases hk2) (by rw[gB];exact hb) hs) λu M3 h3=>?_;obtain⟨L4,hR3,n3⟩:=h3;have nM3:=hR3.gr.1;simp only[XX,XY,F5,yA,yB,yC,nM3];refine cZ (by rw[<-hR3.e1];exact zsL (hR3.a1.bump _) hR3.ox.gx) ?_;generalize hXE:opX X o=X1 at hR3;cases hh:X1.halted with
    |true=>simp only[XX,XY,F5,yA,yB,yC,nM3,zbC,lA];exact⟨Grow.tr hR3.gr (Nx.grow' ((Nx.refl hR3.fr).bump _)),rfl⟩
    |false=>
     simp only[XX,XY,F5,yA,yB,yC,nM3,lA];have gx1:=hR3.ox.gx;refine cX (by rw[<-hR3.e1];exact zyz (hR3.a1.bump _) hR3.fr.bump gx1) λpv M4 hN4=>?_;have l4:=hN4.nx.next;simp only[bN] at l4;have p4:∀y,slB pv=some y->M3.next+12<=y:=λy hy=>by have:=hN4.new y hy;simp only[bN] at this;omega
     have hN4:=hN4.of_bump;have hR4:=hR3.nx hN4.nx;have nM4:=hR4.gr.1;have n4:=hN4.nx.next;simp only[XX,XY,F5,yA,yB];refine CallI.ex2L (by rw[<-hR4.e1];exact ziS hR4.a1 hR4.fr gx1) (by simp) λrv M5 hN5=>?_;have hR5:=hR4.nx hN5.nx;have nM5:=hR5.gr.1;have n5:=hN5.nx.next;simp only[XX,XY,F5,yA,yB];refine CallI.con (by rw[<-hR5.e1];exact zzE hR5.a1 gx1) (by simp) ?_;have hnl:X1.l.length<=32:=by have:=gx1.ln;omega
     have hpl:(zbM X1 λ_=>true).length=X1.l.length:=by unfold zbM;rw[lM];congr 1;exact List.filter_eq_self.2 λ_ _=>rfl
     have hpl2:zbM X1 (λ_=>true)=X1.l.map λi=>(X1.p i).pid:=by unfold zbM;congr 1;exact List.filter_eq_self.2 λ_ _=>rfl
     obtain⟨r0,r1,r2,r3,hroom,w1,q0,q1,q2,q3,q4,q5⟩:=hR5.ri.room hnl hmay.1.2.2.1;rw[hroom];have hlP:∀M,lenA EE.P 41 pv M=some (In X1.l.length):=λM=>by rw[<-hpl];exact hN4.sl.lenA zdN
     have hlR:∀M,lenA EE.P 41 rv M=some (In (zbM X1 (zdp X1)).length):=λM=>hN5.sl.lenA zdN;have b1:(ofL (zbE b v)).nth 1=some (In b.frames):=by rw[za7];rfl
     have b2:(ofL (zbE b v)).nth 2=some (In b.procs):=by rw[za7];rfl
     have bkk:=hR5.bk;have rn:∀(c:Cells) (j:Nat),c.n=4->j<4->(c.write 0 [In r0,In r1,In r2,In r3]).nth j=[In r0,In r1,In r2,In r3][j]? :=λc j hc hj=>by have h1:(c.write 0 [In r0,In r1,In r2,In r3]).sub 0 4=some [In r0,In r1,In r2,In r3]:=zay rfl (by rw[hc];decide);have:=zcw h1 hj;rwa[Nat.zero_add] at this
     have rn0:=λc hc=>rn c 0 hc (by decide);have rn1:=λc hc=>rn c 1 hc (by decide);have rn2:=λc hc=>rn c 2 hc (by decide);have rn3:=λc hc=>rn c 3 hc (by decide);have d1:decide (b.procs=b.procs)=true:=decide_eq_true rfl;have d2:decide (r0<0)=false:=decide_eq_false (by omega);have d3:decide (b.frames<r0)=false:=decide_eq_false (by omega);have d4:decide (r2<0)=false:=decide_eq_false (by omega);have d5:decide (64<r2)=false:=decide_eq_false (by omega);have d6:decide (r3<0)=false:=decide_eq_false (by omega);have d7:decide (16<r3)=false:=decide_eq_false (by omega);have ne8:¬m.next=M3.next+8:=by omega
     simp only[XX,XY,F5,yA,yB,yC,nM5,ne8,hlP,b1,b2,bkk,rn0,rn1,rn2,rn3,w1,d2,d3,d4,d5,d6,d7,lA];have nb:M3.next+8<M5.next:=by omega
     refine WX.loop_of (λkk tt M=>∃j:Nat,j<=X1.l.length∧kk=X1.l.length-j∧tt=T 147 [(100,In j),(99,In X1.l.length),(98,pv),(12,In ((((X1.l.take j).filter (zdp X1)).length:Nat):Int)),(10,rv),(39,In k),(38,In l.length),(6,PT L.f),(5, .bool true),(2,PT m.next),(1, .slice (some ⟨bw,0,none⟩) l.length Cw)]∧Rx m (.slice (some ⟨bw,0,none⟩) l.length Cw) l L.f m.next (ofL (zbE b v)) b.frames b.procs (k+1) X1 L4 M∧SlV M 1 pv X1.l.length (il (zbM X1 λ_=>true))∧SlV M 1 rv (zbM X1 (zdp X1)).length (il (zbM X1 (zdp X1)))) ?_ (k:=X1.l.length) (t1:=T 147 [(100,In (0:Nat)),(99,In X1.l.length),(98,pv),(12,In (0:Nat)),(10,rv),(39,In k),(38,In l.length),(6,PT L.f),(5, .bool true),(2,PT m.next),(1, .slice (some ⟨bw,0,none⟩) l.length Cw)]) (vT ⟨rfl,rfl,rfl,rfl,rfl,rfl,rfl,rfl,rfl,rfl,rfl,trivial⟩) ⟨0,by omega,rfl,rfl,?i1,?i2,?i3⟩
     case i1=>exact hR3.nx ((((hN4.nx.trans hN5.nx).putN (by omega) nb).putN (by omega) (by rw[nP];exact nb)).bump _)
     case i2=>
      have hsl4:=hN4.sl;rw[hpl] at hsl4;exact hsl4.keep λy o hy e=>by have:=p4 y hy;rw[gB,gP,if_neg (by omega),gP,if_neg (by omega)];exact(hN5.nx.old y (hN4.nx.fresh.lt e)).trans e
     case i3=>
      exact hN5.sl.keep λy o hy e=>by have:=hN5.new y hy;rw[gB,gP,if_neg (by omega),gP,if_neg (by omega)];exact e
     rintro kk tt M6 ⟨j,hj,rfl,rfl,hR6,hpv,hrv⟩;have nM6:=hR6.gr.1;have hlR:∀M,lenA EE.P 41 rv M=some (In (zbM X1 (zdp X1)).length):=λM=>hrv.lenA zdN;have hRL:(zbM X1 (zdp X1)).length=(X1.l.filter (zdp X1)).length:=by unfold zbM;rw[lM]
     by_cases hj2:j<X1.l.length
     ·have g1:(j:Int)<(X1.l.length:Int):=by omega
      have g2:(0:Int)<=j:=by omega
      have hwj:IntKind.i64.wrap ((j:Int)+1)=((j+1:Nat):Int):=by rw[zae (by omega) (by omega)];omega
      obtain⟨bq,cq,csq,efv,z1,z2,z3,z4⟩:=hpv.cons (by omega);obtain⟨pid,hpid⟩:∃x,x=(X1.p X1.l[j]).pid:=⟨_,rfl⟩;have hq:csq.nth j=some (In pid):=by
       have h1:(zbM X1 λ_=>true)[j]? =some pid:=by rw[hpl2,gM',gE' hj2,hpid];rfl
       rw[zbV (by omega),z4 j (by rw[lM];omega),gD',gM',h1];rfl
      obtain⟨st1,st2⟩:=hR6.ri.state hj2;rw[<-hpid] at st1 st2;subst efv;simp only[XX,XY,F5,yA,yB,yC,g1,g2,nM6,z1,hq,lA];refine cZ (by rw[<-hR6.e1];exact zuw (hR6.a1.bump _) hR6.ox.gx) ?_;rw[st1];simp only[XX,XY,F5,yA,yB,yC,nM6,lA];refine cZ (by rw[<-hR6.e1];exact zA2 (hR6.a1.bump _) hR6.ox.gx) ?_;have hcok:(zEl X1 pid).ok:=by
       unfold zEl;cases hl:zbO X1 pid with
       |none=>exact zf9
       |some i=>obtain⟨cs,h1,h2⟩:=hR6.a1.pr i (hR6.a1.pi i (zgz hl));exact h2.okc
      have l11:=zcy hcok;have o11:= @zdQ;rw[st2];simp only[XX,XY,F5,yA,yB,yC,nM6,l11,o11,lA];have hbt:∀xo yo M,eqA EE.P .neq 4 xo yo (.bool true) (.bool true) M=some (.bool false):=λxo yo M=>by kernel_rfl
      have hbf:∀xo yo M,eqA EE.P .neq 4 xo yo (.bool false) (.bool false) M=some (.bool false):=λxo yo M=>by kernel_rfl
      have hcs:=zhp (f:=zdp X1) hj2;by_cases hs1:(X1.p X1.l[j]).state=1
      ·have e1:=decide_eq_true hs1;by_cases hw0:(X1.p X1.l[j]).wait=0
       ·have hf:zdp X1 X1.l[j]=true:=by unfold zdp;rw[decide_eq_true hs1,decide_eq_true hw0];rfl
        rw[if_pos hf] at hcs;have e2:=decide_eq_true hw0;have hfa:=zta hj2 hf;obtain⟨c,hcE⟩:∃c,c=((X1.l.take j).filter (zdp X1)).length:=⟨_,rfl⟩;rw[<-hcE] at hfa hcs⊢;have hcl:c<(zbM X1 (zdp X1)).length:=by rw[hRL];exact(List.getElem?_eq_some_iff.1 hfa).1
        have hRlen:(zbM X1 (zdp X1)).length<=32:=by rw[hRL];have:=List.length_filter_le (zdp X1) X1.l;omega
        obtain⟨br,cr,csr,efr,y1,y2,y3,y4⟩:=hrv.cons (by omega);have hq2:csr.nth c=some (In pid):=by
         have h1:(zbM X1 (zdp X1))[c]? =some pid:=by unfold zbM;rw[gM',hfa,hpid];rfl
         rw[zbV (by omega),y4 c (by rw[lM];omega),gD',gM',h1];rfl
        have nbr:¬br=M6.next+18:=by have:=hR6.fr.lt y1;omega
        subst efr;have g3:(c:Int)<((zbM X1 (zdp X1)).length:Int):=by omega
        have g4:(0:Int)<=c:=by omega
        have d9:decide (((zbM X1 (zdp X1)).length:Int)<=(c:Int))=false:=decide_eq_false (by omega);have dp:decide (pid=pid)=true:=decide_eq_true rfl;have hwc:IntKind.i64.wrap ((c:Int)+1)=((c+1:Nat):Int):=by rw[zae (by omega) (by omega)];omega
        simp only[XX,XY,F5,yA,yB,yC,e1,e2,hbt,hlR,nbr,g3,g4,d9,y1,hq2,hwc,hwj,nM6,zac,lA];rw[<-hcs];refine⟨X1.l.length-(j+1),_,_,by omega,vT (l':=[(100,In ((j+1:Nat):Int)),(99,In X1.l.length),(98, .slice (some ⟨bq,0,none⟩) X1.l.length cq),(12,In ((((X1.l.take (j+1)).filter (zdp X1)).length:Nat):Int)),(10, .slice (some ⟨br,0,none⟩) (zbM X1 (zdp X1)).length cr),(39,In k),(38,In l.length),(6,PT L.f),(5, .bool true),(2,PT m.next),(1, .slice (some ⟨bw,0,none⟩) l.length Cw)]) ⟨rfl,rfl,rfl,rfl,rfl,rfl,rfl,rfl,rfl,rfl,rfl,trivial⟩,j+1,by omega,rfl,rfl,?_,?_,?_⟩
        ·exact hR6.nx (Nx.new2 (b1:=M6.next+18) hR6.fr (by omega) (by omega))
        ·exact hpv.nx hR6.fr (Nx.new2 (b1:=M6.next+18) hR6.fr (by omega) (by omega))
        ·exact hrv.nx hR6.fr (Nx.new2 (b1:=M6.next+18) hR6.fr (by omega) (by omega))
       ·have hf:¬zdp X1 X1.l[j]=true:=by unfold zdp;rw[decide_eq_false hw0,Bool.and_false];simp
        replace hcs:((X1.l.take (j+1)).filter (zdp X1)).length=((X1.l.take j).filter (zdp X1)).length:=by rw[zhp hj2,if_neg hf];rfl
        have e2:=decide_eq_false hw0;simp only[XX,XY,F5,yA,yB,yC,e1,e2,hbt,hwj,nM6,zac,lA];rw[<-hcs];refine⟨X1.l.length-(j+1),_,_,by omega,vT (l':=[(100,In ((j+1:Nat):Int)),(99,In X1.l.length),(98, .slice (some ⟨bq,0,none⟩) X1.l.length cq),(12,In ((((X1.l.take (j+1)).filter (zdp X1)).length:Nat):Int)),(10,rv),(39,In k),(38,In l.length),(6,PT L.f),(5, .bool true),(2,PT m.next),(1, .slice (some ⟨bw,0,none⟩) l.length Cw)]) ⟨rfl,rfl,rfl,rfl,rfl,rfl,rfl,rfl,rfl,rfl,rfl,trivial⟩,j+1,by omega,rfl,rfl,?_,?_,?_⟩
        ·exact hR6.nx (Nx.new2 (b1:=M6.next+18) hR6.fr (by omega) (by omega))
        ·exact hpv.nx hR6.fr (Nx.new2 (b1:=M6.next+18) hR6.fr (by omega) (by omega))
        ·exact hrv.nx hR6.fr (Nx.new2 (b1:=M6.next+18) hR6.fr (by omega) (by omega))
      ·have hf:¬zdp X1 X1.l[j]=true:=by unfold zdp;rw[decide_eq_false hs1,Bool.false_and];simp
       replace hcs:((X1.l.take (j+1)).filter (zdp X1)).length=((X1.l.take j).filter (zdp X1)).length:=by rw[zhp hj2,if_neg hf];rfl
       have e1:=decide_eq_false hs1;simp only[XX,XY,F5,yA,yB,yC,e1,hbf,hwj,nM6,zac,lA];rw[<-hcs];refine⟨X1.l.length-(j+1),_,_,by omega,vT (l':=[(100,In ((j+1:Nat):Int)),(99,In X1.l.length),(98, .slice (some ⟨bq,0,none⟩) X1.l.length cq),(12,In ((((X1.l.take (j+1)).filter (zdp X1)).length:Nat):Int)),(10,rv),(39,In k),(38,In l.length),(6,PT L.f),(5, .bool true),(2,PT m.next),(1, .slice (some ⟨bw,0,none⟩) l.length Cw)]) ⟨rfl,rfl,rfl,rfl,rfl,rfl,rfl,rfl,rfl,rfl,rfl,trivial⟩,j+1,by omega,rfl,rfl,?_,?_,?_⟩
       ·exact hR6.nx (Nx.new2 (b1:=M6.next+18) hR6.fr (by omega) (by omega))
       ·exact hpv.nx hR6.fr (Nx.new2 (b1:=M6.next+18) hR6.fr (by omega) (by omega))
       ·exact hrv.nx hR6.fr (Nx.new2 (b1:=M6.next+18) hR6.fr (by omega) (by omega))
     ·obtain rfl:j=X1.l.length:=by omega
      have g1:¬((X1.l.length:Nat):Int)<(X1.l.length:Int):=by omega
      rw[List.take_length];have de:decide ((((X1.l.filter (zdp X1)).length:Nat):Int)=(((X1.l.filter (zdp X1)).length:Nat):Int))=true:=decide_eq_true rfl;simp only[XX,XY,F5,yA,yB,yC,g1,nM6,hlR,hRL,hw,zam,zac,lA];exact⟨l.length-(k+1),_,_,by omega,vT (l':=[(39,In ((k+1:Nat):Int)),(38,In l.length),(6,PT L.f),(5, .bool true),(2,PT m.next),(1, .slice (some ⟨bw,0,none⟩) l.length Cw)]) ⟨rfl,rfl,rfl,rfl,rfl,rfl,trivial⟩,k+1,by omega,rfl,rfl,X1,L4,hR6.nx ((Nx.refl hR6.fr).bump _)⟩
   ·obtain rfl:k=l.length:=by omega
    have g1:¬((l.length:Nat):Int)<(l.length:Int):=by omega
    simp only[XX,XY,F5,yA,yB,yC,g1,nM,zam,lA];exact⟨Grow.tr hR.gr (Nx.grow' ((Nx.refl hR.fr).bump _)),rfl⟩
  ·simp only[XX,XY,F5,yA,yB,yC,yI,n1,hb1,bs,lA];refine cZ (zBW (hp.nx hm (hN1M.bump _)) hmay hlen.1) ?_;simp only[XX,XY,F5,yA,yB,yC,yH,n1,lA];exact⟨Nx.grow' (hN1M.bump _),rfl⟩
end
end
end Go.Ab
