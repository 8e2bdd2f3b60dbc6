/- Part. -/
import Derived.Test.YtdhcheegbnnlbaaGreatDoorA09
import GoSem.Core.Float
set_option linter.all false
open Go.Ab.Mem renaming next_bump → bN, next_put → nP, get_bump → gB, get_put → gP
open Nat renaming le_of_ble_eq_true → bA, le_add_right_of_le → lA, le_refl → lR'
open List renaming getD_eq_getElem?_getD → gD', getElem?_eq_getElem → gE', getElem?_map → gM'
open Bool renaming false_eq_true → bF
open Go.Ab.CallI renaming ex2 → cX, con0 → cZ
open Go.Ab.TidyE renaming pure → tP
open Go.Ab.Cells renaming ofList → ofL
open Go.Ab.View renaming temps → vT
open Nat renaming reduceLT → yA, reduceEqDiff → yB, reduceAdd → yC, reduceMul → yD, reduceSub → yE, reducePow → yF, reduceLeDiff → yG
open Int renaming reduceEq → yH, reduceLT → yI, reduceLE → yJ
namespace Go.Ab
open Go.Proofs
noncomputable section
set_option maxHeartbeats 4000000
set_option maxRecDepth 10000
section
variable{m m':Mem}{L L':Loc}{X:St}
theorem none_ok(h:FAt m L X)(hn:X.next≠0):Con EE.P 48 [PT L.f] m (.bool false) m:=by
 refine Con.of EE_ok fn48 (bA rfl) Grow.rfl λhm=>?_
 obtain⟨cs,h1,h2⟩:=h.fl
 have hr:=decide_eq_false hn
 simp only[XX,XY,F48,yA,yB,yC,h1,h2.next,hr]
 exact tP rfl λ_ _=>rfl
def firstIx(p:Nat->Bool)(n:Nat):Int:=match(List.range n).find? p with
 |some i=>i
 |none=> -1
theorem firstIx_at{p:Nat->Bool}{n i:Nat}(h:i<n)(hp:p i=true)(ha:∀k,k<i->p k=false):firstIx p n=i:=by
 unfold firstIx
 have:(List.range n).find? p=some i:=by
  rw[List.find?_range_eq_some]
  exact⟨hp,List.mem_range.2 h,λj hj=>by rw[ha j hj];rfl⟩
 rw[this]
theorem firstIx_no{p:Nat->Bool}{n:Nat}(ha:∀k,k<n->p k=false):firstIx p n= -1:=by
 unfold firstIx
 have:(List.range n).find? p=none:=by
  rw[List.find?_range_eq_none]
  exact λj hj=>by rw[ha j hj];rfl
 rw[this]
theorem firstIx_cases(p:Nat->Bool)(n:Nat):(∃i,i<n∧p i=true∧(∀k,k<i->p k=false)∧firstIx p n=i)∨((∀k,k<n->p k=false)∧firstIx p n= -1):=by
 cases h:(List.range n).find? p with
 |none=>
  refine .inr ⟨λk hk=>?_,by unfold firstIx;rw[h]⟩
  have:=(List.find?_range_eq_none.1 h) k hk
  simpa using this
 |some i=>
  obtain⟨h1,h2,h3⟩:=List.find?_range_eq_some.1 h
  exact .inl ⟨i,List.mem_range.1 h2,h1,λk hk=>by simpa using h3 k hk,by unfold firstIx;rw[h]⟩
theorem index_ok{v:Value}{n:Nat}{fl:List Value}{g:FuncId}{cap:List Value}{p:Nat->Bool}(hv:SlV m 1 v n fl)(hl:fl.length=n)(hn:n<1000000)(hc:callable EE.P g=true)
  (hp:∀k j,k<n->Con EE.P g (fl.getD k undef::cap) (m.bump j) (.bool (p k)) (m.bump j)):
  Con EE.P 83 [v, .func (.func g) #[] cap.toArray] m (In (firstIx p n)) m:=by
 refine Con.of EE_ok fn83 (bA rfl) Grow.rfl λhm=>?_
 have hlenA:∀M,lenA EE.P 67 v M=some (In n):=λM=>hv.lenA und_67
 simp only[XX,XY,F83,yA,yB,yC,hlenA]
 refine WX.loop_of (λk tt M=>∃i j:Nat,i<=n∧k=n-i∧tt=T 19 [(8,In i),(7,In n),(1, .func (.func g) #[] cap.toArray),(0,v)]∧M=m.bump j∧∀k,k<i->p k=false) ?_ (k:=n) (t1:=T 19 [(8,In (0:Nat)),(7,In n),(1, .func (.func g) #[] cap.toArray),(0,v)]) (vT ⟨rfl,rfl,rfl,rfl,trivial⟩) ⟨0,_,by omega,rfl,rfl,rfl,λk hk=>by omega⟩
 rintro k tt M ⟨i,j,hi,rfl,rfl,rfl,hf⟩
 by_cases hi2:i<n
 ·have g1:(i:Int)<(n:Int):=by omega
  have g2:(0:Int)<=i:=by omega
  have hw:IntKind.i64.wrap ((i:Int)+1)=((i+1:Nat):Int):=by rw[wrap_i64 (by omega) (by omega)];omega
  obtain⟨b,c,cs,rfl,k1,k2,k3,k4⟩:=hv.cons (by omega)
  have hq:cs.nth i=some (fl.getD i undef):=by rw[nth_lt (by rw[k2,Nat.mul_one];omega),k4 i (by omega)]
  simp only[XX,XY,F83,yA,yB,yC,g1,g2,k1,hq,hc]
  refine cZ (hp i _ hi2) ?_
  cases hpi:p i with
  |true=>
   have:=firstIx_at hi2 hpi hf
   simp only[XX,XY,F83,yA,yB,yC,roundQ_ret]
   rw[this]
   exact tP rfl λ_ _=>rfl
  |false=>
   simp only[XX,XY,F83,yA,yB,yC,hw,roundQ_normal]
   exact⟨n-(i+1),_,_,by omega,vT (l':=[(8,In ((i+1:Nat):Int)),(7,In n),(1, .func (.func g) #[] cap.toArray),(0, .slice (some ⟨b,0,none⟩) n c)]) ⟨rfl,rfl,rfl,rfl,trivial⟩,i+1,_,by omega,rfl,rfl,rfl,λk hk=>(by
    rcases Nat.lt_or_ge k i with h1|h1
    ·exact hf k h1
    ·rw[show k=i by omega];exact hpi)⟩
 ·have q1:¬(i:Int)<(n:Int):=by omega
  have hin:i=n:=by omega
  subst hin
  have:=firstIx_no hf
  simp only[XX,XY,F83,yA,yB,yC,q1,roundQ_exit]
  rw[this]
  exact tP rfl λ_ _=>rfl
end
structure GX(X:St):Prop where
 lp:(X.l.length:Int)<=X.procs
 pr:1<=X.procs∧X.procs<=32
 fr:1<=X.frames∧X.frames<=256
 cp:1<=X.cap∧X.cap<=64
 co:1<=X.cores∧X.cores<=8
 nx:2<=X.next∧X.next<=65536
 pg:∀i,i<X.P.length->(X.p i).pages.length=64∧∀k g,(X.p i).pages.getD k none=some g->g<X.G.length
 fd:∀i,i<X.P.length->(X.p i).fds.length=8∧∀k x,(X.p i).fds.getD k none=some x->x<X.F.length
 pp:∀i,i<X.P.length->∀q,(X.p i).pipe=some q->q<X.I.length
 fc:∀i,i<X.P.length->∀c,(X.p i).fut.c=some c->c<X.C.length
 fp:∀i,i<X.P.length->∀c,(X.p i).fut.p=some c->c<X.P.length
 gc:∀g,g<X.G.length->(X.g g).c<X.C.length
 cb:∀c,c<X.C.length->(X.c c).b.length=64
 xp:∀x,x<X.F.length->(X.x x).p<X.I.length
 ib:∀q,q<X.I.length->((X.i q).b.length:Int)<=X.cap
theorem GX.ln{X:St}(h:GX X):X.l.length<=32:=by have:=h.lp;have:=h.pr;omega
section
variable{m m':Mem}{L L':Loc}{X:St}{pid:Int}
def findX(X:St)(pid:Int):Option Nat:=X.l.find? λi=>decide ((X.p i).pid=pid)
def liveX(X:St)(pid:Int):Option Nat:=match findX X pid with
 |some i=>if(X.p i).state=1 then some i else none
 |none=>none
theorem find1_ok(h:FAt m L X){i x:Nat}(hi:i<X.P.length)(hx:m.get x=some (.cells (ofL [In pid]) true 0)):Con EE.P 84 [PT (L.p i),PT x] m (.bool (decide ((X.p i).pid=pid))) m:=by
 refine Con.of EE_ok fn84 (bA rfl) Grow.rfl λhm=>?_
 obtain⟨cs,h1,h2⟩:=h.pr i hi
 simp only[XX,XY,F84,yA,yB,yC,h1,h2.pid,hx]
 exact tP rfl λ_ _=>rfl
theorem PT_lv(h:FAt m L X){k:Nat}(hk:k<X.l.length):(X.l.map λi=>PT (L.p i)).getD k undef=PT (L.p (X.l.getD k 0)):=by
 rw[gD',gM',gD',gE' hk];rfl
theorem FAt.lk(h:FAt m L X){k:Nat}(hk:k<X.l.length):X.l.getD k 0<X.P.length:=h.pi _ (getD_mem hk)
theorem findX_at{k:Nat}(hk:k<X.l.length)(hp:(X.p (X.l.getD k 0)).pid=pid)(ha:∀j,j<k->decide ((X.p (X.l.getD j 0)).pid=pid)=false):findX X pid=some (X.l.getD k 0):=by
 unfold findX
 rw[List.find?_eq_some_iff_getElem]
 refine⟨by simpa using hp,k,hk,by rw[gD',gE' hk];rfl,λj hj=>?_⟩
 have:=ha j hj
 rw[gD',gE' (by omega)] at this
 simpa using this
theorem findX_no(ha:∀j,j<X.l.length->decide ((X.p (X.l.getD j 0)).pid=pid)=false):findX X pid=none:=by
 unfold findX
 rw[List.find?_eq_none]
 intro i hi
 obtain⟨j,hj,e⟩:=List.getElem_of_mem hi
 have:=ha j hj
 rw[gD',gE' hj] at this
 rw[<-e]
 simpa using this
theorem findX_lt(h:FAt m L X){i:Nat}(hf:findX X pid=some i):i<X.P.length:=h.pi i (List.mem_of_find?_eq_some hf)
theorem rv_old{n0 b:Nat}(h:b<n0):RV n0 [] (PT b) (PT b):=rv_ptr (.inl ⟨rfl,h⟩)
theorem find_ok(h:FAt m L X)(hg:GX X):Con EE.P 50 [PT L.f,In pid] m (pV ((findX X pid).map L.p)) m:=by
 refine Con.of EE_ok fn50 (bA rfl) Grow.rfl λhm=>?_
 obtain⟨cs,h1,h2⟩:=h.fl
 have hlt:=h.lt _ (h.dm _ h.mf)
 have hn:X.next≠0:=by have:=hg.nx;omega
 have hb:∀o j,FAt ((m.put m.next o).bump j) L X:=λo j=>(h.new' (j:=0)).bump j
 have hne:¬L.f=m.next:=by omega
 simp only[XX,XY,F50,yA,yB,yC]
 refine cZ (none_ok (hb _ _) hn) ?_
 simp only[XX,XY,F50,yA,yB,yC,h1,h2.lv,hne]
 refine CallI.con (index_ok (p:=λk=>decide ((X.p (X.l.getD k 0)).pid=pid)) (g:=84) (cap:=[PT m.next]) (h.ls.keep λy _ hy e=>?_) (by simp) (by have:=hg.ln;omega) kr λk j hk=>?_) (by simp) ?_
 ·have:=h.lt _ (h.dl y hy)
  simp only[gB,gP]
  rw[if_neg (by omega)];exact e
 ·rw[PT_lv h hk]
  exact find1_ok (by rw[bump_bump];exact hb _ _) (h.lk hk) (by simp only[gB,gP,if_true])
 ·rcases firstIx_cases (λk=>decide ((X.p (X.l.getD k 0)).pid=pid)) X.l.length with⟨i,hi,hp,ha,e⟩|⟨ha,e⟩
  ·rw[e,findX_at hi (by simpa using hp) ha]
   have g1:decide ((i:Int)<0)=false:=decide_eq_false (by omega)
   have g2:(i:Int)<(X.l.length:Int):=by omega
   have g3:(0:Int)<=i:=by omega
   obtain⟨b,c,cl,ev,k1,k2,k3,k4⟩:=h.ls.cons (by omega)
   have hq:cl.nth i=some (PT (L.p (X.l.getD i 0))):=by rw[nth_lt (by rw[k2,Nat.mul_one];omega),k4 i (by simp;omega),PT_lv h hi]
   have hbn:¬b=m.next:=by have:=h.lt _ (h.dl b (by rw[ev];rfl));omega
   simp only[XX,XY,F50,yA,yB,yC,h1,h2.lv,hne,g1,g2,g3,ev,k1,hq,hbn]
   exact tidy_pure (rv_old (h.ids_lt (h.mp (h.lk hi)))) λy hy=>by simp only[gB,gP];rw[if_neg (by omega)]
  ·rw[e,findX_no ha]
   simp only[XX,XY,F50,yA,yB,yC,yI]
   exact tP rfl λy hy=>by simp only[gB,gP];rw[if_neg (by omega)]
end
section
variable{m m':Mem}{L L':Loc}{X:St}{pid:Int}
theorem tidy_old{m1:Mem}{b:Nat}(h:b<m.next)(ho:∀y,y<m.next->m1.get y=m.get y):TidyE m m1 (PT b) (PT b) m:=tidy_pure (rv_old h) ho
theorem findX_live(h:FAt m L X){i:Nat}(hl:liveX X pid=some i):i<X.P.length∧(X.p i).state=1∧findX X pid=some i:=by
 unfold liveX at hl
 split at hl
 ·rename_i j hj
  split at hl
  ·rename_i hs
   cases hl
   exact⟨findX_lt h hj,hs,hj⟩
  ·cases hl
 ·cases hl
theorem live_ok(h:FAt m L X)(hg:GX X):Con EE.P 44 [PT L.f,In pid] m (pV ((liveX X pid).map L.p)) m:=by
 refine Con.of EE_ok fn44 (bA rfl) Grow.rfl λhm=>?_
 simp only[XX,XY,F44,yA,yB,yC]
 refine cZ (find_ok (h.bump _) hg) ?_
 cases hf:findX X pid with
 |none=>
  have e:liveX X pid=none:=by unfold liveX;rw[hf]
  rw[e]
  simp only[XX,XY,F44,yA,yB,yC,pV]
  exact tP rfl λ_ _=>rfl
 |some i=>
  have hi:=findX_lt h hf
  obtain⟨cs,h1,h2⟩:=h.pr i hi
  by_cases hs:(X.p i).state=1
  ·have e:liveX X pid=some i:=by unfold liveX;rw[hf];simp only[hs,if_true]
   rw[e]
   simp only[XX,XY,F44,yA,yB,yC,pV,h1,h2.state,hs]
   exact tidy_old (h.ids_lt (h.mp hi)) λ_ _=>rfl
  ·have e:liveX X pid=none:=by unfold liveX;rw[hf];simp only[hs,if_false]
   have hs':=decide_eq_false hs
   rw[e]
   simp only[XX,XY,F44,yA,yB,yC,pV,h1,h2.state,hs']
   exact tP rfl λ_ _=>rfl
theorem may_ok(h:FAt m L X)(hg:GX X):Con EE.P 45 [PT L.f] m (In (if X.halted then 181 else 0)) m:=by
 refine Con.of EE_ok fn45 (bA rfl) Grow.rfl λhm=>?_
 obtain⟨cs,h1,h2⟩:=h.fl
 have hn:X.next≠0:=by have:=hg.nx;omega
 simp only[XX,XY,F45,yA,yB,yC]
 refine cZ (none_ok (h.bump _) hn) ?_
 cases hh:X.halted with
 |true=>
  simp only[XX,XY,F45,yA,yB,yC,h1,h2.halted,hh]
  exact tP rfl λ_ _=>rfl
 |false=>
  simp only[XX,XY,F45,yA,yB,yC,h1,h2.halted,hh]
  exact tP rfl λ_ _=>rfl
theorem halted_ok(h:FAt m L X)(hg:GX X):Con EE.P 21 [PT L.f] m (.bool X.halted) m:=by
 refine Con.of EE_ok fn21 (bA rfl) Grow.rfl λhm=>?_
 obtain⟨cs,h1,h2⟩:=h.fl
 have hn:X.next≠0:=by have:=hg.nx;omega
 simp only[XX,XY,F21,yA,yB,yC]
 refine cZ (none_ok (h.bump _) hn) ?_
 simp only[XX,XY,F21,yA,yB,h1,h2.halted]
 exact tP rfl λ_ _=>rfl
def stateX(X:St)(pid:Int):Int×Int:=match findX X pid with
 |some i=>((X.p i).state,(X.p i).wait)
 |none=>(0,0)
theorem state_ok(h:FAt m L X)(hg:GX X):Con EE.P 23 [PT L.f,In pid] m (.tuple [In (stateX X pid).1,In (stateX X pid).2].toArray) m:=by
 refine Con.of EE_ok fn23 (bA rfl) Grow.rfl λhm=>?_
 simp only[XX,XY,F23,yA,yB,yC]
 refine cZ (find_ok (h.bump _) hg) ?_
 unfold stateX
 cases hf:findX X pid with
 |none=>
  simp only[XX,XY,F23,yA,yB,yC,pV]
  exact tP rfl λ_ _=>rfl
 |some i=>
  obtain⟨cs,h1,h2⟩:=h.pr i (findX_lt h hf)
  simp only[XX,XY,F23,yA,yB,yC,pV,h1,h2.state,h2.wait]
  exact tP rfl λ_ _=>rfl
def atX(p:Proc)(a:BitVec 32):Option Nat:=if 4096<=a.toNat then none else p.pages.getD (a.toNat/64) none
theorem bin_quo32{a:BitVec 32}{ty:Nat}:binV EE.P .quo ty (.int .u32 (a.toNat:Int)) (.int .u32 64)=some (.int .u32 ((a.toNat/64:Nat):Int)):=by
 show runV EE.P (Op.intDiv .quo .u32 (a.toNat:Int) 64)=_
 unfold Op.intDiv
 rw[if_neg (by decide)]
 have h1:IntKind.u32.wrap ((a.toNat:Int).tdiv 64)=((a.toNat/64:Nat):Int):=by
  have:=a.isLt
  rw[wrap_u32,Int.tdiv_eq_ediv_of_nonneg (by omega)];omega
 rw[<-h1];rfl
theorem bin_rem32{a:BitVec 32}{ty:Nat}:binV EE.P .rem ty (.int .u32 (a.toNat:Int)) (.int .u32 64)=some (.int .u32 ((a.toNat % 64:Nat):Int)):=by
 rw[bin_rem (by decide)]
 rfl
theorem pages_nth{r:Proc}{cs:Cells}(h:PC L r cs)(hl:r.pages.length=64){k:Nat}(hk:k<64):cs.nth (61+k)=some (pV ((r.pages.getD k none).map L.g)):=by
 rw[sub_nth h.pages hk,gM',gD',gE' (by omega)];rfl
theorem at_ok(h:FAt m L X)(hg:GX X){i:Nat}(hi:i<X.P.length){a:BitVec 32}:Con EE.P 88 [PT (L.p i),Um a] m (pV ((atX (X.p i) a).map L.g)) m:=by
 refine Con.of EE_ok fn88 (bA rfl) Grow.rfl λhm=>?_
 obtain⟨cs,h1,h2⟩:=h.pr i hi
 unfold atX
 by_cases ha:4096<=a.toNat
 ·have d1:decide ((4096:Int)<=(a.toNat:Int))=true:=decide_eq_true (by omega)
  rw[if_pos ha]
  simp only[XX,XY,F88,yA,yB,yC,d1]
  exact tP rfl λ_ _=>rfl
 ·have d1:decide ((4096:Int)<=(a.toNat:Int))=false:=decide_eq_false (by omega)
  have hk:a.toNat/64<64:=by omega
  have g1:(0:Int)<=((a.toNat/64:Nat):Int):=by omega
  have g2:((a.toNat/64:Nat):Int)<((64:Nat):Int):=by omega
  have hq:=pages_nth h2 (hg.pg i hi).1 hk
  rw[if_neg ha]
  simp only[XX,XY,F88,yA,yB,yC,d1,bin_quo32,g1,g2,h1,hq]
  cases hp:(X.p i).pages.getD (a.toNat/64) none with
  |none=>exact tP rfl λ_ _=>rfl
  |some g=>exact tidy_old (h.ids_lt (h.mg ((hg.pg i hi).2 _ _ hp))) λ_ _=>rfl
end
end
end Go.Ab
namespace Go.Ab
open Ieee
def Val(s:Bool)(m:Nat)(i v:Int):Prop:=∃k:Nat,0<=i+k∧signed s m (i+k).toNat=v*2 ^ k
theorem signed_add{s:Bool}{m a d:Nat}:signed s m (a+d)=signed s m a*2 ^ d:=by
 unfold signed
 have h:((m<<<(a+d):Nat):Int)=((m<<<a:Nat):Int)*2 ^ d:=by
  rw[Nat.shiftLeft_eq,Nat.shiftLeft_eq,Nat.pow_add,<-Nat.mul_assoc]
  push_cast
  rfl
 cases s
 ·simpa using h
 ·simp only[if_true,h,Int.neg_mul]
theorem pow2_pos(k:Nat):(0:Int)<2 ^ k:=Int.pow_pos (by decide)
theorem Val.all{s:Bool}{m:Nat}{i v:Int}(h:Val s m i v){k:Nat}(hk:0<=i+k):signed s m (i+k).toNat=v*2 ^ k:=by
 obtain⟨k0,h0,e⟩:=h
 rcases Nat.le_total k0 k with hl|hl
 ·have h1:(i+k).toNat=(i+k0).toNat+(k-k0):=by omega
  rw[h1,signed_add,e,Int.mul_assoc,<-Int.pow_add,show k0+(k-k0)=k by omega]
 ·have h1:(i+k0).toNat=(i+k).toNat+(k0-k):=by omega
  rw[h1,signed_add,show k0=k+(k0-k) by omega,Int.pow_add,<-Int.mul_assoc,show k+(k0-k)-k=k0-k by omega] at e
  exact Int.eq_of_mul_eq_mul_right (Int.ne_of_gt (pow2_pos _)) e
theorem signed_zero{s:Bool}{a:Nat}:signed s 0 a=0:=by cases s<;>simp[signed]
theorem Val.neg{s:Bool}{m:Nat}{i v:Int}(h:Val s m i v):Val (!s) m i (-v):=by
 obtain⟨k,h0,e⟩:=h
 refine⟨k,h0,?_⟩
 rw[Int.neg_mul,<-e]
 cases s<;>simp[signed]
theorem signed_abs{t:Int}{b:Bool}{a:Nat}:signed (if t=0 then b else decide (t<0)) t.natAbs a=t*2 ^ a:=by
 have h1:((t.natAbs<<<a:Nat):Int)=(t.natAbs:Int)*2 ^ a:=by rw[Nat.shiftLeft_eq];push_cast;rfl
 by_cases h:t=0
 ·subst h;simp[signed_zero]
 ·rw[if_neg h]
  by_cases hn:t<0
  ·rw[decide_eq_true hn]
   simp only[signed,if_true,h1]
   rw[<-Int.neg_mul,show-(t.natAbs:Int)=t by omega]
  ·rw[decide_eq_false hn]
   simp only[signed,bF,if_false,h1]
   rw[show(t.natAbs:Int)=t by omega]
theorem Val.sum{s t:Bool}{m n:Nat}{i j u v:Int}(h:Val s m i u)(g:Val t n j v):∃s' m' i',(Datum.number s m i).sum (.number t n j)=some (.number s' m' i')∧Val s' m' i' (u+v):=by
 refine⟨_,_,_,rfl,((-(min i j)).toNat),by omega,?_⟩
 have hi:min i j<=i:=by omega
 have hj:min i j<=j:=by omega
 generalize hb:min i j=b at hi hj⊢
 rw[signed_abs,Int.add_mul,<-signed_add,<-signed_add]
 have e1:(i-b).toNat+(b+((-b).toNat:Nat)).toNat=(i+((-b).toNat:Nat)).toNat:=by omega
 have e2:(j-b).toNat+(b+((-b).toNat:Nat)).toNat=(j+((-b).toNat:Nat)).toNat:=by omega
 rw[e1,e2,h.all (by omega),g.all (by omega),<-Int.add_mul]
theorem signed_mul{s t:Bool}{m n a b:Nat}:signed (s ^^ t) (m*n) (a+b)=signed s m a*signed t n b:=by
 have h:((m*n)<<<(a+b):Nat)=(m<<<a)*(n<<<b):=by
  rw[Nat.shiftLeft_eq,Nat.shiftLeft_eq,Nat.shiftLeft_eq,Nat.pow_add,Nat.mul_mul_mul_comm]
 unfold signed
 rw[h]
 cases s<;>cases t<;>simp[Int.neg_mul,Int.mul_neg]
theorem Val.prod{s t:Bool}{m n:Nat}{i j u v:Int}(h:Val s m i u)(g:Val t n j v):Val (s ^^ t) (m*n) (i+j) (u*v):=by
 obtain⟨k1,h1,e1⟩:=h
 obtain⟨k2,h2,e2⟩:=g
 refine⟨k1+k2,by omega,?_⟩
 rw[show(i+j+((k1+k2:Nat):Int)).toNat=(i+k1).toNat+(j+k2).toNat by omega,signed_mul,e1,e2,Int.pow_add]
 simp only[Int.mul_assoc,Int.mul_left_comm (2 ^ k1)]
theorem Val.order{s t:Bool}{m n:Nat}{i j u v:Int}(h:Val s m i u)(g:Val t n j v):(Datum.number s m i).order (.number t n j)=some (compare u v):=by
 show some (compare (signed s m (i-min i j).toNat) (signed t n (j-min i j).toNat))=_
 have hi:min i j<=i:=by omega
 have hj:min i j<=j:=by omega
 generalize hb:min i j=b at hi hj⊢
 have e1:(i-b).toNat+(b+((-b).toNat:Nat)).toNat=(i+((-b).toNat:Nat)).toNat:=by omega
 have e2:(j-b).toNat+(b+((-b).toNat:Nat)).toNat=(j+((-b).toNat:Nat)).toNat:=by omega
 have k1:signed s m (i-b).toNat*2 ^ (b+((-b).toNat:Nat)).toNat=u*2 ^ (-b).toNat:=by rw[<-signed_add,e1,h.all (by omega)]
 have k2:signed t n (j-b).toNat*2 ^ (b+((-b).toNat:Nat)).toNat=v*2 ^ (-b).toNat:=by rw[<-signed_add,e2,g.all (by omega)]
 generalize signed s m (i-b).toNat=x at k1⊢
 generalize signed t n (j-b).toNat=y at k2⊢
 generalize(b+((-b).toNat:Nat)).toNat=c at k1 k2
 generalize(-b).toNat=k at k1 k2
 congr 1
 have lt:∀{x y u v:Int},x*2 ^ c=u*2 ^ k->y*2 ^ c=v*2 ^ k->(x<y↔u<v):=λ{x y u v} k1 k2=>by
  rw[<-Int.mul_lt_mul_right (pow2_pos c),k1,k2,Int.mul_lt_mul_right (pow2_pos k)]
 have a:=lt k1 k2
 have b:=lt k2 k1
 simp only[compare,compareOfLessAndEq]
 by_cases hu:u<v
 ·rw[if_pos hu,if_pos (a.2 hu)]
 ·rw[if_neg hu,if_neg (λe=>hu (a.1 e))]
  by_cases he:u=v
  ·rw[if_pos he,if_pos (by
    have:¬y<x:=λe=>by have:=b.1 e;omega
    have:¬x<y:=λe=>hu (a.1 e)
    omega)]
  ·rw[if_neg he,if_neg (λe=>by
    subst e
    have:v<u:=by omega
    have:=b.2 this
    omega)]
theorem cut_exact{way:Toward}{neg:Bool}{K d:Nat}:way.cut neg (K*2 ^ d) d=K:=by
 have h2:0<2 ^ d:=Nat.pow_pos (by decide)
 have hg:∃g,0<g∧(1<<<min d ((K*2 ^ d).log2+2))=g∧(K*2 ^ d)/g=K∧(K*2 ^ d) % g=0:=by
  by_cases hK:K=0
  ·subst hK
   refine⟨_,?_,rfl,by simp,by simp⟩
   rw[Nat.shiftLeft_eq,Nat.one_mul];exact Nat.pow_pos (by decide)
  ·have hle:d<=(K*2 ^ d).log2:=(Nat.le_log2 (by exact Nat.mul_ne_zero hK (by omega))).2 (Nat.le_mul_of_pos_left _ (by omega))
   refine⟨2 ^ d,h2,?_,Nat.mul_div_cancel _ h2,Nat.mul_mod_left _ _⟩
   rw[Nat.shiftLeft_eq,Nat.one_mul,Nat.min_eq_left (by omega)]
 obtain⟨g,g0,g1,g2,g3⟩:=hg
 unfold Toward.cut
 simp only[g1,g2,g3]
 cases way<;>simp<;>omega
theorem signed_natAbs{s:Bool}{m a:Nat}:(signed s m a).natAbs=m*2 ^ a:=by
 rw[<-Nat.shiftLeft_eq]
 cases s with
 |false=>exact Int.natAbs_natCast _
 |true=>exact(Int.natAbs_neg _).trans (Int.natAbs_natCast _)
theorem Val.nat{s:Bool}{m:Nat}{i v:Int}(h:Val s m i v){k:Nat}(hk:0<=i+k):m*2 ^ (i+k).toNat=v.natAbs*2 ^ k:=by
 rw[<-signed_natAbs (s:=s),h.all hk,Int.natAbs_mul,Int.natAbs_pow];rfl
theorem read_word{s:Bool}{r:Nat}(h:r<2047*2 ^ 52):double.read (double.word s r)=if r<2 ^ 52 then .number s r (-1074) else .number s (2 ^ 52+r % 2 ^ 52) (-1074+(r/2 ^ 52-1:Nat)):=by
 have w:double.word s r=if s then 2 ^ 63+r else r:=rfl
 have e1:(double.word s r/2 ^ 63 % 2==1)=s:=by
  rw[w]
  cases s
  ·simp only[bF,if_false]
   rw[Nat.div_eq_of_lt (by omega)];rfl
  ·simp only[if_true]
   rw[show(2 ^ 63+r)/2 ^ 63=1 by omega];rfl
 have e2:double.word s r % 2 ^ 63=r:=by
  rw[w]
  cases s
  ·simp only[bF,if_false];omega
  ·simp only[if_true];omega
 have hs:double.signWeight=2 ^ 63:=rfl
 have hb:double.binade=2 ^ 52:=rfl
 have hi:double.infRung=2047*2 ^ 52:=rfl
 have hl:double.leastPlace= -1074:=rfl
 unfold Format.read
 simp only[hs,hb,hi,hl,e1,e2]
 split
 ·rfl
 ·rfl
theorem near_val{s:Bool}{m:Nat}{i v:Int}(h:Val s m i v)(hv:v.natAbs<2 ^ 53):∃m' i',double.read (double.nearest s m i)= .number s m' i'∧Val s m' i' v:=by
 by_cases hm:m=0
 ·subst hm
  have v0:v=0:=by
   obtain⟨k,_,e⟩:=h
   rw[signed_zero] at e
   exact(Int.mul_eq_zero.1 e.symm).resolve_right (Int.ne_of_gt (pow2_pos k))
  subst v0
  refine⟨0,-1074,?_,1074,by decide,by rw[signed_zero,Int.zero_mul]⟩
  have:double.nearest s 0 i=double.word s 0:=by unfold Format.nearest;rw[if_pos rfl]
  rw[this,read_word (by decide),if_pos (by decide)]
 have hL1:2 ^ m.log2<=m:=Nat.log2_self_le hm
 have hL2:m<2 ^ (m.log2+1):=Nat.lt_log2_self
 have hne:double.nearest s m i=double.word s (min ((max (i+m.log2-52) (-1074)-(-1074)).toNat*2 ^ 52+Toward.even.cut s (m<<<(i-max (i+m.log2-52) (-1074)).toNat) (max (i+m.log2-52) (-1074)-i).toNat) (2047*2 ^ 52)):=by
  unfold Format.nearest
  rw[if_neg hm]
  rfl
 generalize m.log2=L at hL1 hL2 hne
 have hiL:i+L<=52:=by
  have e:=h.nat (k:=(-i).toNat) (by omega)
  have h1:2 ^ (L+(i+((-i).toNat:Nat)).toNat)<2 ^ (53+(-i).toNat):=by
   rw[Nat.pow_add,Nat.pow_add]
   calc 2 ^ L*2 ^ (i+((-i).toNat:Nat)).toNat<=m*2 ^ (i+((-i).toNat:Nat)).toNat:=Nat.mul_le_mul_right _ hL1
    _=v.natAbs*2 ^ (-i).toNat:=e
    _<2 ^ 53*2 ^ (-i).toNat:=Nat.mul_lt_mul_of_pos_right hv (Nat.pow_pos (by decide))
  have h2:=(Nat.pow_lt_pow_iff_right (a:=2) (by decide)).1 h1
  omega
 have l0:max (i+(L:Int)-52) (-1074)<=0:=by omega
 have l1: -1074<=max (i+(L:Int)-52) (-1074):=by omega
 have l2:i+(L:Int)-52<=max (i+(L:Int)-52) (-1074):=by omega
 have l3:max (i+(L:Int)-52) (-1074)= -1074∨max (i+(L:Int)-52) (-1074)=i+L-52:=by omega
 generalize max (i+(L:Int)-52) (-1074)=last at l0 l1 l2 l3 hne
 obtain⟨a,ha⟩:∃a,a=(i-last).toNat:=⟨_,rfl⟩
 obtain⟨d,hd⟩:∃d,d=(last-i).toNat:=⟨_,rfl⟩
 rw[<-ha,<-hd] at hne
 have hK:∃K,m*2 ^ a=K*2 ^ d:=by
  by_cases hi:last<=i
  ·exact⟨m*2 ^ a,by rw[show d=0 by omega,Nat.pow_zero,Nat.mul_one]⟩
  ·have e:=h.nat (k:=(-i).toNat) (by omega)
   rw[show(i+((-i).toNat:Nat)).toNat=0 by omega,Nat.pow_zero,Nat.mul_one] at e
   refine⟨v.natAbs*2 ^ ((-i).toNat-d),?_⟩
   rw[show a=0 by omega,Nat.pow_zero,Nat.mul_one,e,Nat.mul_assoc,<-Nat.pow_add,show(-i).toNat-d+d=(-i).toNat by omega]
 obtain⟨K,hK⟩:=hK
 rw[Nat.shiftLeft_eq,hK,cut_exact] at hne
 have k1:K<2 ^ 53:=by
  have:K*2 ^ d<2 ^ 53*2 ^ d:=by
   rw[<-hK,<-Nat.pow_add]
   calc m*2 ^ a<2 ^ (L+1)*2 ^ a:=Nat.mul_lt_mul_of_pos_right hL2 (Nat.pow_pos (by decide))
    _=2 ^ (L+1+a):=(Nat.pow_add _ _ _).symm
    _<=2 ^ (53+d):=Nat.pow_le_pow_right (by decide) (by omega)
  exact Nat.lt_of_mul_lt_mul_right this
 have k2:last≠-1074->2 ^ 52<=K:=λhl=>by
  have:2 ^ 52*2 ^ d<=K*2 ^ d:=by
   rw[<-hK,<-Nat.pow_add]
   calc 2 ^ (52+d)<=2 ^ (L+a):=Nat.pow_le_pow_right (by decide) (by omega)
    _=2 ^ L*2 ^ a:=Nat.pow_add _ _ _
    _<=m*2 ^ a:=Nat.mul_le_mul_right _ hL1
  exact Nat.le_of_mul_le_mul_right this (Nat.pow_pos (by decide))
 have fin:Val s K last v:=by
  refine⟨(-i).toNat+(-last).toNat,by omega,?_⟩
  rw[<-h.all (k:=(-i).toNat+(-last).toNat) (by omega)]
  have e:K*2 ^ (last+((-i).toNat+(-last).toNat:Nat)).toNat=m*2 ^ (i+((-i).toNat+(-last).toNat:Nat)).toNat:=by
   refine Nat.eq_of_mul_eq_mul_right (Nat.pow_pos (n:=a) (show 0<2 by decide)) ?_
   rw[Nat.mul_assoc,<-Nat.pow_add,show(last+((-i).toNat+(-last).toNat:Nat)).toNat+a=d+(i+((-i).toNat+(-last).toNat:Nat)).toNat by omega,Nat.pow_add,<-Nat.mul_assoc,<-hK,Nat.mul_right_comm]
  unfold signed
  rw[Nat.shiftLeft_eq,Nat.shiftLeft_eq,e]
 obtain⟨E,hE⟩:∃E,E=(last-(-1074)).toNat:=⟨_,rfl⟩
 rw[<-hE] at hne
 rw[hne,Nat.min_eq_left (by omega),read_word (by omega)]
 by_cases hr:E*2 ^ 52+K<2 ^ 52
 ·rw[if_pos hr]
  have h0:E=0:=by omega
  subst h0
  exact⟨_,_,rfl,by rw[Nat.zero_mul,Nat.zero_add,show(-1074:Int)=last by omega];exact fin⟩
 ·rw[if_neg hr]
  have hk:2 ^ 52<=K:=by
   by_cases e:last= -1074
   ·have h0:E=0:=by omega
    subst h0;omega
   ·exact k2 e
  refine⟨_,_,rfl,?_⟩
  have e1:2 ^ 52+(E*2 ^ 52+K) % 2 ^ 52=K:=by omega
  have e2:(E*2 ^ 52+K)/2 ^ 52-1=E:=by omega
  rw[e1,e2,show(-1074:Int)+(E:Nat)=last by omega]
  exact fin
def Wd(w:Nat)(v:Int):Prop:=∃s m i,double.read w= .number s m i∧Val s m i v
theorem Val.int(v:Int):Val (decide (v<0)) v.natAbs 0 v:=⟨0,by decide,by
 have:=signed_abs (t:=v) (b:=false) (a:=0)
 simp only[Int.pow_zero,Int.mul_one] at this⊢
 by_cases h:v=0
 ·subst h;rfl
 ·rw[if_neg h] at this;exact this⟩
theorem Wd.near{s:Bool}{m:Nat}{i v:Int}(h:Val s m i v)(hv:v.natAbs<2 ^ 53):Wd (double.write (.number s m i)) v:=by
 obtain⟨m',i',h1,h2⟩:=near_val h hv
 exact⟨s,m',i',h1,h2⟩
theorem Wd.int{v:Int}(hv:v.natAbs<2 ^ 53):Wd (FloatKind.f64.nearest v) v:=Wd.near (Val.int v) hv
theorem Wd.add{x y:Nat}{u v:Int}(h:Wd x u)(g:Wd y v)(hv:(u+v).natAbs<2 ^ 53):∃r,double.add x y=some r∧Wd r (u+v):=by
 obtain⟨s,m,i,h1,h2⟩:=h
 obtain⟨t,n,j,g1,g2⟩:=g
 obtain⟨s',m',i',e1,e2⟩:=h2.sum g2
 exact⟨_,by unfold Format.add;rw[h1,g1,e1];rfl,Wd.near e2 hv⟩
theorem Wd.sub{x y:Nat}{u v:Int}(h:Wd x u)(g:Wd y v)(hv:(u-v).natAbs<2 ^ 53):∃r,double.sub x y=some r∧Wd r (u-v):=by
 obtain⟨s,m,i,h1,h2⟩:=h
 obtain⟨t,n,j,g1,g2⟩:=g
 obtain⟨s',m',i',e1,e2⟩:=h2.sum g2.neg
 exact⟨_,by unfold Format.sub;rw[h1,g1];show(Datum.sum _ (Datum.number (!t) n j)).map _=_;rw[e1];rfl,Wd.near e2 hv⟩
theorem Wd.mul{x y:Nat}{u v:Int}(h:Wd x u)(g:Wd y v)(hv:(u*v).natAbs<2 ^ 53):∃r,double.mul x y=some r∧Wd r (u*v):=by
 obtain⟨s,m,i,h1,h2⟩:=h
 obtain⟨t,n,j,g1,g2⟩:=g
 exact⟨_,by unfold Format.mul;rw[h1,g1];rfl,Wd.near (h2.prod g2) hv⟩
theorem Wd.order{x y:Nat}{u v:Int}(h:Wd x u)(g:Wd y v):double.order x y=some (compare u v):=by
 obtain⟨s,m,i,h1,h2⟩:=h
 obtain⟨t,n,j,g1,g2⟩:=g
 unfold Format.order
 rw[h1,g1]
 exact h2.order g2
theorem Val.whole{s:Bool}{m:Nat}{i v:Int}(h:Val s m i v){way:Toward}:(Datum.number s m i).integral way= .number s v.natAbs 0∧Val s v.natAbs 0 v:=by
 have e:way.cut s (m<<<i.toNat) (-i).toNat=v.natAbs:=by
  have hk:=h.nat (k:=(-i).toNat) (by omega)
  rw[show(i+((-i).toNat:Nat)).toNat=i.toNat by omega] at hk
  rw[Nat.shiftLeft_eq,hk,cut_exact]
 refine⟨by show Datum.number s _ 0=_;rw[e],0,by decide,?_⟩
 have hs:=h.all (k:=(-i).toNat) (by omega)
 have hz:signed s v.natAbs 0=v∨v=0:=by
  by_cases h0:v=0
  ·exact .inr h0
  ·refine .inl ?_
   have hp:=pow2_pos (-i).toNat
   cases s with
   |false=>
    have h1:0<=v*2 ^ (-i).toNat:=by rw[<-hs];exact Int.natCast_nonneg _
    have h2:0<=v:=Int.nonneg_of_mul_nonneg_left h1 hp
    simp only[signed,bF,if_false,Nat.shiftLeft_zero]
    omega
   |true=>
    have h1:v*2 ^ (-i).toNat<=0:=by rw[<-hs];exact Int.neg_nonpos_of_nonneg (Int.natCast_nonneg _)
    have h2:v<=0:=by
     apply Int.not_lt.1
     intro h3
     have:=Int.mul_pos h3 hp
     omega
    simp only[signed,if_true,Nat.shiftLeft_zero]
    omega
 rcases hz with hz|hz
 ·simp only[Int.pow_zero,Int.mul_one];exact hz
 ·subst hz;simp[signed_zero]
theorem Wd.floor{x:Nat}{v:Int}(h:Wd x v)(hv:v.natAbs<2 ^ 53):∃d,FloatKind.f64.decode x=d∧d.isNaN=false∧Wd (FloatKind.f64.encode (d.integral .down)) v:=by
 obtain⟨s,m,i,h1,h2⟩:=h
 have h3:=h2.whole (way:= .down)
 exact⟨_,h1,rfl,by rw[h3.1];exact Wd.near h3.2 hv⟩
theorem Wd.toInt{x:Nat}{v:Int}(h:Wd x v):(FloatKind.f64.decode x).toInt .zero=some v:=by
 obtain⟨s,m,i,h1,h2⟩:=h
 have h3:=h2.whole (way:= .zero)
 show(double.read x).toInt .zero=some v
 rw[h1]
 unfold Datum.toInt
 rw[h3.1]
 have:=h3.2.all (k:=0) (by decide)
 simpa using this
end Go.Ab
namespace Go.Ab
noncomputable section
section
variable{P:Program}{E:Env}{n0:Nat}{rd:Option Nat}
section
variable{base i:Nat}{rest:List (Nat×SOp)}{L:List Inst}{t:List Value}{m:Mem}{K:KI}{ty rt:TypeId}{d:Tmp}
def realV(P:Program)(v:Value):Option Value:=if plain v then runV P (Builtin.real_ #[] 0 #[v]) else none
def imagV(P:Program)(v:Value):Option Value:=if plain v then runV P (Builtin.imag_ #[] 0 #[v]) else none
def cplxV(P:Program)(v w:Value):Option Value:=if plain v&&plain w then runV P (Builtin.complex_ #[] 0 #[v,w]) else none
theorem realV_c{k:FloatKind}{a b:Nat}:realV P (.complex k a b)=some (.float k a):=rfl
theorem imagV_c{k:FloatKind}{a b:Nat}:imagV P (.complex k a b)=some (.float k b):=rfl
theorem cplxV_f{k:FloatKind}{a b:Nat}:cplxV P (.float k a) (.float k b)=some (.complex k a b):=by cases k<;>rfl
theorem Z_real [NoSym E]{x:Operand}{ts:Array TypeId}:XWi E base ((i,⟨some d, .call ⟨.builtin .real,#[x],ts⟩,rt,none⟩)::rest) L t m (Q:=K)=okI (realV E.P (ev x t)) (k:=⟨λv=>XWi E base rest L (t.set d v) m (Q:=K)⟩):=by
 refine propext ?_
 unfold XWi okI
 rw[XW_pure rfl rfl,pureE_none NoSym.h]
 have e:pureA E.P ⟨some d, .call ⟨.builtin .real,#[x],ts⟩,rt,none⟩ (ev · t)=realV E.P (ev x t):=by
  have h1:(#[x].map λx=>ev x t)= #[ev x t]:=by simp
  simp only[pureA,h1]
  unfold realV
  simp only[List.all_cons,List.all_nil,Bool.and_true]
  rfl
 rw[e]
 exact Iff.rfl
theorem Z_imag [NoSym E]{x:Operand}{ts:Array TypeId}:XWi E base ((i,⟨some d, .call ⟨.builtin .imag,#[x],ts⟩,rt,none⟩)::rest) L t m (Q:=K)=okI (imagV E.P (ev x t)) (k:=⟨λv=>XWi E base rest L (t.set d v) m (Q:=K)⟩):=by
 refine propext ?_
 unfold XWi okI
 rw[XW_pure rfl rfl,pureE_none NoSym.h]
 have e:pureA E.P ⟨some d, .call ⟨.builtin .imag,#[x],ts⟩,rt,none⟩ (ev · t)=imagV E.P (ev x t):=by
  have h1:(#[x].map λx=>ev x t)= #[ev x t]:=by simp
  simp only[pureA,h1]
  unfold imagV
  simp only[List.all_cons,List.all_nil,Bool.and_true]
  rfl
 rw[e]
 exact Iff.rfl
theorem Z_cplx [NoSym E]{x y:Operand}{ts:Array TypeId}:XWi E base ((i,⟨some d, .call ⟨.builtin .complex,#[x,y],ts⟩,rt,none⟩)::rest) L t m (Q:=K)=okI (cplxV E.P (ev x t) (ev y t)) (k:=⟨λv=>XWi E base rest L (t.set d v) m (Q:=K)⟩):=by
 refine propext ?_
 unfold XWi okI
 rw[XW_pure rfl rfl,pureE_none NoSym.h]
 have e:pureA E.P ⟨some d, .call ⟨.builtin .complex,#[x,y],ts⟩,rt,none⟩ (ev · t)=cplxV E.P (ev x t) (ev y t):=by
  have h1:(#[x,y].map λx=>ev x t)= #[ev x t,ev y t]:=by simp
  simp only[pureA,h1]
  unfold cplxV
  simp only[List.all_cons,List.all_nil,Bool.and_true]
  rfl
 rw[e]
 exact Iff.rfl
theorem Z_ext{dst:Option Tmp}{g:FuncId}{args:Array Operand}{ts:Array TypeId}(hc:callable E.P g=false):XWi E base ((i,⟨dst, .call ⟨.value (.func g),args,ts⟩,rt,none⟩)::rest) L t m (Q:=K)=okI (externA E.P g (args.toList.map (ev · t))) (k:=⟨λv=>XWi E base rest L (putT dst v t) m (Q:=K)⟩):=by
 have e0:(#[]:Array Value).toList++(args.map λx=>ev x t).toList++(#[]:Array Value).toList=args.toList.map λx=>ev x t:=by simp
 have he:effA E.P (base+i) ⟨dst, .call ⟨.value (.func g),args,ts⟩,rt,none⟩ (ev · t) m=(externA E.P g (args.toList.map (ev · t))).map λv=>(Req.val v,m):=by
  show(if callable E.P g then _ else match externA E.P g (#[].toList++(args.map λx=>ev x t).toList++ #[].toList) with|some v=>some (Req.val v,m)|none=>none)=_
  rw[hc,e0]
  cases externA E.P g (args.toList.map (ev · t))<;>rfl
 refine propext ?_
 unfold XWi okI
 rw[XW_val (q:=(externA E.P g (args.toList.map (ev · t))).map λv=>(v,m)) rfl rfl,okP_map]
 ·rfl
 ·rw[he];cases externA E.P g (args.toList.map (ev · t))<;>rfl
 ·unfold reqA
  simp only[cls]
  have h0:effA E.P 0 ⟨dst, .call ⟨.value (.func g),args,ts⟩,rt,none⟩ (ev · t) m=(externA E.P g (args.toList.map (ev · t))).map λv=>(Req.val v,m):=by
   show(if callable E.P g then _ else match externA E.P g (#[].toList++(args.map λx=>ev x t).toList++ #[].toList) with|some v=>some (Req.val v,m)|none=>none)=_
   rw[hc,e0]
   cases externA E.P g (args.toList.map (ev · t))<;>rfl
  rw[h0]
  cases externA E.P g (args.toList.map (ev · t))<;>rfl
abbrev Fv(x:Nat):Value:= .float .f64 x
abbrev Cv(x y:Nat):Value:= .complex .f64 x y
variable{x y z w a b:Nat}{u v:Int}
theorem binf_lss(h:Wd x u)(g:Wd y v):binV P .lss ty (Fv x) (Fv y)=some (.bool (decide (u<v))):=by
 show some (Value.bool (Ieee.double.order x y==some .lt))=_
 rw[h.order g]
 congr 2
 simp only[compare,compareOfLessAndEq]
 by_cases h1:u<v
 ·simp[h1]
 ·by_cases h2:u=v<;>simp[h1,h2]
theorem binf_geq(h:Wd x u)(g:Wd y v):binV P .geq ty (Fv x) (Fv y)=some (.bool (decide (v<=u))):=by
 show some (Value.bool (Ieee.double.order x y==some .gt||Ieee.double.order x y==some .eq))=_
 rw[h.order g]
 congr 2
 simp only[compare,compareOfLessAndEq]
 by_cases h1:u<v
 ·have:¬v<=u:=by omega
  simp[h1,this]
 ·by_cases h2:u=v
  ·simp[h2]
  ·have:v<=u:=by omega
   simp[h1,h2,this]
theorem eqf{p q:Operand}(h:Wd x u)(g:Wd y v):eqA P .eql ty p q (Fv x) (Fv y) m=some (.bool (decide (u=v))):=by
 have e:eqA P .eql ty p q (Fv x) (Fv y) m=some (Value.bool (Ieee.double.order x y==some .eq)):=by
  rfl
 rw[e,h.order g]
 congr 2
 simp only[compare,compareOfLessAndEq]
 by_cases h1:u<v
 ·have:u≠v:=by omega
  simp[h1,this]
 ·by_cases h2:u=v<;>simp[h1,h2]
theorem binc_add(h:Ieee.double.add x z=some a)(g:Ieee.double.add y w=some b):binV P .add ty (Cv x y) (Cv z w)=some (Cv a b):=by
 have e1:∀{p q r:Nat},Ieee.double.add p q=some r->Op.Complex.arith .add .f64 p q=pure r:=λ{p q r} h=>by
  show Op.Complex.arith .add .f64 p q=_
  unfold Op.Complex.arith Op.floatArith
  have h':FloatKind.f64.format.add p q=some _:=h
  simp only[h']
  rfl
 show runV P (Op.complexOp .add .f64 x y z w)=_
 unfold Op.complexOp
 simp only[e1 h,e1 g]
 rfl
theorem binc_mul{p q r o:Nat}(h1:Ieee.double.mul x z=some p)(h2:Ieee.double.mul y w=some q)(h3:Ieee.double.mul x w=some r)(h4:Ieee.double.mul y z=some o)(h:Ieee.double.sub p q=some a)(g:Ieee.double.add r o=some b):binV P .mul ty (Cv x y) (Cv z w)=some (Cv a b):=by
 have e1:∀{p q r:Nat},Ieee.double.mul p q=some r->Op.Complex.mul p q=pure r:=λ{p q r} h=>by
  show Op.Complex.arith .mul .f64 p q=_
  unfold Op.Complex.arith Op.floatArith
  have h':FloatKind.f64.format.mul p q=some _:=h
  simp only[h']
  rfl
 have e2:Op.Complex.sub p q=pure a:=by
  show Op.Complex.arith .sub .f64 p q=_
  unfold Op.Complex.arith Op.floatArith
  have h':FloatKind.f64.format.sub p q=some _:=h
  simp only[h']
  rfl
 have e3:Op.Complex.add r o=pure b:=by
  show Op.Complex.arith .add .f64 r o=_
  unfold Op.Complex.arith Op.floatArith
  have h':FloatKind.f64.format.add r o=some _:=g
  simp only[h']
  rfl
 have r:∀{p q r:Nat} {f:Nat->Nat->Sem Nat},f p q=pure r->runP P (f p q)=some r:=λh=>by rw[h];rfl
 have hp:runP P (Op.Complex.product x y z w)=some (a,b):=by
  unfold Op.Complex.product
  rw[runP_bind _ _ (r (e1 h1)),runP_bind _ _ (r (e1 h2)),runP_bind _ _ (r e2),runP_bind _ _ (r (e1 h3)),runP_bind _ _ (r (e1 h4)),runP_bind _ _ (r e3)]
  rfl
 have e4:∀n,runP P (Op.Complex.conv .f64 n .f64)=some n:=λn=>by unfold Op.Complex.conv;rw[if_pos rfl];rfl
 have hc:runP P (Op.complexOp .mul .f64 x y z w)=some (Cv a b):=by
  unfold Op.complexOp
  simp only
  rw[runP_bind _ _ (e4 x),runP_bind _ _ (e4 y),runP_bind _ _ (e4 z),runP_bind _ _ (e4 w)]
  rw[if_pos (by decide),runP_bind _ _ hp]
  simp only
  rw[runP_bind _ _ (e4 a),runP_bind _ _ (e4 b)]
  rfl
 show runV P (Op.complexOp .mul .f64 x y z w)=_
 unfold runV
 rw[hc]
 rfl
theorem conv_ii{s e:TypeId}{k k':IntKind}{n:Int}(h:P.underlying e=some (.int k))(h':(P.underlying s).isSome=true):convV P s e (.int k' n) m=some (.int k (k.wrap n)):=by
 obtain⟨d,h'⟩:=Option.isSome_iff_exists.1 h'
 have hp:plain (.int k' n)=true:=rfl
 have hc:runV P (convert s e (.int k' n))=some (.int k (k.wrap n)):=by
  unfold runV convert
  rw[runP_bind _ _ (runP_und h'),runP_bind _ _ (runP_und h)]
  rfl
 unfold convV readA
 simp only[ev,hp,if_true,h]
 exact hc
def isIntD:Option TypeDesc->Bool
 |some (.int _)=>true
 |_=>false
def convG:Option TypeDesc->Int->Option Value
 |some (.int k),n=>some (.int k (k.wrap n))
 |_,_=>none
theorem isIntD_i{k:IntKind}:isIntD (some (.int k))=true:=rfl
theorem convG_i{k:IntKind}{n:Int}:convG (some (.int k)) n=some (.int k (k.wrap n)):=rfl
theorem conv_g{s e:TypeId}{k':IntKind}{n:Int}(h:isIntD (P.underlying e)=true)(h':(P.underlying s).isSome=true):convV P s e (.int k' n) m=convG (P.underlying e) n:=by
 unfold isIntD at h
 split at h
 ·rename_i k e1
  rw[conv_ii e1 h',e1];rfl
 ·cases h
theorem conv_if{s e:TypeId}{n:Int}{k:IntKind}(h:P.underlying e=some (.float .f64))(h':(P.underlying s).isSome=true):convV P s e (.int k n) m=some (Fv (FloatKind.f64.nearest n)):=by
 obtain⟨d,h'⟩:=Option.isSome_iff_exists.1 h'
 have hp:plain (.int k n)=true:=rfl
 have hc:runV P (convert s e (.int k n))=some (Fv (FloatKind.f64.nearest n)):=by
  unfold runV convert
  rw[runP_bind _ _ (runP_und h'),runP_bind _ _ (runP_und h)]
  rfl
 unfold convV readA
 simp only[ev,hp,if_true,h]
 exact hc
theorem conv_fi{s e:TypeId}(h:P.underlying e=some (.int .i64))(h':(P.underlying s).isSome=true)(hx:Wd x v)(hv:v.natAbs<2 ^ 53):convV P s e (Fv x) m=some (.int .i64 v):=by
 obtain⟨d,h'⟩:=Option.isSome_iff_exists.1 h'
 have hp:plain (Fv x)=true:=rfl
 have hc:runV P (convert s e (Fv x))=some (.int .i64 v):=by
  unfold runV convert
  rw[runP_bind _ _ (runP_und h'),runP_bind _ _ (runP_und h)]
  have e1:Conv.floatToInt .f64 x .i64=pure (.int .i64 v):=by
   unfold Conv.floatToInt
   simp only[hx.toInt]
   rw[if_pos ⟨by show(-9223372036854775808:Int)<=v;omega,by show v<=(9223372036854775807:Int);omega⟩]
  show(match runP P (Conv.floatToInt .f64 x .i64) with|some v=>_|none=>none)=_
  rw[e1]
  rfl
 unfold convV readA
 simp only[ev,hp,if_true,h]
 exact hc
end
theorem CallI.con1{f:FuncId}{args args1:List Value}{m m' m0 m1:Mem}{v v1:Value}{K:List Inst->Value->Mem->Prop}(h:Con E.P f args m v m')(hL:args1=args->m0=m->v1=v∧m1=m')(hK:K [⟨.call f args,m,v,m'⟩,⟨.call f args1,m0,v1,m1⟩] v m'):CallI E [⟨.call f args1,m0,v1,m1⟩] (.call f args) m (K:=⟨K⟩):=
 CallI.con h (λc hc e1 e2=>by
  simp only[List.mem_cons,List.not_mem_nil,or_false] at hc
  subst hc
  injection e1 with _ e1
  exact hL e1 e2) hK
def XG:=aI @Z_real<|aI @Z_imag<|aI @Z_cplx<|aI @realV_c<|aI @imagV_c<|aI @cplxV_f<|aI @Z_ext<|aI @conv_if<|aI @conv_g<|aI @isIntD_i<|aI @convG_i<|aI @isCmp_lss<|aI @Option.isSome_some.{0}<| @isCmp_geq
end
end
end Go.Ab
namespace Go.Ab
open Go.Proofs
noncomputable section
set_option maxHeartbeats 4000000
set_option maxRecDepth 10000
section
variable{m:Mem}{n x y:Int}
abbrev Nf(n:Int):Nat:=FloatKind.f64.nearest n
abbrev zC(z:Int×Int):Value:=zV z
def wrapZ(n:Int):Int:=if 524288<=n.tmod 1048576 then n.tmod 1048576-1048576 else if n.tmod 1048576< -524288 then n.tmod 1048576+1048576 else n.tmod 1048576
theorem wrapZ_in: -524288<=wrapZ n∧wrapZ n<524288:=by
 have h1:=Int.tmod_lt_of_pos n (show(0:Int)<1048576 by decide)
 have h2: -1048576<n.tmod 1048576:=by
  have:=Int.tmod_lt_of_pos (-n) (show(0:Int)<1048576 by decide)
  rw[Int.neg_tmod] at this
  omega
 unfold wrapZ
 split
 ·omega
 ·split<;>omega
theorem wrapg_ok:Con EE.P 293 [In n] m (Fv (Nf (wrapZ n))) m:=by
 refine Con.of EE_ok fn293 (bA rfl) Grow.rfl λhm=>?_
 have h1:=Int.tmod_lt_of_pos n (show(0:Int)<1048576 by decide)
 have h2: -1048576<n.tmod 1048576:=by
  have:=Int.tmod_lt_of_pos (-n) (show(0:Int)<1048576 by decide)
  rw[Int.neg_tmod] at this
  omega
 have hb:∀{k:IntKind} {a:Int} {ty:Nat},binV EE.P .rem ty (.int k a) (.int k 1048576)=some (.int k (a.tmod 1048576)):=λ{k a ty}=>bin_rem (by decide)
 have w1:IntKind.i64.wrap (n.tmod 1048576-1048576)=n.tmod 1048576-1048576:=wrap_i64 (by omega) (by omega)
 have w2:IntKind.i64.wrap (n.tmod 1048576+1048576)=n.tmod 1048576+1048576:=wrap_i64 (by omega) (by omega)
 have hz:wrapZ n=if 524288<=n.tmod 1048576 then n.tmod 1048576-1048576 else if n.tmod 1048576< -524288 then n.tmod 1048576+1048576 else n.tmod 1048576:=rfl
 by_cases a1:524288<=n.tmod 1048576
 ·rw[if_pos a1] at hz
  rw[hz]
  simp only[XX,XY,F293,yA,yB,yC,hb,w1,a1,XG]
  exact tP rfl λ_ _=>rfl
 ·rw[if_neg a1] at hz
  by_cases a2:n.tmod 1048576< -524288
  ·rw[if_pos a2] at hz
   rw[hz]
   simp only[XX,XY,F293,yA,yB,yC,hb,w2,a1,a2,XG]
   exact tP rfl λ_ _=>rfl
  ·rw[if_neg a2] at hz
   rw[hz]
   simp only[XX,XY,F293,yA,yB,yC,hb,a1,a2,XG]
   exact tP rfl λ_ _=>rfl
theorem makeg_ok:Con EE.P 227 [In x,In y] m (zC (wrapZ x,wrapZ y)) m:=by
 refine Con.of EE_ok fn227 (bA rfl) Grow.rfl λhm=>?_
 simp only[XX,XY,F227,yA,yB,yC]
 refine cZ wrapg_ok ?_
 simp only[XX,XY,F227,yA,yB]
 refine CallI.con1 wrapg_ok (λe _=>by injection e with e;injection e with _ e;rw[e];exact⟨rfl,rfl⟩) ?_
 simp only[XX,XY,yA,yB,XG]
 exact tP rfl λ_ _=>rfl
def s32(x:BitVec 32):Int:=IntKind.i32.wrap x.toNat
theorem s32_in{x:BitVec 32}: -2147483648<=s32 x∧s32 x<2147483648:=by
 have:=x.isLt
 unfold s32 IntKind.wrap
 simp only[IntKind.signed,IntKind.bits]
 simp
 split<;>omega
theorem fromWords_ok{a b:BitVec 32}:Con EE.P 171 [Um a,Um b] m (zC (wrapZ (s32 a),wrapZ (s32 b))) m:=by
 refine Con.of EE_ok fn171 (bA rfl) Grow.rfl λhm=>?_
 have w:∀x:BitVec 32,IntKind.i64.wrap (IntKind.i32.wrap (x.toNat:Int))=s32 x:=λx=>by
  have:= @s32_in x
  exact wrap_i64 (by show-9223372036854775808<=s32 x;omega) (by show s32 x<9223372036854775808;omega)
 simp only[XX,XY,F171,yA,yB,yC,XG,w]
 refine cZ makeg_ok ?_
 simp only[XX,XY,yA,yB]
 exact tP rfl λ_ _=>rfl
theorem fit_ok{a b:Nat}{u v:Int}(ha:Wd a u)(hb:Wd b v)(hu:u.natAbs<2 ^ 53)(hv:v.natAbs<2 ^ 53):Con EE.P 229 [Cv a b] m (zC (wrapZ u,wrapZ v)) m:=by
 refine Con.of EE_ok fn229 (bA rfl) Grow.rfl λhm=>?_
 have c1:∀{s e M},EE.P.underlying e=some (.int .i64)->(EE.P.underlying s).isSome=true->convV EE.P s e (Fv a) M=some (In u):=λh h'=>conv_fi h h' ha hu
 have c2:∀{s e M},EE.P.underlying e=some (.int .i64)->(EE.P.underlying s).isSome=true->convV EE.P s e (Fv b) M=some (In v):=λh h'=>conv_fi h h' hb hv
 simp only[XX,XY,F229,yA,yB,yC,XG,c1,c2]
 refine cZ makeg_ok ?_
 simp only[XX,XY,yA,yB]
 exact tP rfl λ_ _=>rfl
end
section
variable{m mr M:Mem}{n x y u v:Int}{a b:Nat}
theorem ext_run{P:Program}{f:FuncId}{fn:Func}{e:Array Value->Sem Value}{args:Array Value}{v:Value}(hf:P.funcs[f]? =some fn)(hname:(fn.name== "runtime.NumGoroutine")=false)(hb:fn.body.isNone=true)(hn:(Extern.findNext fn).isNone=true)(he:Extern.find fn=some e)(hv:runP P (e args)=some v):runP P (callFunc f args)=some (.value v):=by
 unfold callFunc
 show runP P (match P.funcs[f]? with|none=>_|some fn=>_)=_
 rw[hf]
 simp only[hname,hb,if_true,bF,if_false]
 have h0:Extern.findNext fn=none:=by simpa using hn
 rw[h0,he]
 show runP P (do let u<-e args;pure (Next.value u))=_
 rw[runP_bind _ _ hv]
 rfl
theorem arch_e:Extern.find Tryz.f334=some (Extern.MathFloor.toIntegral "math.archFloor" .down):=kr
theorem arch_run{x:Nat}{v:Value}(hp:plain v=true)(h:runP EE.P (Extern.MathFloor.toIntegral "math.archFloor" .down #[Fv x])=some v):externA EE.P 334 [Fv x]=some v:=by
 unfold externA
 rw[if_pos (show([Fv x].all plain)=true from rfl),ext_run (P:=EE.P) (v:=v) Tryz.func334 kr kr kr arch_e h]
 simp only[hp,if_true]
theorem arch_ok(h:Wd a v)(hv:v.natAbs<2 ^ 53):∃w,externA EE.P 334 [Fv a]=some (Fv w)∧Wd w v:=by
 obtain⟨d,h1,h2,h3⟩:=h.floor hv
 refine⟨_,?_,h3⟩
 refine arch_run rfl ?_
 have e:Extern.MathFloor.toIntegral "math.archFloor" .down #[Fv a]=pure (Fv (FloatKind.f64.encode (d.integral .down))):=by
  show(match FloatKind.f64.decode a with| .nan s t=>_|d=>pure (Value.float .f64 (FloatKind.f64.encode (d.integral .down))))=_
  rw[h1]
  cases d<;>first|rfl|cases h2
 rw[e]
 rfl
theorem nca:callable EE.P 334=false:=kr
theorem floor_ok(h:Wd a v)(hv:v.natAbs<2 ^ 53):∃w,Wd w v∧∀m,Con EE.P 319 [Fv a] m (Fv w) m:=by
 obtain⟨w,h1,h2⟩:=arch_ok h hv
 refine⟨w,h2,λm=>?_⟩
 refine Con.of EE_ok fn319 (bA rfl) Grow.rfl λhm=>?_
 simp only[XX,XY,F319,yA,yB,yC,XG,nca,h1]
 exact tP rfl λ_ _=>rfl
theorem parts_ok(hm:Fresh m):∃u m',Con EE.P 318 [Cv a b] m u m'∧∃x1,u= .func (.func 333) #[] [PT x1].toArray∧m.next<=x1∧m'.get x1=some (.cells (ofL [Cv a b]) true 0)∧Nx m m':=by
 refine Con.raw EE_ok fn318 (bA rfl) _ ?_
 have hb:boxL (Cv a b)=some [Cv a b]:=rfl
 simp only[XX,XY,F318,yA,yB,yC,hb]
 have hn:Nx m ((m.put m.next (.cells (ofL [Cv a b]) true 0)).bump 4):=⟨by(try simp only[bN,nP]);omega,Fresh.of_low (by have:=hm.n64;(try simp only[bN,nP]);omega) (by repeat(first|exact Low.of hm nO|refine Low.put ?_ nO|refine Low.bump ?_)),λy hy=>by simp only[gB,gP,ne_new0 hy,if_false]⟩
 exact⟨⟨hn.next,λy hy e=>by rw[hn.old y hy,e]⟩,m.next,rfl,lR' _,gA,hn⟩
structure Rnd(mr:Mem)(lp o:Nat)(lr:ALoop)(v:Value)(M:Mem):Prop where
 next:mr.next<=M.next
 low:Low M M.next
 loop:M.get lp=some (.loop lr)
 out:M.get o=some (.cells (ofL [v]) true 0)
 old:∀y,y<mr.next->y≠lp->y≠o->M.get y=mr.get y
theorem Rnd.bump{lp o:Nat}{lr:ALoop}{v:Value}(h:Rnd mr lp o lr v M)(j:Nat):Rnd mr lp o lr v (M.bump j):=⟨by rw[bN];exact lA h.next,by rw[bN];exact(h.low.up (Nat.le_add_right _ _)).bump,h.loop,h.out,h.old⟩
theorem parts1_ok{lp x1:Nat}(hx:mr.get x1=some (.cells (ofL [Cv a b]) true 0))(Inv:Mem->Prop)(h0:Inv mr)(hb:∀M j,Inv M->Inv (M.bump j))(hI:∀M,Inv M->mr.next<=M.next∧M.get x1=some (.cells (ofL [Cv a b]) true 0)∧Grow mr M)
  (s:∀M w,Inv M->(w=a∨w=b)->∃u m',RCon EE.P lp [Fv w] M u m'∧u= .bool true∧M.next<=m'.next∧Inv m'):∃u m2,Con EE.P 333 [.func (.yield lp) #[] #[],PT x1] mr u m2∧Inv m2:=by
 refine Con.raw EE_ok fn333 (bA rfl) _ ?_
 simp only[XX,XY,F333,yA,yB,yC,hx,XG]
 refine CallI.rcon (s _ a (hb _ _ h0) (.inl rfl)) (by simp) λu m' hm'=>?_
 obtain⟨rfl,n3,hI'⟩:=hm'
 obtain⟨n4,hx4,hg4⟩:=hI _ hI'
 simp only[XX,XY,F333,yA,yB,yC,hx4,n4,XG]
 refine CallI.rcon (s _ b (hb _ _ hI') (.inr rfl)) (by simp) λu m2 hm2=>?_
 obtain⟨rfl,n5,hI2⟩:=hm2
 obtain⟨n6,hx6,hg6⟩:=hI _ hI2
 simp only[XX,yA]
 exact⟨hg6,hI2⟩
end
section
variable{m mr M:Mem}{n x y u v:Int}{a b w:Nat}
theorem c_neg:Wd 13916122848574832640 (-524288):=by
 have e:FloatKind.f64.nearest (-524288)=13916122848574832640:=kr
 rw[<-e];exact Wd.int (by decide)
theorem c_pos:Wd 4692750811720056832 524288:=by
 have e:FloatKind.f64.nearest 524288=4692750811720056832:=kr
 rw[<-e];exact Wd.int (by decide)
abbrev lrM(tl:List (Nat×Value)):ALoop:={state:= .ready,pend:=none,tmps:=T 23 tl,ps:=[7],assign:=(kO Tryz.f294.body 9),body:=(kO Tryz.f294.body 10)}
theorem may_round{lp o:Nat}{tl:List (Nat×Value)}(h3:lk tl 3=PT o)(hr:64<=mr.next)(hlp:lp<mr.next)(ho:o<mr.next)(hne:¬o=lp)(hI:Rnd mr lp o (lrM tl) (.bool true) M)(hw:Wd w v)(h1: -524288<=v)(h2:v<524288):
  ∃u m',RCon EE.P lp [Fv w] M u m'∧u= .bool true∧M.next<=m'.next∧Rnd mr lp o (lrM tl) (.bool true) m':=by
 have Ml:=hI.loop
 have Mo:=hI.out
 have hne2:¬lp=o:=λe=>hne e.symm
 obtain⟨z,hz,hf⟩:=floor_ok hw (by omega)
 refine RCon.of EE_ok (r:=lrM tl) Ml rfl rfl ?_
 have g1:∀{ty},binV EE.P .geq ty (Fv w) (.float .f64 13916122848574832640)=some (.bool (decide ((-524288:Int)<=v))):=binf_geq hw c_neg
 have g2:∀{ty},binV EE.P .lss ty (Fv w) (.float .f64 4692750811720056832)=some (.bool (decide (v<(524288:Int)))):=binf_lss hw c_pos
 have g3:∀{ty p q m},eqA EE.P .eql ty p q (Fv z) (Fv w) m=some (.bool (decide (v=v))):=eqf hz hw
 simp only[XX,XY,F294,yA,yB,yC,XG,Ml,g1,g2,h1,h2]
 refine cZ (hf _) ?_
 simp only[XX,XY,F294,yA,yB,yC,yG,Ml,Mo,h3,hne,hne2,g3]
 have e0:(ofL [Value.bool true]).write 0 [Value.bool true]=ofL [Value.bool true]:=rfl
 have hn:=hI.next
 rw[e0]
 refine⟨⟨nO,λy hy e=>?_⟩,⟨nO,?_,?_,?_,λy hy e1 e2=>?_⟩⟩
 ·have k1:¬y=lp:=λe2=>by rw[e2,Ml] at e;cases e
  have k2:¬y=o:=λe2=>by rw[e2,Mo] at e;cases e
  simp only[gB,gP,k1,k2,if_false,e]
 ·refine Low.up (Low.bump (Low.put (Low.put (Low.put hI.low (by omega)) (by omega)) (by omega))) nO
 ·rw[gB,gP,if_pos rfl]
 ·rw[gB,gP,if_neg hne,gP,if_pos rfl]
 ·simp only[gB,gP,e1,e2,if_false]
  exact hI.old y hy e1 e2
theorem mayg_ok(ha:Wd a x)(hb:Wd b y)(hx: -524288<=x∧x<524288)(hy: -524288<=y∧y<524288):Con EE.P 294 [Cv a b] m (.bool true) m:=by
 refine Con.of EE_ok fn294 (bA rfl) Grow.rfl λhm=>?_
 simp only[XX,XY,F294,yA,yB,yC]
 have e0:(ofL [Value.bool false]).write 0 [Value.bool true]=ofL [Value.bool true]:=rfl
 have hN0:Nx m (((m.put (m.next+1) (.cells (ofL [Value.bool false]) true 0)).put (m.next+1) (.cells ((ofL [Value.bool false]).write 0 [Value.bool true]) true 0)).bump 5):=⟨by(try simp only[bN,nP]);omega,Fresh.of_low (by have:=hm.n64;(try simp only[bN,nP]);omega) (by repeat(first|exact Low.of hm nO|refine Low.put ?_ nO|refine Low.bump ?_)),λy hy=>by simp only[gB,gP,ne_new hy,if_false]⟩
 refine cX (parts_ok hN0.fresh) λu M hu=>?_
 obtain⟨x1,rfl,k1,k2,k3⟩:=hu
 have n1:=k3.next
 simp only[bN,nP] at n1 k1
 have l1:=k3.fresh.lt k2
 have qo:M.get (m.next+1)=some (.cells (ofL [.bool true]) true 0):=by
  rw[k3.old _ nO,gB,gP,if_pos rfl,e0]
 simp only[XX,F294,yA]
 obtain⟨tl,htl⟩:∃tl,tl=[(6,Value.func (Fn.func 333) #[] #[PT x1]),(5,Cv a b),(3,Value.pointer (some {block:=m.next+1,off:=0})),(2,Value.bool false),(0,Cv a b)]:=⟨_,rfl⟩
 have hmr:Fresh ((M.put M.next (.loop (lrM tl))).bump 1):=by
  have:=k3.fresh
  exact Fresh.of_low (by have:=this.n64;simp only[bN,nP];omega) (Low.bump (Low.put (Low.of this nO) nO))
 have nmr:((M.put M.next (.loop (lrM tl))).bump 1).next=M.next+1:=by simp only[bN,nP]
 refine W_rfnx (g:=333) (l':=[(3,PT (m.next+1))]) (R:=λ_ m2=>Rnd ((M.put M.next (.loop (lrM tl))).bump 1) M.next (m.next+1) (lrM tl) (.bool true) m2) [] [PT x1] (by omega) (by simp only[ev_T,lk_cons,Nat.reduceLT,Nat.reduceEqDiff,reduceIte]) kr ?_ (λp hp=>?_) (λ_ m2 hI=>?_)
 ·rw[<-htl]
  have hx1:((M.put M.next (.loop (lrM tl))).bump 1).get x1=some (.cells (ofL [Cv a b]) true 0):=by rw[gB,gP,if_neg (by omega)];exact k2
  have ho1:((M.put M.next (.loop (lrM tl))).bump 1).get (m.next+1)=some (.cells (ofL [.bool true]) true 0):=by rw[gB,gP,if_neg (by omega)];exact qo
  have hl1:((M.put M.next (.loop (lrM tl))).bump 1).get M.next=some (.loop (lrM tl)):=by rw[gB,gP,if_pos rfl]
  refine parts1_ok hx1 (Rnd ((M.put M.next (.loop (lrM tl))).bump 1) M.next (m.next+1) (lrM tl) (.bool true)) ⟨lR' _,hmr.none,hl1,ho1,λ_ _ _ _=>rfl⟩ (λM2 j h=>h.bump j) (λM2 h=>⟨h.next,?_,h.next,λy hy e=>?_⟩) (λM2 w h hw=>?_)
  ·rw[h.old x1 (by rw[nmr];omega) (by omega) (by omega)];exact hx1
  ·rw[h.old y hy (λe2=>by rw[e2,hl1] at e;cases e) (λe2=>by rw[e2,ho1] at e;cases e),e]
  ·have h3:lk tl 3=PT (m.next+1):=by rw[htl];rfl
   have h64:=hm.n64
   rcases hw with rfl|rfl
   ·exact may_round h3 (by rw[nmr];omega) (by rw[nmr];omega) (by rw[nmr];omega) (by omega) h ha hx.1 hx.2
   ·exact may_round h3 (by rw[nmr];omega) (by rw[nmr];omega) (by rw[nmr];omega) (by omega) h hb hy.1 hy.2
 ·simp only[List.mem_cons,List.not_mem_nil,or_false] at hp
  subst hp
  exact rv_ptr (.inl ⟨rfl,by omega⟩)
 ·have n3:=hI.next
  rw[nmr] at n3
  refine rfnQ_normal hI.loop ?_
  have mo:=hI.out
  have n5:m.next<=m2.next:=by omega
  have k6:¬m.next+1=M.next:=by omega
  simp only[XX,XY,F294,yA,yB,yC,n5,mo,k6]
  refine tP rfl λy hy=>?_
  rw[gB,gP,if_neg (by omega),hI.old y (by rw[nmr];omega) (by omega) (by omega),gB,gP,if_neg (by omega),k3.old y nO,gB,gP,if_neg (by omega),gP,if_neg (by omega)]
end
section
variable{m mr M:Mem}{z w:Int×Int}
theorem Zin.wrap{x y:Int}:Zin (wrapZ x,wrapZ y):=⟨wrapZ_in,wrapZ_in⟩
theorem Zin.w1(h:Zin z):Wd (Nf z.1) z.1:=Wd.int (by have:=h.1;omega)
theorem Zin.w2(h:Zin z):Wd (Nf z.2) z.2:=Wd.int (by have:=h.2;omega)
theorem Zin.may(h:Zin z):Con EE.P 294 [zC z] m (.bool true) m:=mayg_ok h.w1 h.w2 h.1 h.2
theorem own_ok(h:Zin z):Con EE.P 230 [zC z] m (zC z) m:=by
 refine Con.of EE_ok fn230 (bA rfl) Grow.rfl λhm=>?_
 simp only[XX,XY,F230,yA,yB,yC]
 refine cZ h.may ?_
 simp only[XX,XY,F230,yA,yB,yC]
 exact tP rfl λ_ _=>rfl
theorem partsg_ok(h:Zin z):Con EE.P 228 [zC z] m (.tuple [In z.1,In z.2].toArray) m:=by
 refine Con.of EE_ok fn228 (bA rfl) Grow.rfl λhm=>?_
 have c1:∀{s e M},EE.P.underlying e=some (.int .i64)->(EE.P.underlying s).isSome=true->convV EE.P s e (Fv (Nf z.1)) M=some (In z.1):=λh1 h'=>conv_fi h1 h' h.w1 (by have:=h.1;omega)
 have c2:∀{s e M},EE.P.underlying e=some (.int .i64)->(EE.P.underlying s).isSome=true->convV EE.P s e (Fv (Nf z.2)) M=some (In z.2):=λh1 h'=>conv_fi h1 h' h.w2 (by have:=h.2;omega)
 simp only[XX,XY,F228,yA,yB,yC]
 refine cZ h.may ?_
 simp only[XX,XY,F228,yA,yB,yC,XG,zV,c1,c2]
 exact tP rfl λ_ _=>rfl
def w32(x:Int):BitVec 32:=BitVec.ofInt 32 x
theorem w32_wrap{x:Int}:IntKind.u32.wrap x=((w32 x).toNat:Int):=by
 rw[wrap_u32]
 unfold w32
 rw[BitVec.toNat_ofInt]
 omega
theorem wordsg_ok(h:Zin z):Con EE.P 172 [zC z] m (.tuple [Um (w32 z.1),Um (w32 z.2)].toArray) m:=by
 refine Con.of EE_ok fn172 (bA rfl) Grow.rfl λhm=>?_
 simp only[XX,XY,F172,yA,yB,yC]
 refine cZ (partsg_ok h) ?_
 have hw:= @w32_wrap
 simp only[XX,XY,F172,yA,yB,yC,XG,hw]
 exact tP rfl λ_ _=>rfl
theorem un_negZ{P:Program}{k:IntKind}{a:Int}:unV P .neg (.int k a)=some (.int k (k.wrap (-a))):=by
 have e:unV P .neg (.int k a)=some (.int k (k.wrap (0-a))):=by cases k<;>rfl
 rw[e,Int.zero_sub]
theorem conj_ok(h:Zin z):Con EE.P 175 [zC z] m (zC (wrapZ z.1,wrapZ (-z.2))) m:=by
 refine Con.of EE_ok fn175 (bA rfl) Grow.rfl λhm=>?_
 simp only[XX,XY,F175,yA,yB,yC]
 refine cZ (partsg_ok h) ?_
 have hw:IntKind.i64.wrap (-z.2)= -z.2:=wrap_i64 (by have:=h.2;omega) (by have:=h.2;omega)
 simp only[XX,XY,F175,yA,yB,yC,un_negZ,hw]
 refine cZ makeg_ok ?_
 simp only[XX,XY,yA,yB]
 exact tP rfl λ_ _=>rfl
theorem addg_ok(h:Zin z)(g:Zin w):Con EE.P 173 [zC z,zC w] m (zC (wrapZ (z.1+w.1),wrapZ (z.2+w.2))) m:=by
 refine Con.of EE_ok fn173 (bA rfl) Grow.rfl λhm=>?_
 have h1:=h.1
 have h2:=h.2
 have g1:=g.1
 have g2:=g.2
 obtain⟨a,a1,a2⟩:=h.w1.add g.w1 (by omega)
 obtain⟨b,b1,b2⟩:=h.w2.add g.w2 (by omega)
 have hb:∀{ty},binV EE.P .add ty (zC z) (zC w)=some (Cv a b):=binc_add a1 b1
 simp only[XX,XY,F173,yA,yB,yC]
 refine cZ (own_ok h) ?_
 simp only[XX,XY,F173,yA,yB]
 refine CallI.con1 (own_ok g) (λe _=>by injection e with e;exact⟨e,rfl⟩) ?_
 simp only[XX,XY,F173,yA,yB,hb]
 refine CallI.con (fit_ok a2 b2 (by omega) (by omega)) (by simp) ?_
 simp only[XX,XY,yA,yB]
 exact tP rfl λ_ _=>rfl
theorem abs_mul{x y:Int}(hx: -524288<=x∧x<524288)(hy: -524288<=y∧y<524288):(x*y).natAbs<=274877906944:=by
 rw[Int.natAbs_mul]
 exact Nat.mul_le_mul (show x.natAbs<=524288 by omega) (show y.natAbs<=524288 by omega)
theorem mulg_ok(h:Zin z)(g:Zin w):Con EE.P 174 [zC z,zC w] m (zC (wrapZ (z.1*w.1-z.2*w.2),wrapZ (z.1*w.2+z.2*w.1))) m:=by
 refine Con.of EE_ok fn174 (bA rfl) Grow.rfl λhm=>?_
 have q1:=abs_mul h.1 g.1
 have q2:=abs_mul h.2 g.2
 have q3:=abs_mul h.1 g.2
 have q4:=abs_mul h.2 g.1
 obtain⟨p,p1,p2⟩:=h.w1.mul g.w1 (by omega)
 obtain⟨q,r1,r2⟩:=h.w2.mul g.w2 (by omega)
 obtain⟨r,s1,s2⟩:=h.w1.mul g.w2 (by omega)
 obtain⟨o,t1,t2⟩:=h.w2.mul g.w1 (by omega)
 obtain⟨a,a1,a2⟩:=p2.sub r2 (by omega)
 obtain⟨b,b1,b2⟩:=s2.add t2 (by omega)
 have hb:∀{ty},binV EE.P .mul ty (zC z) (zC w)=some (Cv a b):=binc_mul p1 r1 s1 t1 a1 b1
 simp only[XX,XY,F174,yA,yB,yC]
 refine cZ (own_ok h) ?_
 simp only[XX,XY,F174,yA,yB]
 refine CallI.con1 (own_ok g) (λe _=>by injection e with e;exact⟨e,rfl⟩) ?_
 simp only[XX,XY,F174,yA,yB,hb]
 refine CallI.con (fit_ok a2 b2 (by omega) (by omega)) (by simp) ?_
 simp only[XX,XY,yA,yB]
 exact tP rfl λ_ _=>rfl
end
section
variable{P:Program}{ty:TypeId}{m:Mem}{a b:BitVec 32}
theorem uu_and:binV P .and ty (Um a) (Um b)=some (Um (a&&&b)):=(hold_and_u32 (P:=P) (ds:=[]) (t:=ty) (x:=U a) (y:=U b) (v:=U (a&&&b)) rfl rfl rfl rfl).2
theorem uu_or:binV P .or ty (Um a) (Um b)=some (Um (a|||b)):=(hold_or_u32 (P:=P) (ds:=[]) (t:=ty) (x:=U a) (y:=U b) (v:=U (a|||b)) rfl rfl rfl rfl).2
theorem uu_xor:binV P .xor ty (Um a) (Um b)=some (Um (a ^^^ b)):=by
 show runV P (binOp .xor ty (U a) (U b))=_
 exact bits_u32 (show Op.intBits .xor .u32 _ _=_ by simp only[Op.intBits];show pure (Value.int .u32 (IntKind.u32.wrap ((BitVec.ofInt 32 _ ^^^ BitVec.ofInt 32 _).toNat:Int)))=_;rw[ofInt32,ofInt32])
theorem and_31:binV P .and ty (Um a) (.int .u32 31)=some (Um (a&&&31#32)):=uu_and (b:=31#32)
theorem and_15:binV P .and ty (Um a) (.int .u32 15)=some (Um (a&&&15#32)):=uu_and (b:=15#32)
theorem and_65535:binV P .and ty (Um a) (.int .u32 65535)=some (Um (a&&&65535#32)):=uu_and (b:=65535#32)
theorem uu_shl{yk:IntKind}{k:Int}(hk:0<=k):binV P .shl ty (Um a) (.int yk k)=some (Um (a<<<k.toNat)):=(hold_shl_u32 (P:=P) (ds:=[]) (t:=ty) (x:=U a) (y:= .int yk k) (v:=U (a<<<k.toNat)) rfl rfl rfl rfl hk).2
theorem uu_shr{yk:IntKind}{k:Int}(hk:0<=k):binV P .shr ty (Um a) (.int yk k)=some (Um (a>>>k.toNat)):=(hold_shr_u32 (P:=P) (ds:=[]) (t:=ty) (x:=U a) (y:= .int yk k) (v:=U (a>>>k.toNat)) rfl rfl rfl rfl hk).2
theorem sub32{a b:BitVec 32}:IntKind.u32.wrap ((a.toNat:Int)-(b.toNat:Int))=((a-b).toNat:Int):=by
 rw[wrap_u32,BitVec.toNat_sub];omega
theorem add32{a b:BitVec 32}:IntKind.u32.wrap ((a.toNat:Int)+(b.toNat:Int))=((a+b).toNat:Int):=by
 rw[wrap_u32,BitVec.toNat_add];omega
theorem mul32{a b:BitVec 32}:IntKind.u32.wrap ((a.toNat:Int)*(b.toNat:Int))=((a*b).toNat:Int):=by
 rw[wrap_u32,BitVec.toNat_mul,Int.natCast_emod,Int.natCast_mul]
 have e:((2 ^ 32:Nat):Int)=4294967296:=by decide
 rw[e]
theorem eq32{a b:BitVec 32}:decide ((a.toNat:Int)=(b.toNat:Int))=decide (a=b):=by
 by_cases h:a=b
 ·simp[h]
 ·rw[decide_eq_false h,decide_eq_false λe=>h (BitVec.eq_of_toNat_eq (by omega))]
def tr(c:Bool):BitVec 32:=if c then 1#32 else 0#32
def w16(x:Int):BitVec 32:=w32 (IntKind.u16.wrap x)
structure Ins where
 op:Int
 a:Int
 b:Int
 imm:Int
def insL(x:Ins):List Value:=[In x.op,In x.a,In x.b,In x.imm]
def countX(x:Ins)(a b:BitVec 32):Option (BitVec 32):=
 if x.op=1 then some (w32 x.imm)
 else if x.op=2 then some ((w16 x.imm<<<16)|||(a&&&65535#32))
 else if x.op=3 then some b
 else if x.op=4 then some (a+b)
 else if x.op=5 then some (a-b)
 else if x.op=6 then some (a*b)
 else if x.op=7 then some (a&&&b)
 else if x.op=8 then some (a|||b)
 else if x.op=9 then some (a ^^^ b)
 else if x.op=10 then some (a<<<(b&&&31#32).toNat)
 else if x.op=11 then some (a>>>(b&&&31#32).toNat)
 else if x.op=12 then some (a+w32 x.imm)
 else if x.op=13 then some (tr (decide (s32 a<s32 b)))
 else if x.op=14 then some (tr (decide (a=b)))
 else none
theorem truth_ok{c:Bool}:Con EE.P 176 [.bool c] m (Um (tr c)) m:=by
 refine Con.of EE_ok fn176 (bA rfl) Grow.rfl λhm=>?_
 cases c with
 |true=>
  simp only[XX,XY,F176,yA,yB,yC]
  exact tP rfl λ_ _=>rfl
 |false=>
  simp only[XX,XY,F176,yA,yB,yC]
  exact tP rfl λ_ _=>rfl
def cntV(o:Option (BitVec 32)):Value:= .tuple [Um (o.getD 0#32), .bool o.isSome].toArray
theorem count_1{x:Ins}(h:x.op=1):Con EE.P 129 [.agg (insL x).toArray,Um a,Um b] m (cntV (countX x a b)) m:=by
 obtain⟨op,xa,xb,imm⟩:=x
 simp only at h
 subst h
 have hc:countX ⟨1,xa,xb,imm⟩ a b=some ((w32 imm)):=rfl
 rw[hc]
 refine Con.of EE_ok fn129 (bA rfl) Grow.rfl λhm=>?_
 have w32_wrp:= @w32_wrap
 simp only[XX,XY,F129,yA,yB,yC,XG,insL,w32_wrp]
 exact tP rfl λy hy=>by simp only[gB,gP];rw[if_neg (by omega)]
theorem count_2{x:Ins}(h:x.op=2):Con EE.P 129 [.agg (insL x).toArray,Um a,Um b] m (cntV (countX x a b)) m:=by
 obtain⟨op,xa,xb,imm⟩:=x
 simp only at h
 subst h
 have hc:countX ⟨2,xa,xb,imm⟩ a b=some (((w16 imm<<<16)|||(a&&&65535#32))):=rfl
 rw[hc]
 refine Con.of EE_ok fn129 (bA rfl) Grow.rfl λhm=>?_
 have w32_wrp:= @w32_wrap
 have ew16:∀y,(IntKind.u32.wrap (IntKind.u16.wrap y))=((w16 y).toNat:Int):=λy=>w32_wrap
 have uu_shl16:∀{P ty a},binV P .shl ty (Um a) (.int .u64 16)=some (Um (a<<<16)):=uu_shl (by decide)
 simp only[XX,XY,F129,yA,yB,yC,yH,XG,insL,w32_wrp,uu_or,uu_shl16,and_65535]
 exact tP rfl λy hy=>by simp only[gB,gP];rw[if_neg (by omega)]
theorem count_3{x:Ins}(h:x.op=3):Con EE.P 129 [.agg (insL x).toArray,Um a,Um b] m (cntV (countX x a b)) m:=by
 obtain⟨op,xa,xb,imm⟩:=x
 simp only at h
 subst h
 have hc:countX ⟨3,xa,xb,imm⟩ a b=some (b):=rfl
 rw[hc]
 refine Con.of EE_ok fn129 (bA rfl) Grow.rfl λhm=>?_
 have w32_wrp:= @w32_wrap
 simp only[XX,XY,F129,yA,yB,yC,yH,insL]
 exact tP rfl λy hy=>by simp only[gB,gP];rw[if_neg (by omega)]
theorem count_4{x:Ins}(h:x.op=4):Con EE.P 129 [.agg (insL x).toArray,Um a,Um b] m (cntV (countX x a b)) m:=by
 obtain⟨op,xa,xb,imm⟩:=x
 simp only at h
 subst h
 have hc:countX ⟨4,xa,xb,imm⟩ a b=some ((a+b)):=rfl
 rw[hc]
 refine Con.of EE_ok fn129 (bA rfl) Grow.rfl λhm=>?_
 have w32_wrp:= @w32_wrap
 simp only[XX,XY,F129,yA,yB,yC,yH,insL,add32]
 exact tP rfl λy hy=>by simp only[gB,gP];rw[if_neg (by omega)]
theorem count_5{x:Ins}(h:x.op=5):Con EE.P 129 [.agg (insL x).toArray,Um a,Um b] m (cntV (countX x a b)) m:=by
 obtain⟨op,xa,xb,imm⟩:=x
 simp only at h
 subst h
 have hc:countX ⟨5,xa,xb,imm⟩ a b=some ((a-b)):=rfl
 rw[hc]
 refine Con.of EE_ok fn129 (bA rfl) Grow.rfl λhm=>?_
 have w32_wrp:= @w32_wrap
 simp only[XX,XY,F129,yA,yB,yC,yH,insL,sub32]
 exact tP rfl λy hy=>by simp only[gB,gP];rw[if_neg (by omega)]
theorem count_6{x:Ins}(h:x.op=6):Con EE.P 129 [.agg (insL x).toArray,Um a,Um b] m (cntV (countX x a b)) m:=by
 obtain⟨op,xa,xb,imm⟩:=x
 simp only at h
 subst h
 have hc:countX ⟨6,xa,xb,imm⟩ a b=some ((a*b)):=rfl
 rw[hc]
 refine Con.of EE_ok fn129 (bA rfl) Grow.rfl λhm=>?_
 have w32_wrp:= @w32_wrap
 simp only[XX,XY,F129,yA,yB,yC,yH,insL,mul32]
 exact tP rfl λy hy=>by simp only[gB,gP];rw[if_neg (by omega)]
theorem count_7{x:Ins}(h:x.op=7):Con EE.P 129 [.agg (insL x).toArray,Um a,Um b] m (cntV (countX x a b)) m:=by
 obtain⟨op,xa,xb,imm⟩:=x
 simp only at h
 subst h
 have hc:countX ⟨7,xa,xb,imm⟩ a b=some ((a&&&b)):=rfl
 rw[hc]
 refine Con.of EE_ok fn129 (bA rfl) Grow.rfl λhm=>?_
 have w32_wrp:= @w32_wrap
 simp only[XX,XY,F129,yA,yB,yC,yH,insL,uu_and]
 exact tP rfl λy hy=>by simp only[gB,gP];rw[if_neg (by omega)]
theorem count_8{x:Ins}(h:x.op=8):Con EE.P 129 [.agg (insL x).toArray,Um a,Um b] m (cntV (countX x a b)) m:=by
 obtain⟨op,xa,xb,imm⟩:=x
 simp only at h
 subst h
 have hc:countX ⟨8,xa,xb,imm⟩ a b=some ((a|||b)):=rfl
 rw[hc]
 refine Con.of EE_ok fn129 (bA rfl) Grow.rfl λhm=>?_
 have w32_wrp:= @w32_wrap
 simp only[XX,XY,F129,yA,yB,yC,yH,insL,uu_or]
 exact tP rfl λy hy=>by simp only[gB,gP];rw[if_neg (by omega)]
theorem count_9{x:Ins}(h:x.op=9):Con EE.P 129 [.agg (insL x).toArray,Um a,Um b] m (cntV (countX x a b)) m:=by
 obtain⟨op,xa,xb,imm⟩:=x
 simp only at h
 subst h
 have hc:countX ⟨9,xa,xb,imm⟩ a b=some ((a ^^^ b)):=rfl
 rw[hc]
 refine Con.of EE_ok fn129 (bA rfl) Grow.rfl λhm=>?_
 have w32_wrp:= @w32_wrap
 simp only[XX,XY,F129,yA,yB,yC,yH,insL,uu_xor]
 exact tP rfl λy hy=>by simp only[gB,gP];rw[if_neg (by omega)]
theorem count_10{x:Ins}(h:x.op=10):Con EE.P 129 [.agg (insL x).toArray,Um a,Um b] m (cntV (countX x a b)) m:=by
 obtain⟨op,xa,xb,imm⟩:=x
 simp only at h
 subst h
 have hc:countX ⟨10,xa,xb,imm⟩ a b=some ((a<<<(b&&&31#32).toNat)):=rfl
 rw[hc]
 refine Con.of EE_ok fn129 (bA rfl) Grow.rfl λhm=>?_
 have w32_wrp:= @w32_wrap
 have uu_shl31:∀{P ty a} {b:BitVec 32},binV P .shl ty (Um a) (Um b)=some (Um (a<<<b.toNat)):=uu_shl (Int.natCast_nonneg _)
 simp only[XX,XY,F129,yA,yB,yC,yH,insL,and_31,uu_shl31]
 exact tP rfl λy hy=>by simp only[gB,gP];rw[if_neg (by omega)]
theorem count_11{x:Ins}(h:x.op=11):Con EE.P 129 [.agg (insL x).toArray,Um a,Um b] m (cntV (countX x a b)) m:=by
 obtain⟨op,xa,xb,imm⟩:=x
 simp only at h
 subst h
 have hc:countX ⟨11,xa,xb,imm⟩ a b=some ((a>>>(b&&&31#32).toNat)):=rfl
 rw[hc]
 refine Con.of EE_ok fn129 (bA rfl) Grow.rfl λhm=>?_
 have w32_wrp:= @w32_wrap
 have uu_shr31:∀{P ty a} {b:BitVec 32},binV P .shr ty (Um a) (Um b)=some (Um (a>>>b.toNat)):=uu_shr (Int.natCast_nonneg _)
 simp only[XX,XY,F129,yA,yB,yC,yH,insL,and_31,uu_shr31]
 exact tP rfl λy hy=>by simp only[gB,gP];rw[if_neg (by omega)]
theorem count_12{x:Ins}(h:x.op=12):Con EE.P 129 [.agg (insL x).toArray,Um a,Um b] m (cntV (countX x a b)) m:=by
 obtain⟨op,xa,xb,imm⟩:=x
 simp only at h
 subst h
 have hc:countX ⟨12,xa,xb,imm⟩ a b=some ((a+w32 imm)):=rfl
 rw[hc]
 refine Con.of EE_ok fn129 (bA rfl) Grow.rfl λhm=>?_
 have w32_wrp:= @w32_wrap
 simp only[XX,XY,F129,yA,yB,yC,yH,XG,insL,w32_wrp]
 exact tP rfl λy hy=>by simp only[gB,gP];rw[if_neg (by omega)]
theorem count_13{x:Ins}(h:x.op=13):Con EE.P 129 [.agg (insL x).toArray,Um a,Um b] m (cntV (countX x a b)) m:=by
 obtain⟨op,xa,xb,imm⟩:=x
 simp only at h
 subst h
 have hc:countX ⟨13,xa,xb,imm⟩ a b=some ((tr (decide (s32 a<s32 b)))):=rfl
 rw[hc]
 refine Con.of EE_ok fn129 (bA rfl) Grow.rfl λhm=>?_
 have w32_wrp:= @w32_wrap
 simp only[XX,XY,F129,yA,yB,yC,yH,XG,insL]
 refine cZ truth_ok ?_
 simp only[XX,XY,yA,yB]
 exact tP rfl λy hy=>by simp only[gB,gP];rw[if_neg (by omega)]
theorem count_14{x:Ins}(h:x.op=14):Con EE.P 129 [.agg (insL x).toArray,Um a,Um b] m (cntV (countX x a b)) m:=by
 obtain⟨op,xa,xb,imm⟩:=x
 simp only at h
 subst h
 have hc:countX ⟨14,xa,xb,imm⟩ a b=some ((tr (decide (a=b)))):=rfl
 rw[hc]
 refine Con.of EE_ok fn129 (bA rfl) Grow.rfl λhm=>?_
 have w32_wrp:= @w32_wrap
 simp only[XX,XY,F129,yA,yB,yC,yH,insL,eq32]
 refine cZ truth_ok ?_
 simp only[XX,XY,yA,yB]
 exact tP rfl λy hy=>by simp only[gB,gP];rw[if_neg (by omega)]
end
section
variable{P:Program}{E:Env}{n0:Nat}{rd:Option Nat}{base i:Nat}{rest:List (Nat×SOp)}{L:List Inst}{t:List Value}{m:Mem}{K:KI}{ty rt:TypeId}{d:Tmp}
def mxV(P:Program)(v w:Value):Option Value:=if plain v&&plain w then runV P (Builtin.max_ #[] 0 #[v,w]) else none
theorem mxV_i{k:IntKind}{a b:Int}:mxV P (.int k a) (.int k b)=some (.int k (if b>a then b else a)):=by cases k<;>rfl
theorem Z_max [NoSym E]{x y:Operand}{ts:Array TypeId}:XWi E base ((i,⟨some d, .call ⟨.builtin .max,#[x,y],ts⟩,rt,none⟩)::rest) L t m (Q:=K)=okI (mxV E.P (ev x t) (ev y t)) (k:=⟨λv=>XWi E base rest L (t.set d v) m (Q:=K)⟩):=by
 refine propext ?_
 unfold XWi okI
 rw[XW_pure rfl rfl,pureE_none NoSym.h]
 have e:pureA E.P ⟨some d, .call ⟨.builtin .max,#[x,y],ts⟩,rt,none⟩ (ev · t)=mxV E.P (ev x t) (ev y t):=by
  have h1:(#[x,y].map λx=>ev x t)= #[ev x t,ev y t]:=by simp
  simp only[pureA,h1]
  unfold mxV
  simp only[List.all_cons,List.all_nil,Bool.and_true]
  rfl
 rw[e]
 exact Iff.rfl
end
abbrev sT(l:List UInt8):Value:= .string ⟨l.toArray⟩
def formsL:List Value:=[(sT [110,111,112]),(In (-1)),(In (-1)),(.bool false),(sT [108,105]),(In 7),(In (-1)),(.bool true),(sT [108,117,105]),(In 7),(In (-1)),(.bool true),(sT [109,111,118]),(In 7),(In 7),(.bool false),(sT [97,100,100]),(In 7),(In 7),(.bool false),(sT [115,117,98]),(In 7),(In 7),(.bool false),(sT [109,117,108]),(In 7),(In 7),(.bool false),(sT [97,110,100]),(In 7),(In 7),(.bool false),(sT [111,114]),(In 7),(In 7),(.bool false),(sT [120,111,114]),(In 7),(In 7),(.bool false),(sT [115,104,108]),(In 7),(In 7),(.bool false),(sT [115,104,114]),(In 7),(In 7),(.bool false),(sT [97,100,100,105]),(In 7),(In (-1)),(.bool true),(sT [115,108,116]),(In 7),(In 7),(.bool false),(sT [115,101,113]),(In 7),(In 7),(.bool false),(sT [108,119]),(In 7),(In 7),(.bool true),(sT [115,119]),(In 7),(In 7),(.bool true),(sT [108,98]),(In 7),(In 7),(.bool true),(sT [115,98]),(In 7),(In 7),(.bool true),(sT [106,109,112]),(In (-1)),(In (-1)),(.bool true),(sT [106,122]),(In 7),(In (-1)),(.bool true),(sT [106,110,122]),(In 7),(In (-1)),(.bool true),(sT [106,97,108]),(In 7),(In (-1)),(.bool true),(sT [106,114]),(In 7),(In (-1)),(.bool false),(sT [115,121,115]),(In (-1)),(In (-1)),(.bool false),(sT [122,115,101,116]),(In 1),(In 6),(.bool false),(sT [122,103,101,116]),(In 1),(In 6),(.bool false),(sT [122,97,100,100]),(In 1),(In 1),(.bool false),(sT [122,109,117,108]),(In 1),(In 1),(.bool false),(sT [122,99,111,110,106]),(In 1),(In (-1)),(.bool false)]
def formT:List (Int×Int×Bool):=[(-1,-1,false),(7,-1,true),(7,-1,true),(7,7,false),(7,7,false),(7,7,false),(7,7,false),(7,7,false),(7,7,false),(7,7,false),(7,7,false),(7,7,false),(7,-1,true),(7,7,false),(7,7,false),(7,7,true),(7,7,true),(7,7,true),(7,7,true),(-1,-1,true),(7,-1,true),(7,-1,true),(7,-1,true),(7,-1,false),(-1,-1,false),(1,6,false),(1,6,false),(1,1,false),(1,1,false),(1,-1,false)]
def fmA(k:Nat):Int:=(formT.getD k (0,0,false)).1
def fmB(k:Nat):Int:=(formT.getD k (0,0,false)).2.1
def fmI(k:Nat):Bool:=(formT.getD k (0,0,false)).2.2
def fmN(k:Nat):Value:=formsL.getD (k*4) undef
theorem forms_sub{k:Nat}(hk:k<30):(ofL formsL).sub (k*4) 4=some [fmN k,In (fmA k),In (fmB k), .bool (fmI k)]:=by
 rcases k with _|_|_|_|_|_|_|_|_|_|_|_|_|_|_|_|_|_|_|_|_|_|_|_|_|_|_|_|_|_|k<;>first|omega|kernel_rfl
theorem fmN_s{k:Nat}(hk:k<30):∃s,fmN k= .string s:=by
 rcases k with _|_|_|_|_|_|_|_|_|_|_|_|_|_|_|_|_|_|_|_|_|_|_|_|_|_|_|_|_|_|k<;>first|omega|exact⟨_,rfl⟩
section
variable{m:Mem}{op:Int}
def formL(op:Int):List Value:=[fmN op.toNat,In (fmA op.toNat),In (fmB op.toNat), .bool (fmI op.toNat)]
theorem ofi_ok(ht:m.get 0=some (.cells (.ofList formsL) false 1))(h0:0<=op)(h1:op<30):Con EE.P 223 [In op] m (.tuple [.agg (formL op).toArray, .bool true].toArray) m:=by
 refine Con.of EE_ok fn223 (bA rfl) Grow.rfl λhm=>?_
 have h64:=hm.n64
 have hne:∀j,¬0=m.next+j:=λj=>by omega
 have hne0:¬0=m.next:=by omega
 have hq:=forms_sub (k:=op.toNat) (by omega)
 obtain⟨s,hs⟩:=fmN_s (k:=op.toNat) (by omega)
 have d1:decide (op<0)=false:=decide_eq_false (by omega)
 have d2:decide (30<=op)=false:=decide_eq_false (by omega)
 have g2:op<((30:Nat):Int):=by omega
 have hl:formL op=[fmN op.toNat,In (fmA op.toNat),In (fmB op.toNat), .bool (fmI op.toNat)]:=rfl
 rw[hl,hs]
 rw[hs] at hq
 simp only[XX,XY,F223,yA,yB,yC,XG,d1,d2,h0,g2,ht,hne0,hq]
 exact tP rfl λy hy=>by simp only[gB,gP];repeat rw[if_neg (by omega)]
theorem ofn_ok(h1:30<=op):Con EE.P 223 [In op] m (.tuple [.agg [.string ⟨#[]⟩,In 0,In 0, .bool false].toArray, .bool false].toArray) m:=by
 refine Con.of EE_ok fn223 (bA rfl) Grow.rfl λhm=>?_
 have h64:=hm.n64
 have d1:decide (op<0)=false:=decide_eq_false (by omega)
 have d2:decide (30<=op)=true:=decide_eq_true (by omega)
 have b0:buildA EE.P 343 []=some (.agg [.string ⟨#[]⟩,In 0,In 0, .bool false].toArray):=kr
 simp only[XX,XY,F223,yA,yB,yC,XG,d1,d2,b0]
 exact tP rfl λy hy=>by simp only[gB,gP];repeat rw[if_neg (by omega)]
def checkX(x:Ins):Bool:=decide (x.op<30)&&(decide (x.imm=0)||fmI x.op.toNat)&&decide (x.a<=max (fmA x.op.toNat) 0)&&decide (x.b<=max (fmB x.op.toNat) 0)
theorem write4{p q r s w x y z:Value}:(ofL [p,q,r,s]).write 0 [w,x,y,z]=ofL [w,x,y,z]:=rfl
theorem max0{a:Int}:(if(0:Int)>a then 0 else a)=max a 0:=by rw[Int.max_def];split<;>split<;>omega
theorem check_ok{x:Ins}(ht:m.get 0=some (.cells (.ofList formsL) false 1))(h0:0<=x.op)(ha:0<=x.a)(hb:0<=x.b)(hi: -32768<=x.imm∧x.imm<=32767):Con EE.P 166 [.agg (insL x).toArray] m (In (if checkX x then 0 else 30)) m:=by
 obtain⟨op,xa,xb,imm⟩:=x
 simp only at h0 ha hb hi
 obtain⟨i1,i2⟩:=hi
 have hz:= @Z_max
 have hmx:= @mxV_i
 have hm0:= @max0
 have e1:decide (xa<0)=false:=decide_eq_false (by omega)
 have e2:decide (xb<0)=false:=decide_eq_false (by omega)
 refine Con.of EE_ok fn166 (bA rfl) Grow.rfl λhm=>?_
 have h64:=hm.n64
 simp only[XX,XY,F166,yA,yB,yC,insL]
 have ht':∀o j,((m.put m.next o).bump j).get 0=some (.cells (.ofList formsL) false 1):=λo j=>by rw[gB,gP,if_neg (by omega)];exact ht
 by_cases h1:op<30
 ·refine cZ (ofi_ok (ht' _ _) h0 h1) ?_
  obtain⟨s,hs⟩:=fmN_s (k:=op.toNat) (by omega)
  have hl:formL op=[.string s,In (fmA op.toNat),In (fmB op.toNat), .bool (fmI op.toNat)]:=by unfold formL;rw[hs]
  rw[hl]
  have hc:checkX ⟨op,xa,xb,imm⟩=((decide (imm=0)||fmI op.toNat)&&decide (xa<=max (fmA op.toNat) 0)&&decide (xb<=max (fmB op.toNat) 0)):=by unfold checkX;simp only[decide_eq_true h1,Bool.true_and]
  rw[hc]
  generalize fmA op.toNat=fa
  generalize fmB op.toNat=fb
  generalize fmI op.toNat=fi
  have step:∀b1 b2:Bool,decide (xa<=max fa 0)=b1->decide (xb<=max fb 0)=b2->decide (max fa 0<xa)= !b1∧decide (max fb 0<xb)= !b2:=λb1 b2 h1 h2=>by
   subst h1;subst h2
   refine⟨?_,?_⟩
   ·by_cases h:xa<=max fa 0
    ·rw[decide_eq_true h,decide_eq_false (by omega)];rfl
    ·rw[decide_eq_false h,decide_eq_true (by omega)];rfl
   ·by_cases h:xb<=max fb 0
    ·rw[decide_eq_true h,decide_eq_false (by omega)];rfl
    ·rw[decide_eq_false h,decide_eq_true (by omega)];rfl
  obtain⟨b1,q1⟩:∃b1,decide (xa<=max fa 0)=b1:=⟨_,rfl⟩
  obtain⟨b2,q2⟩:∃b2,decide (xb<=max fb 0)=b2:=⟨_,rfl⟩
  obtain⟨d1,d2⟩:=step b1 b2 q1 q2
  rw[q1,q2]
  have d4:decide (-32768<=imm)=true:=decide_eq_true i1
  have d5:decide (imm<=32767)=true:=decide_eq_true i2
  obtain⟨b3,q3⟩:∃b3,decide (imm=0)=b3:=⟨_,rfl⟩
  rw[q3]
  cases b3<;>cases fi<;>cases b1<;>cases b2<;>simp only[Bool.not_true,Bool.not_false] at d1 d2
  all_goals
   simp only[XX,XY,F166,yA,yB,yC,XG,hz,hmx,hm0,write4,e1,e2,d1,d2,d4,d5,q3,Bool.true_or,Bool.false_or,Bool.and_false,Bool.and_true]
   exact tP rfl λy hy=>by simp only[gB,gP];repeat rw[if_neg (by omega)]
 ·have hc:checkX ⟨op,xa,xb,imm⟩=false:=by unfold checkX;simp only[decide_eq_false h1,Bool.false_and]
  rw[hc]
  refine cZ (ofn_ok (by omega)) ?_
  by_cases hi0:imm=0
  ·simp only[XX,XY,F166,yA,yB,yC,write4,hi0]
   exact tP rfl λy hy=>by simp only[gB,gP];repeat rw[if_neg (by omega)]
  ·simp only[XX,XY,F166,yA,yB,yC,write4,hi0]
   exact tP rfl λy hy=>by simp only[gB,gP];repeat rw[if_neg (by omega)]
end
end
end Go.Ab
namespace Go.Ab
noncomputable section
def codesL:List Value:=[(In 1),(sT [69,80,69,82,77]),(In 3),(sT [69,83,82,67,72]),(In 4),(sT [69,73,78,84,82]),(In 9),(sT [69,66,65,68,70]),(In 10),(sT [69,67,72,73,76,68]),(In 11),(sT [69,65,71,65,73,78]),(In 12),(sT [69,78,79,77,69,77]),(In 14),(sT [69,70,65,85,76,84]),(In 16),(sT [69,66,85,83,89]),(In 22),(sT [69,73,78,86,65,76]),(In 23),(sT [69,78,70,73,76,69]),(In 24),(sT [69,77,70,73,76,69]),(In 32),(sT [69,80,73,80,69]),(In 38),(sT [69,78,79,83,89,83]),(In 60),(sT [69,78,79,84,67,76,79,83,69,68])]
def kindsL:List Value:=[(sT []),(In (-1)),(sT [101,120,105,116]),(In 1),(sT [102,111,114,107]),(In 0),(sT [119,97,105,116]),(In 1),(sT [103,101,116,112,105,100]),(In 0),(sT [103,101,116,112,112,105,100]),(In 0),(sT [112,105,112,101]),(In 1),(sT [114,101,97,100]),(In 3),(sT [119,114,105,116,101]),(In 3),(sT [99,108,111,115,101]),(In 1),(sT [100,117,112]),(In 1),(sT [107,105,108,108]),(In 2),(sT [109,97,115,107]),(In 1),(sT [104,97,110,100,108,101]),(In 2),(sT [115,105,103,114,101,116,117,114,110]),(In 0),(sT [102,117,116,101,120,119,97,105,116]),(In 2),(sT [102,117,116,101,120,119,97,107,101]),(In 2),(sT [115,108,101,101,112]),(In 1),(sT [121,105,101,108,100]),(In 0),(sT [109,97,112]),(In 3),(sT [117,110,109,97,112]),(In 2),(sT [97,102,102,105,110,105,116,121]),(In 1),(sT [112,114,105,110,116]),(In 1)]
structure Tb(m:Mem):Prop where
 forms:m.get 0=some (.cells (.ofList formsL) false 1)
 codes:m.get 1=some (.cells (.ofList codesL) false 1)
 kinds:m.get 2=some (.cells (.ofList kindsL) false 1)
theorem Tb.keep{m m':Mem}(h:Tb m)(ho:∀y,y<64->m'.get y=m.get y):Tb m':=⟨(ho 0 (by decide)).trans h.forms,(ho 1 (by decide)).trans h.codes,(ho 2 (by decide)).trans h.kinds⟩
theorem Tb.bump{m:Mem}(h:Tb m)(j:Nat):Tb (m.bump j):=⟨h.forms,h.codes,h.kinds⟩
theorem Tb.put{m:Mem}(h:Tb m){b:Nat}{o:AObj}(hb:64<=b):Tb (m.put b o):=h.keep λy hy=>by rw[gP,if_neg (by omega)]
theorem Tb.fd{m m':Mem}(h:Tb m){D:Nat->Prop}(hf:Fd D m m')(hm:Fresh m)(hd:∀y,D y->64<=y):Tb m':=h.keep λy hy=>hf.old y (by have:=hm.n64;omega) λe=>by have:=hd y e;omega
theorem Tb.nx{m m':Mem}(h:Tb m)(hm:Fresh m)(hn:Nx m m'):Tb m':=h.keep λy hy=>hn.old y (by have:=hm.n64;omega)
end
end Go.Ab
namespace Go.Ab
open Go.Proofs
noncomputable section
set_option maxHeartbeats 4000000
set_option maxRecDepth 10000
section
variable{m m':Mem}{L L':Loc}{X:St}{pid:Int}
def manyN(n:Int):Int:=if n<1∨23<=n then-1 else match kindsL.getD (2*n.toNat+1) undef with
 | .int _ k=>k
 |_=> -1
def kindS(k:Nat):ByteArray:=match kindsL.getD (2*k) undef with
 | .string s=>s
 |_=>⟨#[]⟩
theorem kinds_all:∀k,k<23->kindsL.getD (2*k) undef= .string (kindS k)∧(∃n,kindsL.getD (2*k+1) undef=In n):=by
 intro k hk
 rcases k with _|_|_|_|_|_|_|_|_|_|_|_|_|_|_|_|_|_|_|_|_|_|_|k<;>first|exact⟨rfl,_,rfl⟩|omega
theorem kinds_len:kindsL.length=46:=rfl
theorem kinds_sub{k:Nat}(hk:k<23):(ofL kindsL).sub (k*2) 2=some [.string (kindS k),kindsL.getD (2*k+1) undef]:=by
 have h1:k*2+2<=kindsL.length:=by rw[kinds_len];omega
 rw[sub_ofList h1]
 congr 1
 have e1:kindsL.getD (2*k) undef=kindsL[k*2]'(by omega):=by rw[gD',show 2*k=k*2 by omega,gE' (by omega)];rfl
 have e2:kindsL.getD (2*k+1) undef=kindsL[k*2+1]'(by omega):=by rw[gD',show 2*k+1=k*2+1 by omega,gE' (by omega)];rfl
 rw[<-(kinds_all k hk).1,e1,e2,List.drop_eq_getElem_cons (by omega),List.drop_eq_getElem_cons (by omega)]
 rfl
theorem fv335{s:ByteArray}{n:Int}:fieldV EE.P 335 (.agg [.string s,In n].toArray) 1=some (In n):=kr
theorem of_ok(ht:Tb m){n:Int}:∃s,Con EE.P 213 [In n] m (.agg [.string s,In (manyN n)].toArray) m:=by
 by_cases h:n<1∨23<=n
 ·have e:manyN n= -1:=by unfold manyN;rw[if_pos h]
  refine⟨kindS 0,?_⟩
  rw[e]
  refine Con.of EE_ok fn213 (bA rfl) Grow.rfl λhm=>?_
  have h64:=hm.n64
  have hne:∀j,¬2=m.next+j:=λj=>by omega
  have hne0:¬2=m.next:=by omega
  have hq:=kinds_sub (k:=0) (by decide)
  have e0:kindsL.getD (2*0+1) undef=In (-1):=rfl
  rw[e0] at hq
  simp only[Nat.zero_mul] at hq
  have g1:(0:Int)<=0:=by omega
  have g2:(0:Int)<((23:Nat):Int):=by omega
  rcases h with h|h
  ·have d1:=decide_eq_true h
   simp only[XX,XY,F213,yA,yB,yC,d1,g1,g2,ht.kinds,hne0,hq,Int.toNat_zero,Nat.zero_mul]
   exact tP rfl λy hy=>by simp only[gB,gP];rw[if_neg (by omega),if_neg (by omega)]
  ·have d1:decide (n<1)=false:=decide_eq_false (by omega)
   have d2:=decide_eq_true h
   simp only[XX,XY,F213,yA,yB,yC,d1,d2,g1,g2,ht.kinds,hne0,hq,Int.toNat_zero,Nat.zero_mul]
   exact tP rfl λy hy=>by simp only[gB,gP];rw[if_neg (by omega),if_neg (by omega)]
 ·have hk:n.toNat<23:=by omega
  refine⟨kindS n.toNat,?_⟩
  obtain⟨_,k,ek⟩:=kinds_all n.toNat hk
  have e:manyN n=k:=by unfold manyN;rw[if_neg h,ek]
  rw[e]
  refine Con.of EE_ok fn213 (bA rfl) Grow.rfl λhm=>?_
  have h64:=hm.n64
  have hne:∀j,¬2=m.next+j:=λj=>by omega
  have hne0:¬2=m.next:=by omega
  have hq:=kinds_sub hk
  rw[ek] at hq
  have d1:decide (n<1)=false:=decide_eq_false (by omega)
  have d2:decide (23<=n)=false:=decide_eq_false (by omega)
  have g1:0<=n:=by omega
  have g2:n<((23:Nat):Int):=by omega
  simp only[XX,XY,F213,yA,yB,yC,d1,d2,g1,g2,ht.kinds,hne0,hq]
  exact tP rfl λy hy=>by simp only[gB,gP];rw[if_neg (by omega),if_neg (by omega)]
theorem many_ok(ht:Tb m){n:Int}:Con EE.P 150 [In n] m (In (manyN n)) m:=by
 refine Con.of EE_ok fn150 (bA rfl) Grow.rfl λhm=>?_
 obtain⟨s,ho⟩:=of_ok (m:=m.bump 5) (ht.bump _) (n:=n)
 simp only[XX,XY,F150,yA,yB,yC]
 refine cZ ho ?_
 simp only[XX,XY,yA,yB,fv335]
 exact tP rfl λy hy=>rfl
end
end
end Go.Ab
