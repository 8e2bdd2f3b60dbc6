/- Part. -/
import Derived.Test.YtdhcheegbnnlbaaGreatDoorA10
set_option linter.all false
open Go.Ab.Mem renaming next_bump → bN, next_put → nP, get_bump → gB, get_put → gP
open Nat renaming le_of_ble_eq_true → bA, le_add_right_of_le → lA, lt_of_lt_of_le → lL, le_refl → lR', le_trans → lT
open List renaming getD_eq_getElem?_getD → gD', getElem?_eq_getElem → gE', length_append → aL, append_assoc → aA, getElem?_append_left → aB', getElem?_append_right → aC', getElem?_map → gM', length_map → lM, length_set → sL
open Bool renaming and_eq_true → bT
open Go.Ab.CallI renaming ex2 → cX, con0 → cZ
open Go.Ab.TidyE renaming pure → tP
open Go.Ab.Cells renaming ofList → ofL
open Go.Ab.View renaming temps → vT
open Nat renaming reduceLT → yA, reduceEqDiff → yB, reduceAdd → yC, reduceMul → yD, reduceSub → yE, reducePow → yF, reduceLeDiff → yG
open Int renaming reduceEq → yH, reduceLT → yI, reduceLE → yJ
namespace Go.Ab
open Go.Proofs
noncomputable section
set_option maxHeartbeats 4000000
set_option maxRecDepth 10000
section
variable{m m' mr:Mem}{n:Int}
def manyK(n:Int):Nat:=min 3 (manyN n).toNat
theorem args1_ok{lp c1 z:Nat}{a:List (BitVec 32)}(ha:a.length=3)(hm:Fresh mr)(ht:Tb mr)(hc:mr.get c1=some (.cells (ofL (In n::a.map Um)) true z))(Inv:Nat->Mem->Prop)
  (h0:Inv 0 mr) (hb:∀i M j,Inv i M->Inv i (M.bump j)) (hk:∀i M,Inv i M->M.get c1=mr.get c1∧(∀y,y<64->M.get y=mr.get y)∧Grow mr M)
  (hround:∀(i:Nat) M j,i<3->(i:Int)<manyN n->Inv i M->∃u m',RCon EE.P lp [In i,Um (a.getD i 0#32)] (M.bump j) u m'∧u= .bool true∧M.next+j<=m'.next∧Inv (i+1) m'):
  ∃u m2,Con EE.P 284 [.func (.yield lp) #[] #[],PT c1] mr u m2∧Inv (manyK n) m2:=by
 refine Con.raw EE_ok fn284 (bA rfl) _ ?_
 have hs:(ofL (In n::a.map Um)).sub 1 3=some (a.map Um):=by
  rw[sub_ofList (by simp[ha]),List.drop_one,List.tail_cons,List.take_of_length_le (by simp[ha])]
 have hn:(ofL (In n::a.map Um)).nth 0=some (In n):=by rw[nth_ofList];rfl
 simp only[XX,XY,F284,yA,yB,yC,hc,hs]
 refine WX.loop_of (λk tt M=>∃i:Nat,i<=3∧k=3-i∧tt=T 24 [(7,In i),(6, .agg (a.map Um).toArray),(0, .func (.yield lp) #[] #[]),(1,PT c1)]∧Inv i M∧i<=manyK n∧mr.next<=M.next) ?_ (k:=3) (t1:=T 24 [(7,In (0:Nat)),(6, .agg (a.map Um).toArray),(0, .func (.yield lp) #[] #[]),(1,PT c1)]) (vT ⟨rfl,rfl,rfl,rfl,trivial⟩) ⟨0,by omega,rfl,rfl,hb _ _ _ h0,Nat.zero_le _,by simp⟩
 rintro k tt M ⟨i,hi,rfl,rfl,hI,hik,hnx⟩
 obtain⟨k1,k2,k3⟩:=hk _ _ hI
 have htM:Tb M:=ht.keep k2
 by_cases hi2:i<3
 ·have g1:(i:Int)<3:=by omega
  have g2:(0:Int)<=i:=by omega
  have g3:(i:Int)<((3:Nat):Int):=by omega
  have hw:IntKind.i64.wrap ((i:Int)+1)=((i+1:Nat):Int):=by rw[wrap_i64 (by omega) (by omega)];omega
  have hix:ixV EE.P 214 (.agg (a.map Um).toArray) (In i)=some (Um (a.getD i 0#32)):=by
   rw[ixV_agg und_214 g2 g3,sz_36,lay_36,paG_1,Int.toNat_natCast,Nat.mul_one,gM',gD',gE' (by omega)]
   rfl
  simp only[XX,XY,F284,yA,yB,yC,g1,hix,k1,hc,hn,hnx,lA]
  refine cZ (many_ok (m:=M.bump _) (htM.bump _)) ?_
  by_cases hm3:manyN n<=(i:Int)
  ·have d1:=decide_eq_true hm3
   have e:i=manyK n:=by unfold manyK at hik⊢;omega
   simp only[XX,XY,F284,yA,yB,d1,roundQ_exit]
   rw[<-e]
   exact⟨(hk _ _ (hb _ _ _ hI)).2.2,hb _ _ _ hI⟩
  ·have d1:=decide_eq_false hm3
   simp only[XX,XY,yA,yB,d1]
   refine CallI.rcon (hround i M _ hi2 (by omega) hI) (by simp) λu m' hm'=>?_
   obtain⟨rfl,n3,hI'⟩:=hm'
   have n4:mr.next<=m'.next:=by omega
   simp only[XX,XY,F284,yA,yB,yC,n4,hw,roundQ_normal]
   exact⟨3-(i+1),_,_,by omega,vT (l':=[(7,In ((i+1:Nat):Int)),(6, .agg (a.map Um).toArray),(0, .func (.yield lp) #[] #[]),(1,PT c1)]) ⟨rfl,rfl,rfl,rfl,trivial⟩,i+1,by omega,rfl,rfl,hb _ _ _ hI',by unfold manyK;omega,by simp;omega⟩
 ·have q1:¬(i:Int)<3:=by omega
  have e:i=manyK n:=by unfold manyK at hik⊢;omega
  simp only[XX,XY,F284,yA,yB,q1,hnx,roundQ_exit]
  rw[<-e]
  exact⟨(hk _ _ (hb _ _ _ hI)).2.2,hb _ _ _ hI⟩
theorem args_ok(hm:Fresh m){l:List Value}:∃u m',Con EE.P 214 [.agg l.toArray] m u m'∧∃x,u= .func (.func 284) #[] [PT x].toArray∧m.next<=x∧m'.get x=some (.cells (ofL l) true 0)∧Nx m m':=by
 refine Con.raw EE_ok fn214 (bA rfl) _ ?_
 simp only[XX,XY,F214,yA,yB,yC]
 have hn:Nx m ((m.put m.next (AObj.cells (ofL l) true 0)).bump 4):=⟨by(try simp only[bN,nP]);omega,Fresh.of_low (by have:=hm.n64;(try simp only[bN,nP]);omega) (by repeat(first|exact Low.of hm nO|refine Low.put ?_ nO|refine Low.bump ?_)),λy hy=>by simp only[gB,gP,ne_new0 hy,if_false]⟩
 exact⟨⟨hn.next,λy hy e=>by rw[hn.old y hy,e]⟩,m.next,rfl,lR' _,by simp only[gB,gP,if_true],hn⟩
def headA(i:Nat)(a:List (BitVec 32)):List (BitVec 32):=(List.range 3).map λk=>if k<i then a.getD k 0#32 else 0#32
theorem headA_len{i:Nat}{a:List (BitVec 32)}:(headA i a).length=3:=by simp[headA]
theorem headA_set{i:Nat}{a:List (BitVec 32)}(hi:i<3):(headA i a).set i (a.getD i 0#32)=headA (i+1) a:=by
 unfold headA
 rcases i with _|_|_|i
 ·rfl
 ·rfl
 ·rfl
 ·omega
structure OnI(mr:Mem)(lp o:Nat)(r:ALoop)(n:Int)(a:List (BitVec 32))(i:Nat)(M:Mem):Prop where
 fl:M.get lp=some (.loop r)
 fo:∃co,M.get o=some (.cells co true 0)∧co.sub 0 4=some (In n::(headA i a).map Um)
 next:mr.next<=M.next
 old:∀y,y<mr.next->y≠lp->y≠o->M.get y=mr.get y
 low:∀y,y<mr.next->mr.get y=none->M.get y=none
theorem OnI.bump{lp o:Nat}{r:ALoop}{a:List (BitVec 32)}{i:Nat}{M:Mem}(h:OnI mr lp o r n a i M)(j:Nat):OnI mr lp o r n a i (M.bump j):=⟨h.fl,h.fo,by rw[bN];exact lA h.next,h.old,h.low⟩
abbrev lr151(tt:List Value):ALoop:={state:= .ready,pend:=none,tmps:=tt,ps:=[11,12],assign:=(kO Tryz.f151.body 7),body:=(kO Tryz.f151.body 8)}
theorem only_ok(ht:Tb m){a:List (BitVec 32)}(ha:a.length=3):Con EE.P 151 [.agg (In n::a.map Um).toArray] m (.agg (In n::(headA (manyK n) a).map Um).toArray) m:=by
 refine Con.of EE_ok fn151 (bA rfl) Grow.rfl λhm=>?_
 have h64:=hm.n64
 have hb:buildA EE.P 216 [(0,In n)]=some (.agg [In n,Um 0,Um 0,Um 0].toArray):=kr
 have hn0:(ofL (In n::a.map Um)).nth 0=some (In n):=by rw[nth_ofList];rfl
 have hs0:(ofL (In n::a.map Um)).sub 0 4=some (In n::a.map Um):=by
  rw[sub_ofList (by simp[ha]),List.drop_zero,List.take_of_length_le (by simp[ha])]
 have ne1:¬m.next=m.next+1:=by omega
 have ne2:¬m.next=m.next+6:=by omega
 simp only[XX,XY,F151,yA,yB,yC,hb,hn0,hs0,ne1]
 have hN:Nx m ((((((m.put m.next (AObj.cells (ofL (In n::List.map Um a)) true 0)).put (m.next+1) (AObj.cells (ofL [In 0,Um 0,Um 0,Um 0]) true 0)).put (m.next+5) (AObj.cells (ofL [In 0,Um 0,Um 0,Um 0]) true 0)).put (m.next+5) (AObj.cells ((ofL [In 0,Um 0,Um 0,Um 0]).write 0 [In n,Um 0,Um 0,Um 0]) true 0)).bump 9)):=(nX hm)
 refine cX (args_ok hN.fresh) λu M hA=>?_
 obtain⟨x,rfl,x1,x2,x3⟩:=hA
 have hNM:=hN.trans x3
 have n1:=x3.next
 simp only[bN,nP] at n1 x1
 have o1:M.get (m.next+1)=some (.cells (ofL [In 0,Um 0,Um 0,Um 0]) true 0):=by
  rw[x3.old _ nO]
  (simp only[gB,gP];repeat(first|rw[if_neg (by omega)]|rw[if_pos trivial]|rw[if_pos (by omega)]))
 have o5:M.get (m.next+5)=some (.cells ((ofL [In 0,Um 0,Um 0,Um 0]).write 0 [In n,Um 0,Um 0,Um 0]) true 0):=by
  rw[x3.old _ nO]
  (simp only[gB,gP];repeat(first|rw[if_neg (by omega)]|rw[if_pos trivial]|rw[if_pos (by omega)]))
 have lx:=x3.fresh.lt x2
 simp only[XX,F151,yA]
 have htM:∀o j,Tb ((M.put M.next o).bump j):=λo j=>(((ht.nx hm hNM).put (by omega)).bump j)
 have hfr:∀o,Fresh ((M.put M.next o).bump 1):=λo=>by
  have:=hNM.fresh
  exact Fresh.of_low (by have:=this.n64;simp only[bN,nP];omega) (Low.bump (Low.put (Low.of this nO) nO))
 obtain⟨tt,htt⟩:∃tt,tt=T 18 [(10,Value.func (Fn.func 284) #[] #[PT x]),(9,Value.agg (In n::List.map Um a).toArray),(3,Value.pointer (some {block:=m.next+5,off:=0})),(8,Value.agg #[In n,Um 0,Um 0,Um 0]),(7,In n),(6,Value.pointer (some {block:=m.next,off:=0})),(2,Value.pointer (some {block:=m.next+1,off:=0})),(1,Value.pointer (some {block:=m.next,off:=0})),(0,Value.agg (In n::List.map Um a).toArray)]:=⟨_,rfl⟩
 have hmr:Fresh ((M.put M.next (.loop (lr151 tt))).bump 1):=hfr _
 refine W_rfnx (g:=284) (l':=[(3,PT (m.next+5)),(2,PT (m.next+1))]) (R:=λ_ m2=>OnI ((M.put M.next (.loop (lr151 tt))).bump 1) M.next (m.next+5) (lr151 tt) n a (manyK n) m2) [] [PT x] (by omega) (by simp only[ev_T,lk_cons,Nat.reduceLT,Nat.reduceEqDiff,reduceIte]) kr ?_ (λp hp=>?_) (λ_ m2 hI=>?_)
 ·rw[<-htt]
  refine args1_ok ha hmr (htM _ _) (z:=0) (c1:=x) ?_ (OnI ((M.put M.next (.loop (lr151 tt))).bump 1) M.next (m.next+5) (lr151 tt) n a) ?_ (λi M j h=>h.bump j) (λi M2 h=>?_) (λi M2 j hi him hI=>?_)
  ·rw[gB,gP,if_neg (by omega)];exact x2
  ·refine⟨gA,⟨_,by rw[gB,gP,if_neg (by omega)];exact o5,?_⟩,lR' _,λ_ _ _ _=>rfl,λ_ _ h=>h⟩
   rfl
  ·exact⟨h.old x nO (by omega) (by omega),λy hy=>h.old y nO (by omega) (by omega),h.next,h.low⟩
  ·obtain⟨q1,⟨co,q2,q3⟩,q4,q5,q6⟩:=hI
   simp only[bN,nP] at q4
   refine RCon.of EE_ok (r:=lr151 tt) (by rw[gB];exact q1) rfl rfl ?_
   have hw:=sub_le q3
   have ne5:¬m.next+5=M.next:=by omega
   have ne6:¬M.next=m.next+5:=by omega
   have g1:(0:Int)<=i:=by omega
   have g2:(i:Int)<((3:Nat):Int):=by omega
   have g3:0+1+i*1+1<=co.n:=by omega
   have g4:1+(i+1)<=co.n:=by omega
   rw[htt]
   simp only[XX,XY,F151,yA,yB,yC,yG,q1,q2,ne5,ne6,g1,g2,g4]
   have hwr:(co.write (1+i) [Um (a.getD i 0#32)]).sub 0 4=some (In n::(headA (i+1) a).map Um):=by
    have:=sub_write_in (k:=1+i) (v:=Um (a.getD i 0#32)) q3 (by omega)
    rw[Nat.zero_add] at this
    rw[this,<-headA_set hi,Nat.add_comm 1 i,List.set_cons_succ,List.map_set]
   rw[<-htt]
   have hg:∀o1 o2 o3 J,j<=J->Grow (M2.bump j) ((((M2.put M.next o1).put (m.next+5) o2).put M.next o3).bump J):=λo1 o2 o3 J hJ=>⟨nO,λy hy e=>by
    rw[gB] at e
    rw[gB,gP,if_neg (λe2=>by rw[e2,q1] at e;cases e),gP,if_neg (λe2=>by rw[e2,q2] at e;cases e),gP,if_neg (λe2=>by rw[e2,q1] at e;cases e),e]⟩
   refine⟨hg _ _ _ _ (by omega),⟨gA,⟨_,gA,hwr⟩,nO,λy hy y1 y2=>?_,λy hy e=>?_⟩⟩
   ·rw[<-q5 y hy y1 y2]
    (simp only[gB,gP];repeat(first|rw[if_neg (by omega)]|rw[if_pos trivial]|rw[if_pos (by omega)]))
   ·have hq:=q6 y hy e
    rw[gB,gP,if_neg (λe2=>by rw[e2,q1] at hq;cases hq),gP,if_neg (λe2=>by rw[e2,q2] at hq;cases hq),gP,if_neg (λe2=>by rw[e2,q1] at hq;cases hq),hq]
 ·simp only[List.mem_cons,List.not_mem_nil,or_false] at hp
  rcases hp with rfl|rfl
  ·exact rv_old (by omega)
  ·exact rv_old (by omega)
 ·obtain⟨q1,⟨co,q2,q3⟩,q4,q5,q6⟩:=hI
  simp only[bN,nP] at q4
  refine rfnQ_normal q1 ?_
  have ne5b:¬m.next+5=M.next:=by omega
  have n2:m.next<=m2.next:=by omega
  have o1b:m2.get (m.next+1)=some (.cells (ofL [In 0,Um 0,Um 0,Um 0]) true 0):=by
   rw[q5 _ nO (by omega) (by omega),gB,gP,if_neg (by omega)];exact o1
  have ne1b:¬m.next+1=M.next:=by omega
  have hl4:(headA (manyK n) a).length=3:=headA_len
  have hw4:((ofL [In 0,Um 0,Um 0,Um 0]).write 0 (In n::List.map Um (headA (manyK n) a))).sub 0 4=some (In n::List.map Um (headA (manyK n) a)):=sub_write_same (by simp[hl4]) (by exact lR' _)
  have hall:(In n::List.map Um (headA (manyK n) a)).all oneCell=true:=by simp[oneCell]
  simp only[XX,XY,F151,yA,yB,yC,q2,q3,ne5b,n2,o1b,ne1b,hl4,hw4,hall,lM]
  exact tP (by rcases hl:headA (manyK n) a with _|⟨b0,_|⟨b1,_|⟨b2,l⟩⟩⟩<;>first|(have:=headA_len (i:=manyK n) (a:=a);rw[hl] at this;cases l with|nil=>rfl|cons=>simp at this)|(have:=headA_len (i:=manyK n) (a:=a);rw[hl] at this;simp at this)) λy hy=>by
   (simp only[gB,gP];repeat(first|rw[if_neg (by omega)]|rw[if_pos trivial]|rw[if_pos (by omega)]))
   rw[q5 y nO (by omega) (by omega),gB,gP,if_neg (by omega),hNM.old y hy]
end
section
variable{m m' mr:Mem}{n:Int}{L L':Loc}{X:St}
def ofN(r:List (BitVec 32)):Int:=if manyN (r.getD 0 0#32).toNat<0 then 0 else(r.getD 0 0#32).toNat
def ofA(r:List (BitVec 32)):List (BitVec 32):=if manyN (r.getD 0 0#32).toNat<0 then [0#32,0#32,0#32] else headA (manyK (r.getD 0 0#32).toNat) [r.getD 1 0#32,r.getD 2 0#32,r.getD 3 0#32]
def ofB(r:List (BitVec 32)):Bool:= !decide (manyN (r.getD 0 0#32).toNat<0)
theorem conv_ui{x:BitVec 32}:convV EE.P 36 3 (Um x) m=some (In x.toNat):=by
 rw[conv_int und_3 und_36]
 have:=x.isLt
 rw[wrap_i64 (by omega) (by omega)]
theorem ofA_len{r:List (BitVec 32)}:(ofA r).length=3:=by unfold ofA;split<;>simp[headA]
theorem Of_ok(ht:Tb m){r:List (BitVec 32)}(hr:r.length=8):Con EE.P 103 [.agg (r.map Um).toArray] m (.tuple [.agg (In (ofN r)::(ofA r).map Um).toArray, .bool (ofB r)].toArray) m:=by
 refine Con.of EE_ok fn103 (bA rfl) Grow.rfl λhm=>?_
 have h64:=hm.n64
 have hq:∀k,k<8->(ofL (r.map Um)).nth k=some (Um (r.getD k 0#32)):=λk hk=>by
  rw[nth_ofList,gM',gD',gE' (by omega)];rfl
 have q0:=hq 0 (by decide)
 have q1:=hq 1 (by decide)
 have q2:=hq 2 (by decide)
 have q3:=hq 3 (by decide)
 have g0:(0:Int)<=0:=by decide
 have g1:(0:Int)<=1:=by decide
 have g2:(0:Int)<=2:=by decide
 have g3:(0:Int)<=3:=by decide
 have k0:(0:Int)<((8:Nat):Int):=by decide
 have k1:(1:Int)<((8:Nat):Int):=by decide
 have k2:(2:Int)<((8:Nat):Int):=by decide
 have k3:(3:Int)<((8:Nat):Int):=by decide
 have b1:∀x y z:BitVec 32,buildA EE.P 214 [(0,Um x),(1,Um y),(2,Um z)]=some (.agg [Um x,Um y,Um z].toArray):=λx y z=>by kernel_rfl
 have b2:∀(n:Int) (x y z:BitVec 32),buildA EE.P 216 [(0,In n),(1, .agg [Um x,Um y,Um z].toArray)]=some (.agg [In n,Um x,Um y,Um z].toArray):=λn x y z=>by kernel_rfl
 have t0:Int.toNat 0=0:=rfl
 have t1:Int.toNat 1=1:=rfl
 have t2:Int.toNat 2=2:=rfl
 have t3:Int.toNat 3=3:=rfl
 simp only[XX,XY,F103,yA,yB,yC,q0,q1,q2,q3,g0,g1,g2,g3,k0,k1,k2,k3,b1,b2,conv_ui,t0,t1,t2,t3]
 refine cZ (many_ok (by repeat(first|exact ht|refine Tb.bump ?_ _|refine Tb.put ?_ (by omega)))) ?_
 have b0:buildA EE.P 216 []=some (.agg [In 0,Um 0#32,Um 0#32,Um 0#32].toArray):=kr
 have ne1:¬m.next+1=m.next+14:=by omega
 have ne2:¬m.next+14=m.next+1:=by omega
 have ne3:¬m.next+1=m.next:=by omega
 by_cases hc:manyN (r.getD 0 0#32).toNat<0
 ·have d1:=decide_eq_true hc
  have e1:ofN r=0:=by unfold ofN;rw[if_pos hc]
  have e2:ofA r=[0#32,0#32,0#32]:=by unfold ofA;rw[if_pos hc]
  have e3:ofB r=false:=by unfold ofB;rw[d1];rfl
  rw[e1,e2,e3]
  simp only[XX,XY,F103,yA,yB,yC,d1,b0,ne1,ne3]
  exact tP rfl λy hy=>gA
 ·have d1:=decide_eq_false hc
  have e1:ofN r=(r.getD 0 0#32).toNat:=by unfold ofN;rw[if_neg hc]
  have e2:ofA r=headA (manyK (r.getD 0 0#32).toNat) [r.getD 1 0#32,r.getD 2 0#32,r.getD 3 0#32]:=by unfold ofA;rw[if_neg hc]
  have e3:ofB r=true:=by unfold ofB;rw[d1];rfl
  rw[e1,e2,e3]
  have hw4:((ofL [In 0,Um 0,Um 0,Um 0]).write 0 [In (r.getD 0 0#32).toNat,Um (r.getD 1 0#32),Um (r.getD 2 0#32),Um (r.getD 3 0#32)]).sub 0 4=some [In (r.getD 0 0#32).toNat,Um (r.getD 1 0#32),Um (r.getD 2 0#32),Um (r.getD 3 0#32)]:=sub_write_same rfl (lR' _)
  simp only[XX,XY,F103,yA,yB,yC,d1,ne2]
  refine CallI.con (only_ok (a:=[r.getD 1 0#32,r.getD 2 0#32,r.getD 3 0#32]) (by repeat(first|exact ht|refine Tb.bump ?_ _|refine Tb.put ?_ (by omega))) rfl) (by simp) ?_
  have hl:(headA (manyK (r.getD 0 0#32).toNat) [r.getD 1 0#32,r.getD 2 0#32,r.getD 3 0#32]).length=3:=headA_len
  generalize headA (manyK (r.getD 0 0#32).toNat) [r.getD 1 0#32,r.getD 2 0#32,r.getD 3 0#32]=l at hl
  obtain⟨b0,b1,b2,rfl⟩:∃b0 b1 b2,l=[b0,b1,b2]:=by
   match l,hl with
   |[b0,b1,b2],_=>exact⟨b0,b1,b2,rfl⟩
  simp only[XX,XY,F103,yA,yB,yC,ne1,ne3]
  exact tP rfl λy hy=>gA
end
section
variable{m m' mr:Mem}{n:Int}{L L':Loc}{X:St}
def codeN(k:Nat):Int:=match codesL.getD (2*k) undef with
 | .int _ n=>n
 |_=>0
def codeT(k:Nat):ByteArray:=match codesL.getD (2*k+1) undef with
 | .string s=>s
 |_=>⟨#[]⟩
theorem codes_len:codesL.length=30:=rfl
theorem codes_at:∀k,k<15->(codesL.drop (k*2)).take 2=[In (codeN k), .string (codeT k)]:=by
 intro k hk
 rcases k with _|_|_|_|_|_|_|_|_|_|_|_|_|_|_|k<;>first|rfl|omega
def codeI(c:Int):Option Nat:=(List.range 15).find? λk=>decide (codeN k=c)
def codeS(c:Int):ByteArray:=match codeI c with
 |some k=>codeT k
 |none=>⟨#[]⟩
theorem Code_ok(ht:Tb m){c:Int}:Con EE.P 192 [In c] m (.string (codeS c)) m:=by
 refine Con.of EE_ok fn192 (bA rfl) Grow.rfl λhm=>?_
 have h64:=hm.n64
 have hs:(ofL codesL).sub 0 30=some codesL:=by
  rw[sub_ofList (by rw[codes_len];decide),List.drop_zero,List.take_of_length_le (by rw[codes_len];decide)]
 simp only[XX,XY,F192,yA,yC,ht.codes,hs]
 refine WX.loop_of (λk tt M=>∃i:Nat,i<=15∧k=15-i∧tt=T 16 [(6,In i),(5, .agg codesL.toArray),(0,In c)]∧(∀k,k<i->decide (codeN k=c)=false)∧m.next<=M.next∧∀y,y<m.next->M.get y=m.get y) ?_ (k:=15) (t1:=T 16 [(6,In (0:Nat)),(5, .agg codesL.toArray),(0,In c)]) (vT ⟨rfl,rfl,rfl,trivial⟩) ⟨0,by omega,rfl,rfl,λk hk=>by omega,by simp,λ_ _=>rfl⟩
 rintro k tt M ⟨i,hi,rfl,rfl,hf,hn,ho⟩
 by_cases hi2:i<15
 ·have g1:(i:Int)<15:=by omega
  have g2:(0:Int)<=i:=by omega
  have g3:(i:Int)<((15:Nat):Int):=by omega
  have hw:IntKind.i64.wrap ((i:Int)+1)=((i+1:Nat):Int):=by rw[wrap_i64 (by omega) (by omega)];omega
  have hix:ixV EE.P 361 (.agg codesL.toArray) (In i)=some (.agg [In (codeN i), .string (codeT i)].toArray):=by
   rw[ixV_agg und_361 g2 g3,sz_360,lay_360,paG_N,Int.toNat_natCast,codes_at i hi2]
  have hstr:∀s:ByteArray,oneCell (.string s)=true:=λ_=>rfl
  have hq1:((ofL [In 0, .string ⟨#[]⟩]).write 0 [In (codeN i), .string (codeT i)]).nth 1=some (.string (codeT i)):=rfl
  cases hp:decide (codeN i=c) with
  |true=>
   have e:codeS c=codeT i:=by
    unfold codeS codeI
    have:(List.range 15).find? (λk=>decide (codeN k=c))=some i:=by
     rw[List.find?_range_eq_some]
     exact⟨hp,List.mem_range.2 hi2,λj hj=>by rw[hf j hj];rfl⟩
    rw[this]
   rw[e]
   simp only[XX,XY,F192,yA,yB,yC,g1,hix,hn,hp,hq1,roundQ_ret,lA]
   exact tP rfl λy hy=>by(simp only[gB,gP];repeat(first|rw[if_neg (by omega)]|rw[if_pos trivial]|rw[if_pos (by omega)]));exact ho y hy
  |false=>
   simp only[XX,XY,F192,yA,yB,yC,g1,hix,hn,hp,hw,roundQ_normal,lA]
   refine⟨15-(i+1),_,_,by omega,vT (l':=[(6,In ((i+1:Nat):Int)),(5, .agg codesL.toArray),(0,In c)]) ⟨rfl,rfl,rfl,trivial⟩,i+1,by omega,rfl,rfl,λk hk=>?_,nO,λy hy=>by(simp only[gB,gP];repeat(first|rw[if_neg (by omega)]|rw[if_pos trivial]|rw[if_pos (by omega)]));exact ho y hy⟩
   rcases Nat.lt_or_ge k i with h1|h1
   ·exact hf k h1
   ·rw[show k=i by omega];exact hp
 ·have q1:¬(i:Int)<15:=by omega
  have e:codeS c=⟨#[]⟩:=by
   unfold codeS codeI
   have:(List.range 15).find? (λk=>decide (codeN k=c))=none:=by
    rw[List.find?_range_eq_none]
    exact λj hj=>by rw[hf j (by omega)];rfl
   rw[this]
  rw[e]
  simp only[XX,XY,F192,yA,yB,yC,q1,hn,roundQ_exit,lA]
  exact tP rfl λy hy=>ho y hy
def ansW(c:Int):BitVec 32:=if(codeI c).isSome then BitVec.ofInt 32 (-c) else 0#32
theorem codeT_ne:∀k,k<15->((codeT k).toList==(⟨#[]⟩:ByteArray).toList)=false:=by
 intro k hk
 rw[ByteArray.toList_eq,ByteArray.toList_eq]
 rcases k with _|_|_|_|_|_|_|_|_|_|_|_|_|_|_|k<;>first|rfl|omega
theorem eq_str{x y:Operand}{a b:ByteArray}:eqA EE.P .eql 9 x y (.string a) (.string b) m=some (.bool (a.toList==b.toList)):=by
 have hp:∀c:ByteArray,plain (.string c)=true:=λ_=>rfl
 unfold eqA
 simp only[hp,Bool.and_self,if_true]
 rfl
theorem un_neg{k:IntKind}{n:Int}:unV EE.P .neg (.int k n)=some (.int k (k.wrap (0-n))):=by cases k<;>rfl
theorem un_neg32{c:Int}:unV EE.P .neg (.int .u32 (IntKind.u32.wrap c))=some (Um (BitVec.ofInt 32 (-c))):=by
 rw[un_neg]
 congr 2
 rw[wrap_u32,wrap_u32,BitVec.toNat_ofInt]
 omega
theorem conv_iu{c:Int}:convV EE.P 3 36 (In c) m=some (.int .u32 (IntKind.u32.wrap c)):=by
 rw[conv_int und_36 und_3]
theorem ans_ok(ht:Tb m){c:Int}:Con EE.P 135 [In c] m (Um (ansW c)) m:=by
 refine Con.of EE_ok fn135 (bA rfl) Grow.rfl λhm=>?_
 simp only[XX,XY,F135,yA,yB,yC]
 refine cZ (Code_ok (by repeat(first|exact ht|refine Tb.bump ?_ _|refine Tb.put ?_ (by omega)))) ?_
 unfold ansW codeS
 cases hc:codeI c with
 |none=>
  have e0:((⟨#[]⟩:ByteArray).toList==(⟨#[]⟩:ByteArray).toList)=true:=beq_self_eq_true _
  simp only[XX,XY,F135,yA,yB,yC,eq_str,Option.isSome_none]
  exact tP rfl λ_ _=>rfl
 |some k=>
  have hk:k<15:=by
   have:=List.mem_of_find?_eq_some hc
   exact List.mem_range.1 this
  have e0:=codeT_ne k hk
  simp only[XX,XY,F135,yA,yB,yC,eq_str,e0,conv_iu,un_neg32]
  exact tP rfl λ_ _=>rfl
end
section
variable{m m' mr:Mem}{n:Int}{L L':Loc}{X:St}
theorem eqvP{b o:Nat}:EE.eqv (.pointer (some ⟨b,o,none⟩)) (.pointer (some ⟨b,o,none⟩))=true:=by
 show vEqL 8 _ _=true
 simp[vEqL,vEq,vEqN]
def seeX(X:St)(i:Nat)(kind call:Int)(v:BitVec 32):St:={X with seen:=X.seen++ [⟨(X.p i).pid,kind,call,v⟩]}
theorem el53:ElemOk EE.P 53 113 4 32:=ElemOk.of und_53 kr (z:=[In 0,In 0,In 0,Um 0]) kr rfl (by decide)
theorem FAt.set_sv(h:FAt m L X){M:Mem}{v':Value}{id:Nat}{S:List SeenR}{cf:Cells}(f1:m.get L.f=some (.cells cf true 0))(f2:FC L X cf)(hn:m.next<=M.next)(hid:m.next<=id∧id<M.next)(h64:64<=m.next)
  (hold:∀y,y<m.next->slB L.sv≠some y->M.get y=m.get y) (hsl:SlV M 4 v' S.length (S.flatMap seenL)) (hb:slB v'=slB L.sv∨slB v'=some id∨slB v'=none):
  FAt (M.put L.f (.cells (cf.write 12 [v']) true 0)) {L with sv:=v',D:=λy=>L.D y∨y=id} {X with seen:=S}:=by
 have hi:∀y∈L.ids,M.get y=m.get y:=λy hy=>hold y (h.ids_lt hy) (by
  obtain⟨cs,hc⟩:=h.cell0 hy
  exact h.ss.ne0 (by decide) hc)
 have hsd:∀{n:Nat} {v:Value} {fl:List Value},SlV m 1 v n fl->(∀y,slB v=some y->L.D y)->SlV (M.put L.f (.cells (cf.write 12 [v']) true 0)) 1 v n fl:=λ{n v fl} hv hd=>hv.keep λy o hy ho=>by
  have h1:y≠L.f:=λe=>hv.ne0 (by decide) f1 (by rw[hy,e])
  have h2:slB L.sv≠some y:=λe=>by
   obtain⟨c1,e1⟩:=h.ss.ob e
   obtain⟨c2,e2⟩:=hv.ob hy
   rw[e1] at e2;cases e2
  rw[gP,if_neg h1,hold y (h.lt y (hd y hy)) h2];exact ho
 have hne:∀k,k<X.P.length->¬L.p k=L.f:=λk hk e=>h.f_p hk e.symm
 refine⟨⟨_,by rw[gP,if_pos rfl],?_⟩,λk hk=>?_,λk hk=>?_,λk hk=>?_,λk hk=>?_,λk hk=>?_,h.lP,h.lG,h.lC,h.lI,h.lF,h.lb,h.nd,λy hy=> .inl (h.dm y hy),hsd h.ls h.dl,hsd h.fs h.df,?_,λk hk=>hsd (h.bs k hk) (λy=>h.db k y hk),λy hy=> .inl (h.dl y hy),λy hy=> .inl (h.df y hy),λy hy=>?_,λk y hk hy=> .inl (h.db k y hk hy),h.sep,λy hy=>?_,λy hy=>?_,h.pi,h.pf⟩
 ·exact⟨by rw[write_n,f2.n],(nth_write_ne (.inl (by decide))).trans f2.cores,(nth_write_ne (.inl (by decide))).trans f2.frames,(nth_write_ne (.inl (by decide))).trans f2.procs,(nth_write_ne (.inl (by decide))).trans f2.cap,(nth_write_ne (.inl (by decide))).trans f2.prog,(nth_write_ne (.inl (by decide))).trans f2.lv,(nth_write_ne (.inl (by decide))).trans f2.fv,(nth_write_ne (.inl (by decide))).trans f2.contents,(nth_write_ne (.inl (by decide))).trans f2.files,(nth_write_ne (.inl (by decide))).trans f2.pipes,(nth_write_ne (.inl (by decide))).trans f2.next,(nth_write_ne (.inl (by decide))).trans f2.halted,nth_write_same (by rw[f2.n];decide)⟩
 ·obtain⟨c1,a1,a2⟩:=h.pr k hk;exact⟨c1,by rw[gP,if_neg (λe=>h.f_p hk e.symm),hi _ (h.mp hk)];exact a1,a2.move rfl (λ_ _=>rfl) (λ_ _ _=>rfl) (λ_ _ _=>rfl) (λ_ _=>rfl) λ_ _=>rfl⟩
 ·obtain⟨c1,a1,a2⟩:=h.pg k hk;exact⟨c1,by rw[gP,if_neg (λe=>h.f_g hk e.symm),hi _ (h.mg hk)];exact a1,a2.move rfl⟩
 ·obtain⟨c1,a1,a2⟩:=h.ct k hk;exact⟨c1,by rw[gP,if_neg (λe=>h.f_c hk e.symm),hi _ (h.mc hk)];exact a1,a2.move⟩
 ·obtain⟨c1,a1,a2⟩:=h.ip k hk;exact⟨c1,by rw[gP,if_neg (λe=>h.f_i hk e.symm),hi _ (h.mi hk)];exact a1,a2⟩
 ·obtain⟨c1,a1,a2⟩:=h.xs k hk;exact⟨c1,by rw[gP,if_neg (λe=>h.f_x hk e.symm),hi _ (h.mx hk)];exact a1,a2.move rfl⟩
 ·exact hsl.put0 (by decide) (by rw[hi _ h.mf];exact f1)
 ·rcases hb with e|e|e
  ·exact .inl (h.ds y (e▸hy))
  ·rw[e] at hy;cases hy;exact .inr rfl
  ·rw[e] at hy;cases hy
 ·rcases hy with hy|rfl
  ·exact lL (h.lt y hy) (by rw[nP];exact hn)
  ·rw[nP];exact hid.2
 ·rcases hy with hy|rfl
  ·exact h.d64 y hy
  ·omega
theorem see_ok(h:FAt m L X)(hmF:Fresh m){i:Nat}(hi:i<X.P.length)(hs:X.seen.length<100000){kind call:Int}{v:BitVec 32}:
  ∃u m',Con EE.P 80 [PT (L.p i),In kind,In call,Um v] m u m'∧∃L',FAt m' L' (seeX X i kind call v)∧Lx m.next L L'∧Fd L.D m m':=by
 refine Con.raw EE_ok fn80 (bA rfl) _ ?_
 obtain⟨cs,h1,h2⟩:=h.pr i hi
 obtain⟨cf,f1,f2⟩:=h.fl
 have b1:∀(x y z:Int) (w:BitVec 32),buildA EE.P 113 [(0,In x),(1,In y),(2,In z),(3,Um w)]=some (.agg [In x,In y,In z,Um w].toArray):=λx y z w=>by kernel_rfl
 have b2:∀(x y z:Int) (w:BitVec 32),bsV EE.P 53 1 [(0, .agg [In x,In y,In z,Um w].toArray)]=some ([In x,In y,In z,Um w],4):=λx y z w=>by kernel_rfl
 have hlt:=h.lt _ (h.dm _ h.mf)
 have hm64:=hmF.n64
 have hlp:=h.lt _ (h.dm _ (h.mp hi))
 have ne1:∀j,¬L.f=m.next+j:=λj=>by omega
 have ne2:∀j,¬L.p i=m.next+j:=λj=>by omega
 simp only[XX,XY,F80,yA,yB,yC,h1,h2.f,h2.pid,f1,f2.sv,b1,b2]
 have h':FAt ((m.put (m.next+19) (AObj.cells (ofL [In (X.p i).pid,In kind,In call,Um v]) true 4)).bump 24) L X:=h.new'.bump _
 refine okI_app (k:=1) (new:=[In (X.p i).pid,In kind,In call,Um v]) el53 h'.ss (src_put rfl) (by decide) rfl rfl (.inl rfl) (by omega) λv' M' hA=>?_
 have n1:=hA.next
 simp only[bN,nP] at n1
 have hold:∀y,y<m.next->slB L.sv≠some y->M'.get y=m.get y:=λy hy hs=>by
  rw[hA.old y (by omega) hs,gB,gP,if_neg (by omega)]
 have k1:M'.get (L.p i)=some (.cells cs true 0):=by rw[hold _ hlp (h.ss.ne0 (by decide) h1)];exact h1
 have k2:M'.get L.f=some (.cells cf true 0):=by rw[hold _ hlt (h.ss.ne0 (by decide) f1)];exact f1
 have k3:12+1<=cf.n:=by rw[f2.n];decide
 have k4:EE.eqv (PT L.f) (PT L.f)=true:=eqvP
 obtain⟨bs,cs',cb,rfl,_⟩:=hA.sl.cons (by omega)
 simp only[XX,XY,F80,yA,yB,yC,h1,h2.f,k1,k2,k3,k4,ne2]
 have hsl:SlV M' 4 (.slice (some ⟨bs,0,none⟩) (X.seen.length+1) cs') (X.seen++ [⟨(X.p i).pid,kind,call,v⟩]:List SeenR).length ((X.seen++ [⟨(X.p i).pid,kind,call,v⟩]:List SeenR).flatMap seenL):=by
  rw[aL,List.flatMap_append]
  exact hA.sl
 have hres:=h.set_sv (M:=M') (id:=m.next+20) f1 f2 (by omega) ⟨by omega,by omega⟩ hm64 hold hsl (by
  rcases hA.blk with⟨e,_⟩|e
  ·exact .inl e
  ·exact .inr (.inl e))
 have hz:∀y,y≠m.next+20->((m.put (m.next+19) (AObj.cells (ofL [In (X.p i).pid,In kind,In call,Um v]) true 4)).bump 24).get y=none->M'.get y=none:=hA.low
 have hF:Fd L.D m (M'.put L.f (.cells (cf.write 12 [.slice (some ⟨bs,0,none⟩) (X.seen.length+1) cs']) true 0)):=by
  refine⟨by rw[nP];omega,Fresh.of_low nO (λy hy=>?_),λy hy hD=>?_,λy hy e=>?_⟩
  ·rw[nP] at hy
   rw[gP,if_neg (by omega)]
   exact hz y (by omega) (by rw[gB,gP,if_neg (by omega)];exact hmF.none y (by omega))
  ·rw[gP,if_neg (λe=>hD (by rw[e];exact h.dm _ h.mf)),hold y hy (λe=>hD (h.ds y e))]
  ·rw[gP,if_neg (λe2=>by rw[e2,f1] at e;cases e)]
   exact hz y (by omega) (by rw[gB,gP,if_neg (by omega)];exact e)
 exact hF.raw ⟨_,hres,⟨rfl,⟨[],by simp⟩,⟨[],by simp⟩,⟨[],by simp⟩,⟨[],by simp⟩,⟨[],by simp⟩,λy hy=>hy.imp id λe=>by omega⟩,hF⟩
end
section
variable{m m' M mr:Mem}{n:Int}{L L' L1:Loc}{X X1 X2:St}
def Be(m:Mem)(L:Loc)(X:St)(m':Mem):Prop:=∃L',FAt m' L' X∧Lx m.next L L'∧Fd L.D m m'
theorem Be.trans(hx:Lx m.next L L1)(hf:Fd L.D m M)(h:Be M L1 X m'):Be m L X m':=by
 obtain⟨L2,h1,h2,h3⟩:=h
 exact⟨L2,h1,hx.trans h2 hf.next,hf.trans h3 hx.D⟩
theorem Be.bump(h:Be m L X m')(j:Nat):Be m L X (m'.bump j):=by
 obtain⟨L2,h1,h2,h3⟩:=h
 exact⟨L2,h1.bump j,h2,h3.bump j⟩
structure Pu(D:Nat->Prop)(m M:Mem)(j:Nat):Prop where
 next:M.next=m.next
 old:∀y,y<m.next->¬D y->M.get y=m.get y
 low:∀y,y<m.next->m.get y=none->M.get y=none
 none:∀y,m.next+j<=y->M.get y=none
theorem Pu.refl{D:Nat->Prop}(hm:Fresh m){j:Nat}:Pu D m m j:=⟨rfl,λ_ _ _=>rfl,λ_ _ h=>h,λy hy=>hm.none y (by omega)⟩
theorem Pu.new{D:Nat->Prop}{j b:Nat}{o:AObj}(h:Pu D m M j)(hb:m.next<=b∧b<m.next+j):Pu D m (M.put b o) j:=
 ⟨h.next,λy hy hD=>by rw[gP,if_neg (by omega)];exact h.old y hy hD,λy hy e=>by rw[gP,if_neg (by omega)];exact h.low y hy e,λy hy=>by rw[gP,if_neg (by omega)];exact h.none y hy⟩
theorem Pu.own{j b:Nat}{o:AObj}(hA:FAt m L X)(hb:b∈L.ids)(h:Pu L.D m M j):Pu L.D m (M.put b o) j:=by
 have hlt:=hA.ids_lt hb
 obtain⟨cs,hc⟩:=hA.cell0 hb
 exact⟨h.next,λy hy hD=>by rw[gP,if_neg (λe=>hD (by rw[e];exact hA.dm _ hb))];exact h.old y hy hD,
  λy hy e=>by rw[gP,if_neg (λe2=>by rw[e2,hc] at e;cases e)];exact h.low y hy e,λy hy=>by rw[gP,if_neg (by omega)];exact h.none y hy⟩
theorem Pu.fd{D:Nat->Prop}{j k:Nat}(h:Pu D m M j)(hm:Fresh m)(hk:j<=k):Fd D m (M.bump k):=
 ⟨by rw[bN,h.next];omega,Fresh.of_low (by rw[bN,h.next];have:=hm.n64;omega) (λy hy=>by rw[bN,h.next] at hy;rw[gB];exact h.none y (by omega)),h.old,h.low⟩
theorem FAt.upd_p(h:FAt m L X){i:Nat}(hi:i<X.P.length){cs:Cells}{r:Proc}(hr:PC L r cs)(hn:m.next<=M.next)(hc:M.get (L.p i)=some (.cells cs true 0))(ho:∀y,L.D y->y≠L.p i->M.get y=m.get y):FAt M L {X with P:=X.P.set i r}:=
 (h.put_p hi hr).keep hn λy hy=>by
  rw[gP]
  split
  ·rename_i e;rw[e];exact hc
  ·rename_i e;exact ho y hy e
theorem Be.raw{u:Value}(h:Be m L X m'):RawE m m' u λ_ m'=>Be m L X m':=by
 obtain⟨L2,h1,h2,h3⟩:=h
 exact h3.raw ⟨L2,h1,h2,h3⟩
theorem Fd.put{D:Nat->Prop}{b:Nat}{o:AObj}(h:Fd D m M)(hb:D b∨(m.next<=b∧b<M.next))(hl:∀y,D y->y<m.next)(hs:M.get b≠none∨m.next<=b):Fd D m (M.put b o):=by
 have h1:=h.next
 have hbn:b<M.next:=hb.elim (λe=>lL (hl b e) h1) λe=>e.2
 refine⟨by rw[nP];exact h1,Fresh.of_low (by rw[nP];exact h.fresh.n64) (λy hy=>?_),λy hy hD=>?_,λy hy e=>?_⟩
 ·rw[nP] at hy;rw[gP,if_neg (by omega)];exact h.fresh.none y hy
 ·rw[gP,if_neg (λe=>hb.elim (λe2=>hD (by rw[e];exact e2)) λe2=>by omega)];exact h.old y hy hD
 ·rw[gP,if_neg (λe2=>by
   subst e2
   rcases hs with h2|h2
   ·exact h2 (h.low y hy e)
   ·omega)]
  exact h.low y hy e
def answerX(X:St)(i:Nat)(v:BitVec 32):St:=
 seeX {X with P:=X.P.set i {X.p i with cpu:={(X.p i).cpu with r:=(X.p i).cpu.r.set 0 v,pc:=(X.p i).cpu.pc+4#32}}} i 1 (ofN (X.p i).cpu.r) v
theorem regs_sub{r:Proc}{cs:Cells}(h:PC L r cs):cs.sub 5 8=some (r.cpu.r.map Um):=by
 have:=sub_sub (k:=0) (j:=8) h.cpu (by decide)
 rw[Nat.add_zero] at this
 rw[this,List.drop_zero]
 unfold cpuL
 rw[aA,List.take_append_of_le_length (by rw[lM,h.okc.1];exact lR' _),List.take_of_length_le (by rw[lM,h.okc.1];exact lR' _)]
theorem cpuL_len{c:Cpu}(h:c.ok):(cpuL c).length=11:=by simp[cpuL,h.1,h.2]
theorem cpuL_pc{c:Cpu}(h:c.ok):(cpuL c)[10]? =some (Um c.pc):=by
 unfold cpuL
 rw[aC' (by simp[h.1,h.2])]
 simp[h.1,h.2]
theorem pc_nth{r:Proc}{cs:Cells}(h:PC L r cs):cs.nth 15=some (Um r.cpu.pc):=by
 have:=sub_nth (k:=10) h.cpu (by decide)
 rw[show 5+10=15 from rfl] at this
 rw[this,cpuL_pc h.okc]
theorem cpuL_setr{c:Cpu}(h:c.ok){k:Nat}(hk:k<8){v:BitVec 32}:(cpuL c).set k (Um v)=cpuL {c with r:=c.r.set k v}:=by
 unfold cpuL
 rw[aA,List.set_append_left _ _ (by rw[lM,h.1];exact hk),aA]
 show List.set (c.r.map Um) k (Um v)++_=(c.r.set k v).map Um++_
 rw[List.map_set]
theorem cpuL_setpc{c:Cpu}(h:c.ok){v:BitVec 32}:(cpuL c).set 10 (Um v)=cpuL {c with pc:=v}:=by
 unfold cpuL
 rw[List.set_append_right _ _ (by simp[h.1,h.2])]
 simp[h.1,h.2]
theorem nth_write0{c:Cells}{x:Value}{l:List Value}(h:0<c.n):(c.write 0 (x::l)).nth 0=some x:=by
 rw[nth_lt (by rw[write_n];exact h),get_write,if_pos (by simp)]
 rfl
theorem answer_ok(h:FAt m L X)(hm:Fresh m)(ht:Tb m){i:Nat}(hi:i<X.P.length)(hs:X.seen.length<100000){v:BitVec 32}:
  ∃u m',Con EE.P 70 [PT (L.p i),Um v] m u m'∧Be m L (answerX X i v) m':=by
 refine Con.raw EE_ok fn70 (bA rfl) _ ?_
 obtain⟨cs,h1,h2⟩:=h.pr i hi
 have hr:=regs_sub h2
 have h64:=hm.n64
 simp only[XX,XY,F70,yA,yB,yC,h1,hr]
 refine cZ (Of_ok (by repeat(first|exact ht|refine Tb.bump ?_ _|refine Tb.put ?_ (by omega))) h2.okc.1) ?_
 have hlp:=h.lt _ (h.dm _ (h.mp hi))
 have ne2:∀j,¬L.p i=m.next+j:=λj=>by omega
 have g1:(0:Int)<=0:=by decide
 have g2:(0:Int)<((8:Nat):Int):=by decide
 have t0:Int.toNat 0=0:=rfl
 have hl:=ofA_len (r:=(X.p i).cpu.r)
 have hall:(In (ofN (X.p i).cpu.r)::(ofA (X.p i).cpu.r).map Um).all oneCell=true:=by simp[oneCell]
 have hpc:(cs.write 5 [Um v]).nth 15=some (Um (X.p i).cpu.pc):=by rw[nth_write_ne (.inr (bA rfl)),pc_nth h2]
 have ha:IntKind.u32.wrap (((X.p i).cpu.pc.toNat:Int)+4)=(((X.p i).cpu.pc+4#32).toNat:Int):=by rw[<-add32];rfl
 have k1:5+1<=cs.n:=by rw[h2.n];decide
 have k2:15+1<=cs.n:=by rw[h2.n];decide
 have ne3:∀j,¬m.next+j=L.p i:=λj=>by omega
 have q0:((ofL [In 0,Um 0,Um 0,Um 0]).write 0 (In (ofN (X.p i).cpu.r)::(ofA (X.p i).cpu.r).map Um)).nth 0=some (In (ofN (X.p i).cpu.r)):=nth_write0 (by decide)
 simp only[XX,XY,F70,yA,yB,yC,h1,ne2,ne3,g1,g2,t0,hl,hall,hpc,ha,k1,k2,lM]
 have hp1:PC L {X.p i with cpu:={(X.p i).cpu with r:=(X.p i).cpu.r.set 0 v}} (cs.write 5 [Um v]):=h2.w1_cpu (k:=0) (by decide) (cpuL_setr h2.okc (by decide)) ⟨by rw[sL];exact h2.okc.1,h2.okc.2⟩
 have hp2:=hp1.w1_cpu (k:=10) (x:={(X.p i).cpu with r:=(X.p i).cpu.r.set 0 v,pc:=(X.p i).cpu.pc+4#32}) (v:=Um ((X.p i).cpu.pc+4#32)) (by decide) (cpuL_setpc hp1.okc) hp1.okc
 refine CallI.ex2L (see_ok (L:=L) (i:=i) (X:={X with P:=X.P.set i {X.p i with cpu:={(X.p i).cpu with r:=(X.p i).cpu.r.set 0 v,pc:=(X.p i).cpu.pc+4#32}}}) (h.upd_p hi hp2 nO gA (λy hy hne=>?_)) (Pu.fd (j:=10) (Pu.own h (h.mp hi) (Pu.own h (h.mp hi) (Pu.new (Pu.new (Pu.refl hm) (by omega)) (by omega)))) hm (by omega):Fd L.D m _).fresh (by simpa using hi) hs) (by simp) λu M' hB=>?_
 ·have:=h.lt y hy
  (simp only[gB,gP];repeat(first|rw[if_neg (by omega)]|rw[if_pos trivial]|rw[if_pos (by omega)]))
 ·simp only[XX,yA]
  exact(Be.trans Lx.refl (Pu.fd (j:=10) (Pu.own h (h.mp hi) (Pu.own h (h.mp hi) (Pu.new (Pu.new (Pu.refl hm) (by omega)) (by omega)))) hm (by omega)) hB).raw
def codeX(X:St)(i:Nat)(c:Int):St:=answerX X i (ansW c)
theorem code_okk(h:FAt m L X)(hm:Fresh m)(ht:Tb m){i:Nat}(hi:i<X.P.length)(hs:X.seen.length<100000){c:Int}:
  ∃u m',Con EE.P 87 [PT (L.p i),In c] m u m'∧Be m L (codeX X i c) m':=by
 refine Con.raw EE_ok fn87 (bA rfl) _ ?_
 simp only[XX,XY,F87,yA,yB,yC]
 refine cZ (ans_ok (by repeat(first|exact ht|refine Tb.bump ?_ _|refine Tb.put ?_ (by omega)))) ?_
 simp only[XX,XY,F87,yA,yB]
 refine CallI.ex2L (answer_ok (h.bump _) hm.bump (ht.bump _) hi hs) (by simp) λu M' hB=>?_
 simp only[XX,F87,yA]
 exact(Be.trans Lx.refl ((Fd.refl hm).bump _) hB).raw
end
section
variable{m m' M mr:Mem}{n:Nat}{L L' L1:Loc}{X X1 X2:St}{v:Value}{fl:List Value}
theorem SlV.src{sz:Nat}(h:SlV m sz v n fl):srcA sz v m=some (fl,n):=by
 obtain⟨h1,h2⟩:=h
 rcases h2 with⟨rfl,rfl⟩|⟨b,c,cs,rfl,k1,k2,k3,k4⟩
 ·rw[src_nil]
  simp at h1
  rw[h1]
 ·rw[src_at,k1,srcC_cells]
  have:cs.sub 0 (n*sz)=some fl:=sub_ext h1 (by rw[k2,Nat.zero_add];exact Nat.mul_le_mul_right _ k3) λk hk=>by rw[Nat.zero_add];exact k4 k (by omega)
  rw[this];rfl
theorem el67:ElemOk EE.P 67 70 1 8:=ElemOk.of und_67 kr (z:=[.pointer none]) kr rfl (by decide)
theorem eq_sl_nil{x y:Operand}{p:Addr}{c:Nat}:eqA EE.P .eql 67 x y (.slice (some p) n c) (.slice none 0 0) m=some (.bool false):=by
 unfold eqA
 rw[if_neg (by simp[plain,plainN]),und_67]
theorem eq_nil_nil{x y:Operand}:eqA EE.P .eql 67 x y (.slice none 0 0) (.slice none 0 0) m=some (.bool true):=kr
theorem app_none{ts e id n c:Nat}{p:Option Addr}{x:Value}(hu:EE.P.underlying ts=some (.slice e)){i:TypeInfo}(hi:EE.P.info? e=some i)(hx:srcA i.size x m=some ([],0))(hn:n<=c):appendA EE.P id #[ts,ts] (.slice p n c) x m=some (.slice p n c,m):=by
 unfold appendA
 simp only[List.getElem?_toArray,List.getElem?_cons_zero,List.getElem?_cons_succ,hu,hi,hx,if_true,hn]
theorem clone_ok(hm:Fresh m)(h:SlV m 1 v n fl)(h1:fl.all oneCell=true)(hn:n<100000):∃u m',Con EE.P 102 [v] m u m'∧NewV m m' 1 u n fl:=by
 refine Con.raw EE_ok fn102 (bA rfl) _ ?_
 rcases h.2 with⟨rfl,rfl⟩|⟨b,c,cs,rfl,k1,k2,k3,k4⟩
 ·have:fl=[]:=by have:=h.1;simpa using this
  subst this
  simp only[XX,XY,F102,yA,yB,yC,eq_nil_nil]
  have hN:NewV m (m.bump 4) 1 (.slice none 0 0) 0 []:=⟨SlV.nil,(Nx.refl hm).bump _,λy hy=>by cases hy⟩
  exact⟨hN.raw,hN⟩
 ·have b0:bsV EE.P 67 0 []=some ([],1):=kr
  simp only[XX,XY,F102,yA,yB,yC,eq_sl_nil,b0]
  have hb:b<m.next:=h.lt hm rfl
  have hv':SlV ((m.put (m.next+3) (AObj.cells (ofL []) true 1)).bump 7) 1 (.slice (some ⟨b,0,none⟩) n c) n fl:=h.keep λy o hy ho=>by
   obtain rfl:b=y:=Option.some.inj hy
   rw[gB,gP,if_neg (by omega)];exact ho
  have hx:Nx m ((m.put (m.next+3) (AObj.cells (ofL []) true 1)).bump 7):=⟨by(try simp only[bN,nP]);omega,Fresh.of_low (by have:=hm.n64;(try simp only[bN,nP]);omega) (by repeat(first|exact Low.of hm nO|refine Low.put ?_ nO|refine Low.bump ?_)),λy hy=>by simp only[gB,gP,ne_new hy,if_false]⟩
  have he:SlV ((m.put (m.next+3) (AObj.cells (ofL []) true 1)).bump 7) 1 (.slice (some ⟨m.next+3,0,none⟩) 0 0) 0 []:=⟨by simp, .inr ⟨m.next+3,0,ofL [],rfl,gA,rfl,lR' _,λx hx=>by simp at hx⟩⟩
  by_cases h0:n=0
  ·subst h0
   have hf:fl=[]:=by have:=h.1;simpa using this
   subst hf
   obtain⟨i,i1,i2,_⟩:=el67.info
   rw[app_none und_67 i1 (by rw[i2];exact hv'.src) (lR' _)]
   simp only[XX,XY,yA,yB]
   have hN:NewV m ((m.put (m.next+3) (AObj.cells (ofL []) true 1)).bump 7) 1 (.slice (some ⟨m.next+3,0,none⟩) 0 0) 0 []:=⟨he,hx,λy hy=>by have e:m.next+3=y:=Option.some.inj hy;omega⟩
   exact⟨hN.raw,hN⟩
  ·refine okI_app (new:=fl) el67 he hv'.src h0 h.1 h1 (.inr λa c e=>by cases e;rfl) (by omega) λv' M' hA=>?_
   have n1:=hA.next
   simp only[bN,nP] at n1
   have hsl:=hA.sl
   simp only[Nat.zero_add,List.nil_append] at hsl
   simp only[XX,XY,yA,yB]
   have hN:NewV m M' 1 v' n fl:=by
    refine⟨hsl,⟨by omega,Fresh.of_low (by have:=hm.n64;omega) λy hy=>hA.low y (by omega) (hx.fresh.none y nO),λy hy=>?_⟩,λy hy=>?_⟩
    ·rw[hA.old y (by omega) (λe=>by have e:m.next+3=y:=Option.some.inj e;omega),hx.old y hy]
    ·rcases hA.blk with⟨e,_⟩|e
     ·rw[e] at hy;have e:m.next+3=y:=Option.some.inj hy;omega
     ·rw[e] at hy;have e:m.next+5=y:=Option.some.inj hy;omega
   exact⟨hN.raw,hN⟩
end
section
variable{m m' M mr:Mem}{n:Nat}{L L' L1:Loc}{X X1 X2:St}{v:Value}{fl:List Value}
theorem clear_ptr{b off n c:Nat}{cs:Cells}{m:Mem}(hb:m.get b=some (.cells cs true 1))(hn:n≠0)(hl:off+n<=cs.n):clearA EE.P #[67] (.slice (some ⟨b,off,none⟩) n c) m=some (m.put b (.cells (cs.write off (List.replicate n (.pointer none))) true 1)):=by
 have h2:zeroOf EE.P 70=some (.pointer none):=kr
 unfold clearA
 simp only[List.getElem?_toArray,List.getElem?_cons_zero,und_67,h2,hb]
 rw[if_neg hn]
 have hz:zeros [Value.pointer none] (n*1)=List.replicate n (.pointer none):=by
  unfold zeros Cells.zeros1
  refine List.ext_getElem (by simp) λk h3 h4=>?_
  simp[Nat.mod_one]
 have hc:(Value.pointer none).cells.toList=[Value.pointer none]:=rfl
 have hs:(Value.pointer none).cells.size=1:=rfl
 rw[hc,hs,hz,if_pos ⟨rfl,by decide,by rw[Nat.mul_one];exact hl,by simp[oneCell]⟩]
def keepL(p:Nat->Bool)(fl:List Value)(j:Nat):List Value:=((List.range j).filter λk=>!p k).map λk=>fl.getD k undef
theorem keepL_succ{p:Nat->Bool}{j:Nat}:keepL p fl (j+1)=keepL p fl j++(if p j then [] else [fl.getD j undef]):=by
 unfold keepL
 rw[List.range_succ,List.filter_append,List.map_append]
 cases h:p j<;>simp[h]
theorem keepL_all{p:Nat->Bool}{j:Nat}(h:∀k,k<j->p k=false):(keepL p fl j).length=j∧∀x,x<j->(keepL p fl j).getD x undef=fl.getD x undef:=by
 have e:(List.range j).filter (λk=>!p k)=List.range j:=List.filter_eq_self.2 λk hk=>by rw[h k (List.mem_range.1 hk)];rfl
 unfold keepL
 rw[e]
 refine⟨by simp,λx hx=>?_⟩
 rw[gD',gM',List.getElem?_range hx]
 rfl
structure DelI(b:Nat)(p:Nat->Bool)(fl:List Value)(n c j:Nat)(m M:Mem):Prop where
 blk:∃cs,M.get b=some (.cells cs true 1)∧cs.n=c∧(∀x,x<(keepL p fl j).length->cs.get x=(keepL p fl j).getD x undef)∧∀x,j<=x->x<n->cs.get x=fl.getD x undef
 old:∀y,y≠b->M.get y=m.get y
 next:m.next<=M.next
theorem delete_ok{b c:Nat}{g:FuncId}{cap:List Value}{p:Nat->Bool}(hm:Fresh m)(hv:SlV m 1 (.slice (some ⟨b,0,none⟩) n c) n fl)(hf1:∀x∈fl,∃y,x=PT y)(hn:n<1000000)(hc:callable EE.P g=true)
  (hp:∀k M,k<n->m.next<=M.next->(∀y,y≠b->M.get y=m.get y)->Con EE.P g (fl.getD k undef::cap) M (.bool (p k)) M):
  ∃u m',Con EE.P 104 [.slice (some ⟨b,0,none⟩) n c, .func (.func g) #[] cap.toArray] m u m'∧∃k,u= .slice (some ⟨b,0,none⟩) k c∧SlV m' 1 u k (keepL p fl n)∧(∀y,y≠b->m'.get y=m.get y)∧m.next<=m'.next∧Fresh m':=by
 refine Con.raw EE_ok fn104 (bA rfl) _ ?_
 have hfl:fl.length=n:=by have:=hv.len;simpa using this
 have hbm:b<m.next:=hv.lt hm rfl
 have hv0:=hv
 obtain⟨_,⟨_,e⟩|⟨b',c',cs,e,k1,k2,k3,k4⟩⟩:=hv
 ·cases e
 cases e
 rw[Nat.mul_one] at k2
 simp only[XX,XY,F104,yA,yB,yC]
 refine cZ (index_ok (p:=p) (hv0.bump _) hfl hn hc λk j hk=>?_) ?_
 ·rw[bump_bump];exact hp k _ hk (by simp) λy _=>rfl
 rcases firstIx_cases p n with⟨i0,hi0,hpi,hf,e⟩|⟨hf,e⟩
 ·rw[e]
  have d1:decide ((i0:Int)= -1)=false:=decide_eq_false (by omega)
  have hw0:IntKind.i64.wrap ((i0:Int)+1)=((i0+1:Nat):Int):=by rw[wrap_i64 (by omega) (by omega)];omega
  obtain⟨q1,q2⟩:=keepL_all (fl:=fl) hf
  have q3:keepL p fl (i0+1)=keepL p fl i0:=by rw[keepL_succ,hpi];simp
  simp only[XX,XY,F104,yA,yB,yC,d1,hw0]
  refine WX.loop_of (λk tt M=>∃j:Nat,j<=n∧i0<j∧(keepL p fl j).length<j∧k=n-j∧tt=T 42 [(6,In j),(5,In (keepL p fl j).length),(0, .slice (some ⟨b,0,none⟩) n c),(1, .func (.func g) #[] cap.toArray)]∧DelI b p fl n c j m M) ?_ (k:=n-(i0+1)) (t1:=T 42 [(6,In (i0+1:Nat)),(5,In (keepL p fl (i0+1)).length),(0, .slice (some ⟨b,0,none⟩) n c),(1, .func (.func g) #[] cap.toArray)]) (vT ⟨rfl,by rw[q3,q1];rfl,rfl,rfl,trivial⟩) ⟨i0+1,by omega,by omega,by rw[q3,q1];omega,rfl,rfl,⟨⟨cs,k1,k2,λx hx=>?_,λx hx hx2=>k4 x (by omega)⟩,λ_ _=>rfl,by simp⟩⟩
  ·rintro k tt M ⟨j,hj,hij,hkj,rfl,rfl,hI⟩
   obtain⟨⟨cj,c1,c2,c3,c4⟩,ho,hnx⟩:=hI
   by_cases hj2:j<n
   ·have g1:(j:Int)<(n:Int):=by omega
    have g2:(0:Int)<=j:=by omega
    have g3:(0:Int)<=((keepL p fl j).length:Int):=by omega
    have g4:((keepL p fl j).length:Int)<(n:Int):=by omega
    have hw1:IntKind.i64.wrap ((j:Int)+1)=((j+1:Nat):Int):=by rw[wrap_i64 (by omega) (by omega)];omega
    have hw2:IntKind.i64.wrap (((keepL p fl j).length:Int)+1)=(((keepL p fl j).length+1:Nat):Int):=by rw[wrap_i64 (by omega) (by omega)];omega
    have d1:=decide_eq_true g1
    have hq:cj.nth j=some (fl.getD j undef):=by rw[nth_lt (by omega),c4 j (lR' _) hj2]
    have hmem:fl.getD j undef∈fl:=by rw[gD',gE' (by omega)];exact List.getElem_mem _
    simp only[XX,XY,F104,yA,yB,yC,g1,g2,c1,hq,hc,hnx,lA]
    refine cZ (hp j _ hj2 (by simp;omega) λy hy=>by(simp only[gB];repeat(first|rw[if_neg (by omega)]|rw[if_pos trivial]|rw[if_pos (by omega)]));exact ho y hy) ?_
    cases hpj:p j with
    |true=>
     have e1:keepL p fl (j+1)=keepL p fl j:=by rw[keepL_succ,hpj];simp
     simp only[XX,XY,F104,yA,yB,yC,hnx,hw1,roundQ_normal,lA]
     refine⟨n-(j+1),_,_,by omega,vT (l':=[(6,In ((j+1:Nat):Int)),(5,In (keepL p fl (j+1)).length),(0, .slice (some ⟨b,0,none⟩) n c),(1, .func (.func g) #[] cap.toArray)]) ⟨rfl,by rw[e1];rfl,rfl,rfl,trivial⟩,j+1,by omega,by omega,by rw[e1];omega,rfl,rfl,⟨⟨cj,by(simp only[gB];repeat(first|rw[if_neg (by omega)]|rw[if_pos trivial]|rw[if_pos (by omega)]));exact c1,c2,λx hx=>by rw[e1] at hx⊢;exact c3 x hx,λx hx hx2=>c4 x (by omega) hx2⟩,λy hy=>by(simp only[gB];repeat(first|rw[if_neg (by omega)]|rw[if_pos trivial]|rw[if_pos (by omega)]));exact ho y hy,by simp;omega⟩⟩
    |false=>
     have e1:keepL p fl (j+1)=keepL p fl j++ [fl.getD j undef]:=by rw[keepL_succ,hpj];simp
     have e2:(keepL p fl (j+1)).length=(keepL p fl j).length+1:=by rw[e1];simp
     obtain⟨pb,hpb⟩:=hf1 _ hmem
     have g5:(keepL p fl j).length+1<=cj.n:=by omega
     rw[hpb] at e1⊢
     simp only[XX,XY,F104,yA,yB,yC,hnx,hw1,hw2,g3,g4,g5,c1,roundQ_normal,lA]
     refine⟨n-(j+1),_,_,by omega,vT (l':=[(6,In ((j+1:Nat):Int)),(5,In (keepL p fl (j+1)).length),(0, .slice (some ⟨b,0,none⟩) n c),(1, .func (.func g) #[] cap.toArray)]) ⟨rfl,by rw[e2];rfl,rfl,rfl,trivial⟩,j+1,by omega,by omega,by omega,rfl,rfl,⟨⟨_,gA,by rw[write_n,c2],λx hx=>?_,λx hx hx2=>?_⟩,λy hy=>by(simp only[gB,gP];repeat(first|rw[if_neg (by omega)]|rw[if_pos trivial]|rw[if_pos (by omega)]));exact ho y hy,nO⟩⟩
     ·rw[get_write,e1]
      by_cases hxe:x=(keepL p fl j).length
      ·subst hxe
       rw[if_pos (by simp),gD',gD',aC' (lR' _)]
      ·rw[if_neg (by simp;omega),c3 x (by omega),gD',gD',aB' (by omega)]
     ·rw[get_write,if_neg (by simp;omega)]
      exact c4 x (by omega) hx2
   ·obtain rfl:j=n:=by omega
    have g0:¬(j:Int)<(j:Int):=by omega
    have d1:=decide_eq_false g0
    have g3:(0:Int)<=((keepL p fl j).length:Int):=by omega
    have hlo:sliceA EE.P 67 (.slice (some ⟨b,0,none⟩) j c) (some (.int .i64 ((keepL p fl j).length:Int))) none=some (.slice (some ⟨b,0+((keepL p fl j).length:Int).toNat*1,none⟩) (j-((keepL p fl j).length:Int).toNat) (c-((keepL p fl j).length:Int).toNat)):=slice_lo und_67 sz_70 g3 (by omega) (by omega) k3
    have hhi:sliceA EE.P 67 (.slice (some ⟨b,0,none⟩) j c) none (some (.int .i64 ((keepL p fl j).length:Int)))=some (.slice (some ⟨b,0,none⟩) ((keepL p fl j).length:Int).toNat c):=slice_hi und_67 sz_70 g3 (by omega)
    have hcl:∀J,clearA EE.P #[67] (.slice (some ⟨b,(keepL p fl j).length,none⟩) (j-(keepL p fl j).length) (c-(keepL p fl j).length)) (M.bump J)=some ((M.bump J).put b (.cells (cj.write (keepL p fl j).length (List.replicate (j-(keepL p fl j).length) (.pointer none))) true 1)):=λJ=>clear_ptr (by rw[gB];exact c1) (by omega) (by omega)
    have hnc:(keepL p fl j).length<=c:=by omega
    simp only[XX,XY,F104,yA,yB,yC,d1,hnx,hlo,hhi,hcl,roundQ_exit,lA]
    have hfr:∀o J,Fresh ((M.put b o).bump J):=λo J=>Fresh.of_low (by have:=hm.n64;simp only[bN,nP];omega) λy hy=>by
     simp only[bN,nP] at hy
     rw[gB,gP,if_neg (by omega),ho y (by omega)];exact hm.none y (by omega)
    refine⟨⟨nO,λy hy e=>by rw[gB,gP,if_neg (λe2=>by rw[e2,k1] at e;cases e),ho y (λe2=>by rw[e2,k1] at e;cases e),e]⟩,_,rfl,⟨by simp, .inr ⟨b,c,_,rfl,gA,by rw[write_n,c2,Nat.mul_one],hnc,λx hx=>?_⟩⟩,λy hy=>by rw[gB,gP,if_neg hy,ho y hy],nO,hfr _ _⟩
    rw[get_write,if_neg (by omega)];exact c3 x hx
  ·rw[q3] at hx⊢
   rw[q1] at hx
   rw[q2 x hx];exact k4 x (by omega)
 ·rw[e]
  obtain⟨q1,q2⟩:=keepL_all (fl:=fl) hf
  have e2:keepL p fl n=fl:=by
   refine List.ext_getElem (by rw[q1,hfl]) λx h1 h2=>?_
   have:=q2 x (by omega)
   rw[gD',gD',gE' h1,gE' h2] at this
   exact this
  simp only[XX,XY,F104,yA,yB,yC]
  rw[e2]
  exact⟨⟨by simp,λy hy e=>e⟩,n,rfl,hv0.bump _,λy _=>rfl,by simp,hm.bump⟩
end
section
variable{m m' M mr:Mem}{n:Nat}{L L' L1:Loc}{X X1 X2:St}{v:Value}{fl:List Value}
theorem FAt.set_fv(h:FAt m L X){M:Mem}{v':Value}{S:List Nat}{cf:Cells}(f1:m.get L.f=some (.cells cf true 0))(f2:FC L X cf)(hn:m.next<=M.next)(hid:∀y,slB v'=some y->m.next<=y∧y<M.next)(h64:64<=m.next)
  (hold:∀y,y<m.next->M.get y=m.get y) (hsl:SlV M 1 v' S.length (S.map λi=>PT (L.p i))) (hS:∀j∈S,j<X.P.length):
  FAt (M.put L.f (.cells (cf.write 6 [v']) true 0)) {L with fv:=v',D:=λy=>L.D y∨slB v'=some y} {X with fut:=S}:=by
 have hi:∀y∈L.ids,M.get y=m.get y:=λy hy=>hold y (h.ids_lt hy)
 have hsd:∀{z n:Nat} {v:Value} {fl:List Value},z≠0->SlV m z v n fl->(∀y,slB v=some y->L.D y)->SlV (M.put L.f (.cells (cf.write 6 [v']) true 0)) z v n fl:=λ{z n v fl} hz hv hd=>hv.keep λy o hy ho=>by
  have h1:y≠L.f:=λe=>hv.ne0 hz f1 (by rw[hy,e])
  rw[gP,if_neg h1,hold y (h.lt y (hd y hy))];exact ho
 have hne:∀k,k<X.P.length->¬L.p k=L.f:=λk hk e=>h.f_p hk e.symm
 refine⟨⟨_,by rw[gP,if_pos rfl],?_⟩,λk hk=>?_,λk hk=>?_,λk hk=>?_,λk hk=>?_,λk hk=>?_,h.lP,h.lG,h.lC,h.lI,h.lF,h.lb,h.nd,λy hy=> .inl (h.dm y hy),hsd (by decide) h.ls h.dl,?_,hsd (by decide) h.ss h.ds,λk hk=>hsd (by decide) (h.bs k hk) (λy=>h.db k y hk),λy hy=> .inl (h.dl y hy),λy hy=>?_,λy hy=> .inl (h.ds y hy),λk y hk hy=> .inl (h.db k y hk hy),λy hy=>⟨λe=>?_,(h.sep y hy).2⟩,λy hy=>?_,λy hy=>?_,h.pi,hS⟩
 ·exact⟨by rw[write_n,f2.n],(nth_write_ne (.inl (by decide))).trans f2.cores,(nth_write_ne (.inl (by decide))).trans f2.frames,(nth_write_ne (.inl (by decide))).trans f2.procs,(nth_write_ne (.inl (by decide))).trans f2.cap,(nth_write_ne (.inl (by decide))).trans f2.prog,(nth_write_ne (.inl (by decide))).trans f2.lv,nth_write_same (by rw[f2.n];decide),(nth_write_ne (.inr (bA rfl))).trans f2.contents,(nth_write_ne (.inr (bA rfl))).trans f2.files,(nth_write_ne (.inr (bA rfl))).trans f2.pipes,(nth_write_ne (.inr (bA rfl))).trans f2.next,(nth_write_ne (.inr (bA rfl))).trans f2.halted,(nth_write_ne (.inr (bA rfl))).trans f2.sv⟩
 ·obtain⟨c1,a1,a2⟩:=h.pr k hk;exact⟨c1,by rw[gP,if_neg (λe=>h.f_p hk e.symm),hi _ (h.mp hk)];exact a1,a2.move rfl (λ_ _=>rfl) (λ_ _ _=>rfl) (λ_ _ _=>rfl) (λ_ _=>rfl) λ_ _=>rfl⟩
 ·obtain⟨c1,a1,a2⟩:=h.pg k hk;exact⟨c1,by rw[gP,if_neg (λe=>h.f_g hk e.symm),hi _ (h.mg hk)];exact a1,a2.move rfl⟩
 ·obtain⟨c1,a1,a2⟩:=h.ct k hk;exact⟨c1,by rw[gP,if_neg (λe=>h.f_c hk e.symm),hi _ (h.mc hk)];exact a1,a2.move⟩
 ·obtain⟨c1,a1,a2⟩:=h.ip k hk;exact⟨c1,by rw[gP,if_neg (λe=>h.f_i hk e.symm),hi _ (h.mi hk)];exact a1,a2⟩
 ·obtain⟨c1,a1,a2⟩:=h.xs k hk;exact⟨c1,by rw[gP,if_neg (λe=>h.f_x hk e.symm),hi _ (h.mx hk)];exact a1,a2.move rfl⟩
 ·exact hsl.put0 (by decide) (by rw[hi _ h.mf];exact f1)
 ·exact .inr hy
 ·have:=hid y e;have:=h.lt y (h.dl y hy);omega
 ·rcases hy with hy|hy
  ·exact lL (h.lt y hy) (by rw[nP];exact hn)
  ·rw[nP];exact(hid y hy).2
 ·rcases hy with hy|hy
  ·exact h.d64 y hy
  ·have:=(hid y hy).1;omega
theorem ready1_ok(h:FAt m L X){i j x:Nat}(hi:i<X.P.length)(hj:j<X.P.length)(hx:m.get x=some (.cells (ofL [PT (L.p i)]) true 0)):Con EE.P 105 [PT (L.p j),PT x] m (.bool (decide (j=i))) m:=by
 refine Con.of EE_ok fn105 (bA rfl) Grow.rfl λhm=>?_
 obtain⟨c1,h1,h2⟩:=h.pr i hi
 obtain⟨c2,h3,h4⟩:=h.pr j hj
 have hd:decide (L.p j=L.p i)=decide (j=i):=by
  by_cases e:j=i
  ·rw[e];simp
  ·rw[decide_eq_false e,decide_eq_false λe2=>e (h.ij_p hj hi e2)]
 have he:∀x y J,eqA EE.P .eql 70 x y (PT (L.p j)) (PT (L.p i)) (m.bump J)=some (.bool (decide (L.p j=L.p i))):=λx y J=>eqP_pp pt_70 h3 h1
 simp only[XX,XY,F105,yA,yB,yC,hx,he,hd]
 exact tP rfl λ_ _=>rfl
theorem delete_nil{g:FuncId}{cap:List Value}(hm:Fresh m)(hc:callable EE.P g=true):∃u m',Con EE.P 104 [.slice none 0 0, .func (.func g) #[] cap.toArray] m u m'∧u= .slice none 0 0∧Nx m m':=by
 refine Con.raw EE_ok fn104 (bA rfl) _ ?_
 simp only[XX,XY,F104,yA,yB,yC]
 refine cZ (index_ok (p:=λ_=>false) SlV.nil rfl (by decide) hc λk j hk=>by omega) ?_
 have e:firstIx (λ_=>false) 0= -1:=rfl
 rw[e]
 simp only[XX,XY,F104,yA,yB,yC]
 exact⟨⟨by simp,λy hy e=>e⟩,rfl,(Nx.refl hm).bump _⟩
theorem del_new{cv:Value}{g:FuncId}{cap:List Value}{p:Nat->Bool}(hC:NewV m M 1 cv n fl)(hf1:∀x∈fl,∃y,x=PT y)(hn:n<1000000)(hc:callable EE.P g=true)
  (hp:∀k M',k<n->m.next<=M'.next->(∀y,y<m.next->M'.get y=m.get y)->Con EE.P g (fl.getD k undef::cap) M' (.bool (p k)) M'):
  ∃u m',Con EE.P 104 [cv, .func (.func g) #[] cap.toArray] M u m'∧NewV m m' 1 u (keepL p fl n).length (keepL p fl n)∧M.next<=m'.next∧∀y,slB cv≠some y->y<M.next->m'.get y=M.get y:=by
 have hfr:=hC.nx.fresh
 have hC0:=hC
 rcases hC.sl.at_ with⟨rfl,rfl⟩|⟨b,c,cs,rfl,k1,k2,k3,k4⟩
 ·have hfl:fl=[]:=by have:=hC.sl.len;simpa using this
  subst hfl
  obtain⟨u,m',h1,rfl,h2⟩:=delete_nil (cap:=cap) hfr hc
  exact⟨_,m',h1,⟨SlV.nil,hC.nx.trans h2,λy hy=>by cases hy⟩,h2.next,λy _ hy=>h2.old y hy⟩
 ·have hbn:=hC.new b rfl
  obtain⟨u,m',h1,k,rfl,h2,h3,h4,h5⟩:=delete_ok hfr hC.sl hf1 hn hc (cap:=cap) (p:=p) λk M' hk hle ho=>hp k M' hk (lT hC.nx.next hle) λy hy=>by rw[ho y (by omega),hC.nx.old y hy]
  have hk:k=(keepL p fl n).length:=by have:=h2.len;omega
  subst hk
  exact⟨_,m',h1,⟨h2,⟨lT hC.nx.next h4,h5,λy hy=>by rw[h3 y (by omega),hC.nx.old y hy]⟩,λy hy=>by have e:b=y:=Option.some.inj hy;omega⟩,h4,λy hy _=>h3 y λe=>hy (by rw[e];rfl)⟩
theorem keep_fut{S:List Nat}{i:Nat}{f:Nat->Value}:keepL (λk=>decide (S.getD k 0=i)) (S.map f) S.length=(S.filter λj=>!decide (j=i)).map f:=by
 have e:(List.range S.length).map (λk=>S.getD k 0)=S:=by
  refine List.ext_getElem (by simp) λk h1 h2=>?_
  rw[List.getElem_map,List.getElem_range,gD',gE' h2];rfl
 have e2:(S.filter λj=>!decide (j=i))=((List.range S.length).filter λk=>!decide (S.getD k 0=i)).map λk=>S.getD k 0:=by
  have:=List.filter_map (f:=λk=>S.getD k 0) (p:=λj=>!decide (j=i)) (l:=List.range S.length)
  rw[e] at this
  exact this
 unfold keepL
 rw[e2,List.map_map]
 apply List.map_congr_left
 intro k hk
 have hk:=List.mem_range.1 (List.mem_filter.1 hk).1
 show(S.map f).getD k undef=f (S.getD k 0)
 rw[gD',gM',gD',gE' hk];rfl
def readyP(p:Proc):Proc:={p with wait:=0,pipe:=none,fut:=⟨none,none,0#32⟩,left:=0#32}
def readyX(X:St)(i:Nat):St:={X with P:=X.P.set i (readyP (X.p i)),fut:=X.fut.filter λj=>!decide (j=i)}
theorem CallI.at{Li:List Inst}{tk:Task}{K:CI}{R:Mem->Prop}(hR:R M)(hK:∀M,R M->CallI EE Li tk M (K:=K)):CallI EE Li tk M (K:=K):=hK M hR
theorem ready_ok(h:FAt m L X)(hm:Fresh m){i:Nat}(hi:i<X.P.length)(hf:X.fut.length<100000):∃u m',Con EE.P 71 [PT (L.p i)] m u m'∧Be m L (readyX X i) m':=by
 refine Con.raw EE_ok fn71 (bA rfl) _ ?_
 obtain⟨cs,h1,h2⟩:=h.pr i hi
 have hlp:=h.ids_lt (h.mp hi)
 have ne1:∀j,¬L.p i=m.next+j:=λj=>by omega
 have ne2:∀j,¬m.next+j=L.p i:=λj=>by omega
 have ne10:¬L.p i=m.next:=by omega
 have ne20:¬m.next=L.p i:=by omega
 have b0:buildA EE.P 77 []=some (.agg [.pointer none, .pointer none,Um 0#32].toArray):=kr
 have k1:46+1<=cs.n:=by rw[h2.n];decide
 have k2:47+1<=cs.n:=by rw[h2.n];decide
 have k3:48+3<=cs.n:=by rw[h2.n];decide
 have k4:51+1<=cs.n:=by rw[h2.n];decide
 have hq:= @eqvP
 have hp:PC L (readyP (X.p i)) ((((cs.write 46 [In 0]).write 47 [.pointer none]).write 48 [.pointer none, .pointer none,Um 0#32]).write 51 [.int .u32 0]):=by
  have p1:=h2.w_wait (x:=0)
  have p2:=p1.w_pipe (x:=none)
  have p3:=p2.w_fut (x:=⟨none,none,0#32⟩) rfl
  exact p3.w_left (x:=0#32)
 obtain⟨cf,f1,f2⟩:=h.fl
 have hlf:=h.ids_lt h.mf
 have hfp:=h.f_p hi
 have ne3:∀j,¬L.f=m.next+j:=λj=>by omega
 have ne30:¬L.f=m.next:=by omega
 have hpf:=hp.f
 simp only[XX,XY,F71,yA,yB,yC,h1,ne10,ne20,b0,k1,k2,k3,k4,hq,hpf,ne30,hfp,f1,f2.fv]
 refine CallI.at (R:=λM=>FAt M L {X with P:=X.P.set i (readyP (X.p i))}∧Fd L.D m M∧M.get m.next=some (.cells (ofL [PT (L.p i)]) true 0)∧m.next<M.next) ⟨h.upd_p hi hp nO gA (λy hy hne=>(by have:=h.lt y hy;(simp only[gB,gP];repeat(first|rw[if_neg (by omega)]|rw[if_pos trivial]|rw[if_pos (by omega)])))),Pu.fd (j:=1) (Pu.own h (h.mp hi) (Pu.own h (h.mp hi) (Pu.own h (h.mp hi) (Pu.own h (h.mp hi) (Pu.new (Pu.refl hm) (by omega)))))) hm (by omega),gA,nO⟩ λM ⟨hA,hF,hbx,hlt⟩=>?_
 have hall:(X.fut.map λi=>PT (L.p i)).all oneCell=true:=by simp[oneCell]
 refine cX (clone_ok hF.fresh hA.fs hall (by simpa using hf)) λcv M1 hC=>?_
 have n1:=hC.nx.next
 have hA1:=hA.nx hC.nx
 have hbx1:=hC.nx.keep hF.fresh hbx
 obtain⟨c1,g1,g2⟩:=hA1.pr i (by simpa using hi)
 obtain⟨cf1,e1,e2⟩:=hA1.fl
 have n0:=hF.next
 have n01:m.next<=M1.next:=lT n0 n1
 simp only[XX,XY,F71,yA,yB]
 refine CallI.ex2L (del_new (p:=λk=>decide (X.fut.getD k 0=i)) (g:=105) (cap:=[PT m.next]) hC (λx hx=>?_) (by simp;omega) kr λk M' hk hle ho=>?_) (by simp) λdv M2 hD=>?_
 ·obtain⟨j,_,e⟩:=List.mem_map.1 hx;exact⟨_,e.symm⟩
 ·have hkl:k<X.fut.length:=by simpa using hk
  have e:(X.fut.map λi=>PT (L.p i)).getD k undef=PT (L.p (X.fut.getD k 0)):=by
   rw[gD',gM',gD',gE' hkl];rfl
  have hA':FAt M' L {X with P:=X.P.set i (readyP (X.p i))}:=hA.keep hle λy hy=>ho y (hA.lt y hy)
  show Con EE.P 105 ((X.fut.map λi=>PT (L.p i)).getD k undef::[PT m.next]) M' _ M'
  rw[e]
  exact ready1_ok hA' (by simpa using hi) (by simpa using h.pf _ (getD_mem hkl)) ((ho _ hlt).trans hbx)
 ·obtain⟨hN,n2,_⟩:=hD
  have hM2:∀y,y<M.next->M2.get y=M.get y:=hN.nx.old
  have l1:L.p i<M.next:=hA.ids_lt (hA.mp (by simpa using hi))
  have l2:L.f<M.next:=hA.ids_lt hA.mf
  obtain⟨c0,q1,q1'⟩:=hA.pr i (by simpa using hi)
  obtain⟨cf0,q2,q2'⟩:=hA.fl
  have r1:=(hM2 _ l1).trans q1
  have r2:=(hM2 _ l2).trans q2
  have r3:=(hM2 _ hlt).trans hbx
  have s1:=(hC.nx.old _ l1).trans q1
  have s2:=(hC.nx.old _ l2).trans q2
  have k5:6+1<=cf0.n:=by rw[q2'.n];decide
  have n02:m.next<=M2.next:=by omega
  have qf:=q1'.f
  have hkl:keepL (λk=>decide (X.fut.getD k 0=i)) (X.fut.map λi=>PT (L.p i)) X.fut.length=(X.fut.filter λj=>!decide (j=i)).map λi=>PT (L.p i):=keep_fut
  have hsl:=hN.sl
  rw[hkl,lM] at hsl
  have hres:=hA.set_fv (M:=M2) (v':=dv) (S:=X.fut.filter λj=>!decide (j=i)) q2 q2' (lT n1 n2) (λy hy=>⟨hN.new y hy,hN.sl.lt hN.nx.fresh hy⟩) hF.fresh.n64 hM2 hsl λj hj=>by simpa using h.pf j (List.mem_filter.1 hj).1
  have hF2:Fd L.D m (M2.put L.f (.cells (cf0.write 6 [dv]) true 0)):=(hF.trans (Fd.of_nx (D:=L.D) hN.nx) λy hy=> .inl hy).put (.inl (h.dm _ h.mf)) h.lt (.inl (by rw[r2];simp))
  have hfin:RawE m (M2.put L.f (.cells (cf0.write 6 [dv]) true 0)) (.tuple #[]) λ_ m'=>Be m L (readyX X i) m':=
   hF2.raw ⟨_,hres,⟨rfl,⟨[],by simp⟩,⟨[],by simp⟩,⟨[],by simp⟩,⟨[],by simp⟩,⟨[],by simp⟩,λy hy=>hy.imp id λe=>lT n0 (hN.new y e)⟩,hF2⟩
  rcases hN.sl.at_ with⟨_,rfl⟩|⟨b,c,cs,rfl,_⟩
  ·simp only[XX,XY,F71,yA,yB,yC,ne10,ne20,hpf,r1,r2,r3,s1,hbx1,qf,hq,k5]
   exact hfin
  ·simp only[XX,XY,F71,yA,yB,yC,ne10,ne20,hpf,r1,r2,r3,s1,hbx1,qf,hq,k5]
   exact hfin
end
section
variable{m m' M mr:Mem}{n:Nat}{L L' L1:Loc}{X X1 X2:St}{v:Value}{fl:List Value}
theorem some1_ok{lp x1 x2 g z1 z2:Nat}{cap:List Value}(hmr:Fresh mr)(h:FAt mr L X)(hg:GX X)(hx1:mr.get x1=some (.cells (ofL [PT L.f]) true z1))(hx2:mr.get x2=some (.cells (ofL [.func (.func g) #[] cap.toArray]) true z2))(hcg:callable EE.P g=true)
  (Bad:Nat->Prop) (hbad:∀y,Bad y->y<mr.next∧y≠x2) (Inv:Mem->Nat->Mem->Prop) (h0:∀M1,Nx mr M1->Inv M1 0 M1) (hb:∀M1 i M j,Inv M1 i M->Inv M1 i (M.bump j))
  (hfr:∀M1 i M,Nx mr M1->Inv M1 i M->M1.next<=M.next∧(∀y,y<M1.next->¬Bad y->M.get y=M1.get y)∧∀y,y<M1.next->M1.get y=none->M.get y=none)
  (hstep:∀M1 (i:Nat) M j,Nx mr M1->i<X.l.length->Inv M1 i M->∃b,Con EE.P g (PT (L.p (X.l.getD i 0))::cap) (M.bump j) (.bool b) (M.bump j)∧(b=false->Inv M1 (i+1) M)∧
   (b=true->∀j,∃u m',RCon EE.P lp [PT (L.p (X.l.getD i 0))] (M.bump j) u m'∧u= .bool true∧M.next+j<=m'.next∧Inv M1 (i+1) m')):
  ∃u m2,Con EE.P 101 [.func (.yield lp) #[] #[],PT x1,PT x2] mr u m2∧∃M1,Nx mr M1∧Inv M1 X.l.length m2:=by
 refine Con.raw EE_ok fn101 (bA rfl) _ ?_
 obtain⟨cf,f1,f2⟩:=h.fl
 have hn:=hg.ln
 simp only[XX,XY,F101,yA,yB,yC,hx1,f1,f2.lv]
 refine cX (clone_ok (m:=mr.bump _) hmr.bump (h.ls.bump _) (by simp[oneCell]) (by omega)) λcv M1 hC=>?_
 have nx1:=hC.nx.of_bump
 have n1:=nx1.next
 have hlenA:∀M,lenA EE.P 67 cv M=some (In X.l.length):=λM=>hC.sl.lenA und_67
 simp only[XX,XY,F101,yA,yB,hlenA]
 refine WX.loop_of (λk tt M=>∃i:Nat,i<=X.l.length∧k=X.l.length-i∧tt=T 25 [(12,In i),(11,In X.l.length),(10,cv),(0, .func (.yield lp) #[] #[]),(1,PT x1),(2,PT x2)]∧Inv M1 i M) ?_ (k:=X.l.length) (t1:=T 25 [(12,In (0:Nat)),(11,In X.l.length),(10,cv),(0, .func (.yield lp) #[] #[]),(1,PT x1),(2,PT x2)]) (vT ⟨rfl,rfl,rfl,rfl,rfl,rfl,trivial⟩) ⟨0,by omega,rfl,rfl,h0 _ nx1⟩
 rintro k tt M ⟨i,hi,rfl,rfl,hI⟩
 obtain⟨n2,ho,hz⟩:=hfr _ _ _ nx1 hI
 have hnx:mr.next<=M.next:=lT n1 n2
 have hgrow:∀M i,Inv M1 i M->Grow mr M:=λM i hI=>by
  obtain⟨e1,e2,e3⟩:=hfr _ _ _ nx1 hI
  exact⟨lT n1 e1,λy hy e=>e3 y (by omega) (by rw[nx1.old y hy,e])⟩
 by_cases hi2:i<X.l.length
 ·have g1:(i:Int)<(X.l.length:Int):=by omega
  have g2:(0:Int)<=i:=by omega
  have hw1:IntKind.i64.wrap ((i:Int)+1)=((i+1:Nat):Int):=by rw[wrap_i64 (by omega) (by omega)];omega
  have l2:=hmr.lt hx2
  have Mx2:M.get x2=some (.cells (ofL [.func (.func g) #[] cap.toArray]) true z2):=by rw[ho x2 (by omega) (λe=>(hbad x2 e).2 rfl),nx1.old x2 l2];exact hx2
  obtain⟨b,c,cs,rfl,k1,k2,k3,k4⟩:=hC.sl.cons (by omega)
  have kb:=hC.new b rfl
  rw[bN] at kb
  have kl:=hC.nx.fresh.lt k1
  have Mb:M.get b=some (.cells cs true 1):=by rw[ho b kl (λe=>by have:=(hbad b e).1;omega)];exact k1
  have hq:cs.nth i=some (PT (L.p (X.l.getD i 0))):=by rw[nth_lt (by omega),k4 i (by simp;omega),PT_lv h hi2]
  simp only[XX,XY,F101,yA,yB,yC,g1,g2,Mb,hq,Mx2,hcg,hnx,lA]
  obtain⟨bb,s1,s2,s3⟩:=hstep M1 i M _ nx1 hi2 hI
  refine cZ s1 ?_
  cases bb with
  |false=>
   simp only[XX,XY,F101,yA,yB,yC,hnx,hw1,roundQ_normal,lA]
   exact⟨X.l.length-(i+1),_,_,by omega,vT (l':=[(12,In ((i+1:Nat):Int)),(11,In X.l.length),(10, .slice (some ⟨b,0,none⟩) X.l.length c),(0, .func (.yield lp) #[] #[]),(1,PT x1),(2,PT x2)]) ⟨rfl,rfl,rfl,rfl,rfl,rfl,trivial⟩,i+1,by omega,rfl,rfl,hb _ _ _ _ (s2 rfl)⟩
  |true=>
   simp only[XX,XY,F101,yA,yB,yC,hnx,lA]
   refine CallI.rcon (s3 rfl _) (by simp) λu m' hm'=>?_
   obtain⟨rfl,n3,hI'⟩:=hm'
   have n4:mr.next<=m'.next:=by omega
   simp only[XX,XY,F101,yA,yB,yC,n4,hw1,roundQ_normal]
   exact⟨X.l.length-(i+1),_,_,by omega,vT (l':=[(12,In ((i+1:Nat):Int)),(11,In X.l.length),(10, .slice (some ⟨b,0,none⟩) X.l.length c),(0, .func (.yield lp) #[] #[]),(1,PT x1),(2,PT x2)]) ⟨rfl,rfl,rfl,rfl,rfl,rfl,trivial⟩,i+1,by omega,rfl,rfl,hb _ _ _ _ hI'⟩
 ·obtain rfl:i=X.l.length:=by omega
  have q1:¬(X.l.length:Int)<(X.l.length:Int):=by omega
  simp only[XX,XY,F101,yA,yB,q1,hnx,roundQ_exit]
  have hI2:=hb _ _ _ 1 hI
  exact⟨hgrow _ _ hI2,M1,nx1,hI2⟩
theorem some_ok(hm:Fresh m){x:Value}(hb:boxL x=some [x]):∃u m',Con EE.P 68 [PT L.f,x] m u m'∧∃x1 x2,u= .func (.func 101) #[] [PT x1,PT x2].toArray∧m.next<=x1∧m.next<=x2∧m'.get x1=some (.cells (ofL [PT L.f]) true 0)∧m'.get x2=some (.cells (ofL [x]) true 0)∧x1≠x2∧Nx m m':=by
 refine Con.raw EE_ok fn68 (bA rfl) _ ?_
 simp only[XX,XY,F68,yA,yB,yC,hb]
 have hn:Nx m (((m.put m.next (.cells (ofL [PT L.f]) true 0)).put (m.next+1) (.cells (ofL [x]) true 0)).bump 5):=(nX hm)
 exact⟨⟨hn.next,λy hy e=>by rw[hn.old y hy,e]⟩,m.next,m.next+1,rfl,lR' _,by omega,gA,gA,by omega,hn⟩
end
section
variable{m m' M mr:Mem}{n:Nat}{L L' L1:Loc}{X X1 X2:St}{v:Value}{fl:List Value}
abbrev il(l:List Int):List Value:=l.map In
theorem il_snoc{l:List Int}{x:Int}:il (l++ [x])=il l++ [In x]:=by simp[il]
def pidsX(X:St)(b:Nat->Bool):List Int:=(X.l.filter b).map λi=>(X.p i).pid
def pidsI(X:St)(b:Nat->Bool)(k:Nat):List Int:=((X.l.take k).filter b).map λi=>(X.p i).pid
theorem l_take{k:Nat}(hk:k<X.l.length):X.l.take (k+1)=X.l.take k++ [X.l.getD k 0]:=by
 rw[List.take_add_one,gE' hk,gD',gE' hk];rfl
theorem pidsI_t{b:Nat->Bool}{k:Nat}(hk:k<X.l.length)(h:b (X.l.getD k 0)=true):pidsI X b (k+1)=pidsI X b k++ [(X.p (X.l.getD k 0)).pid]:=by
 unfold pidsI
 rw[l_take hk,List.filter_append,List.filter_cons_of_pos h,List.filter_nil,List.map_append];rfl
theorem pidsI_f{b:Nat->Bool}{k:Nat}(hk:k<X.l.length)(h:b (X.l.getD k 0)=false):pidsI X b (k+1)=pidsI X b k:=by
 unfold pidsI
 rw[l_take hk,List.filter_append,List.filter_cons_of_neg (by rw[h];decide),List.filter_nil,List.append_nil]
theorem pidsI_len{b:Nat->Bool}{k:Nat}:(pidsI X b k).length<=X.l.length:=by
 unfold pidsI
 rw[lM]
 exact lT (List.length_filter_le _ _) (by rw[List.length_take];omega)
theorem eo41:ElemOk EE.P 41 3 1 8:=ElemOk.of und_41 kr (z:=[In 0]) kr rfl (by decide)
theorem bs41{x:Int}:bsV EE.P 41 1 [(0,In x)]=some ([In x],1):=kr
abbrev lr42(tt:List (Nat×Value)):ALoop:={state:= .ready,pend:=none,tmps:=T 21 tt,ps:=[12],assign:=(kO Tryz.f42.body 10),body:=(kO Tryz.f42.body 11)}
theorem pid_round{M1:Mem}{lp o j k:Nat}{tl:List (Nat×Value)}(h1:FAt M1 L X)(hF:Fresh M1)(hl:M1.get lp=some (.loop (lr42 tl)))(h5:lk tl 5=PT o)(ho:o<M1.next)(hol:o≠lp)(hoD:¬L.D o)(hlD:¬L.D lp)(hI:ColV M1 lp o (lr42 tl) 1 k fl M)(hk:k<1073741824){i:Nat}(hi:i<X.P.length):
  ∃u m',RCon EE.P lp [PT (L.p i)] (M.bump j) u m'∧u= .bool true∧M.next+j<=m'.next∧ColV M1 lp o (lr42 tl) 1 (k+1) (fl++ [In (X.p i).pid]) m':=by
 have hnx:=hI.next
 have l1:=hF.lt hl
 have hlo:¬lp=o:=λe=>hol e.symm
 have Ml:=hI.loop
 have hM:FAt M L X:=h1.keep hnx λy hy=>hI.old y (h1.lt y hy) (λe=>hoD (e▸hy)) (λe=>hlD (e▸hy))
 obtain⟨co,u,Mo,j1,j2,j3,j4⟩:=hI.out
 obtain⟨cs,p1,p2⟩:=hM.pr i hi
 have hpl:¬L.p i=lp:=λe=>hlD (e▸hM.dm _ (hM.mp hi))
 have hpo:¬L.p i=o:=λe=>hoD (e▸hM.dm _ (hM.mp hi))
 have hpn:L.p i<M.next:=hM.ids_lt (hM.mp hi)
 have hpn2:∀k,¬L.p i=M.next+k:=λk=>by omega
 refine RCon.of EE_ok (r:=lr42 tl) (by simp only[gB,Ml]) rfl rfl ?_
 simp only[XX,XY,F42,yA,yB,yC,Ml,Mo,h5,j2,hol,bs41,p1,p2.pid,hpl]
 refine hI.app (rb:=⟨.busy,none,T 21 tl,[12],(kO Tryz.f42.body 10),(kO Tryz.f42.body 11)⟩) eo41 (by decide) hol l1 ho hF.n64 Mo j2 rfl rfl ⟨by omega,by omega⟩ ⟨by omega,by omega⟩ (by omega) (by omega) λb' c' M' hMl hMo hcn hMn hold hfin=>?_
 have n3:M.next<=M'.next:=by omega
 have n9:M.next+j<=M'.next:=by omega
 have n10:M.next+(j+1)<=M'.next:=by omega
 simp only[XX,XY,F42,yA,yB,n9,n10,hMl,hMo,h5,hcn,hlo]
 exact⟨(hfin 0).2 j (by omega) (by omega),(hfin 0).1⟩
theorem pids_ok(h:FAt m L X)(hm:Fresh m)(hg:GX X){g:FuncId}{b:Nat->Bool}(hcg:callable EE.P g=true)(ht:∀M i,FAt M L X->i<X.P.length->Con EE.P g [PT (L.p i)] M (.bool (b i)) M):
  ∃u m',Con EE.P 42 [PT L.f, .func (.func g) #[] #[]] m u m'∧NewV m m' 1 u (pidsX X b).length (il (pidsX X b)):=by
 refine Con.raw EE_ok fn42 (bA rfl) _ ?_
 have hn:X.next≠0:=by have:=hg.nx;omega
 simp only[XX,XY,F42,yA,yB,yC]
 refine cZ (none_ok (h.new'.bump _) hn) ?_
 simp only[XX,XY,F42,yA,yB,yC]
 have hN0:Nx m ((m.put (m.next+1) (.cells (ofL [.slice none 0 0]) true 0)).bump 7):=⟨by(try simp only[bN,nP]);omega,Fresh.of_low (by have:=hm.n64;(try simp only[bN,nP]);omega) (by repeat(first|exact Low.of hm nO|refine Low.put ?_ nO|refine Low.bump ?_)),λy hy=>by simp only[gB,gP,ne_new hy,if_false]⟩
 refine CallI.ex2L (some_ok (L:=L) (x:= .func (.func g) #[] #[]) hN0.fresh rfl) (by simp) λu M hv=>?_
 obtain⟨x1,x2,rfl,x3,x4,x5,x6,x7,hn1⟩:=hv
 have hNM:=hN0.trans hn1
 have n1:=hn1.next
 simp only[bN,nP] at n1 x3 x4
 have hA:FAt M L X:=h.nx hNM
 have qo:M.get (m.next+1)=some (.cells (ofL [.slice none 0 0]) true 0):=by
  rw[hn1.old _ nO]
  (simp only[gB,gP];repeat(first|rw[if_neg (by omega)]|rw[if_pos trivial]|rw[if_pos (by omega)]))
 have lx1:=hn1.fresh.lt x5
 have lx2:=hn1.fresh.lt x6
 simp only[XX,F42,yA]
 obtain⟨tl,htl⟩:∃tl,tl=[(11,Value.func (Fn.func 101) #[] #[PT x1,PT x2]),(10,Value.func (Fn.func g) #[] #[]),(9,PT L.f),(8,Value.bool false),(7,PT L.f),(5,Value.pointer (some {block:=m.next+1,off:=0})),(4,Value.slice none 0 0),(0,PT L.f),(1,Value.func (Fn.func g) #[] #[])]:=⟨_,rfl⟩
 have hmr:Fresh ((M.put M.next (.loop (lr42 tl))).bump 1):=by
  have:=hn1.fresh
  exact Fresh.of_low (by have:=this.n64;simp only[bN,nP];omega) (Low.bump (Low.put (Low.of this nO) nO))
 have hAr:FAt ((M.put M.next (.loop (lr42 tl))).bump 1) L X:=(hA.new' (j:=0)).bump 1
 have hoD:¬L.D (m.next+1):=λe=>by have:=h.lt _ e;omega
 have hlD:¬L.D M.next:=λe=>by have:=h.lt _ e;omega
 refine W_rfnx (g:=101) (l':=[(5,PT (m.next+1))]) (R:=λ_ m2=>∃M1,Nx ((M.put M.next (.loop (lr42 tl))).bump 1) M1∧ColV M1 M.next (m.next+1) (lr42 tl) 1 (pidsX X b).length (il (pidsX X b)) m2) [] [PT x1,PT x2] (by omega) (by simp only[ev_T,lk_cons,Nat.reduceLT,Nat.reduceEqDiff,reduceIte]) kr ?_ (λp hp=>?_) (λ_ m2 hI=>?_)
 ·rw[<-htl]
  have e:pidsX X b=pidsI X b X.l.length:=by unfold pidsX pidsI;rw[List.take_of_length_le (lR' _)]
  rw[e]
  have hlp:((M.put M.next (.loop (lr42 tl))).bump 1).get M.next=some (.loop (lr42 tl)):=gA
  have hoo:((M.put M.next (.loop (lr42 tl))).bump 1).get (m.next+1)=some (.cells (ofL [.slice none 0 0]) true 0):=by
   rw[gB,gP,if_neg (by omega)];exact qo
  refine some1_ok (z1:=0) (z2:=0) (cap:=[]) hmr hAr hg (by rw[gB,gP,if_neg (by omega)];exact x5) (by rw[gB,gP,if_neg (by omega)];exact x6) hcg (λy=>y=M.next∨y=m.next+1) (λy hy=>⟨nO,by omega⟩)
   (λM1 k M2=>ColV M1 M.next (m.next+1) (lr42 tl) 1 (pidsI X b k).length (il (pidsI X b k)) M2) (λM1 hn=>?_) (λM1 i M2 j hI=>hI.bump j) (λM1 i M2 hn hI=>⟨hI.next,λy hy hy2=>hI.old y hy (λe=>hy2 (.inr e)) (λe=>hy2 (.inl e)),λy hy e=>?_⟩) (λM1 i M2 j hn hi hI=>?_)
  ·exact ColV.start hn.fresh (hn.keep hmr hlp) (hn.keep hmr hoo) rfl rfl
  ·rw[hI.old y hy (λe2=>by rw[e2,hn.keep hmr hoo] at e;cases e) (λe2=>by rw[e2,hn.keep hmr hlp] at e;cases e),e]
  ·have hA1:=hAr.nx hn
   have hA2:FAt M2 L X:=hA1.keep hI.next λy hy=>hI.old y (hA1.lt y hy) (λe=>hoD (e▸hy)) (λe=>hlD (e▸hy))
   have hj:=h.lk hi
   refine⟨b (X.l.getD i 0),ht _ _ (hA2.bump j) hj,λhb=>?_,λhb j2=>?_⟩
   ·rw[pidsI_f hi hb];exact hI
   ·have hle:=pidsI_len (X:=X) (b:=b) (k:=i)
    have hln:=hg.ln
    have:=pid_round (j:=j2) hA1 hn.fresh (hn.keep hmr hlp) (by rw[htl];rfl) (lL (hmr.lt hoo) hn.next) (by omega) hoD hlD hI (by omega) hj
    rw[pidsI_t hi hb,il_snoc,aL]
    exact this
 ·simp only[List.mem_cons,List.not_mem_nil,or_false] at hp
  subst hp
  exact rv_old (by omega)
 ·obtain⟨M1,hn2,hI⟩:=hI
  have n3:=hn2.next
  simp only[bN,nP] at n3
  have n4:=hI.next
  obtain⟨co,u,k1,k2,k3,k4,k5⟩:=hI.out
  have k6:¬m.next+1=M.next:=by omega
  refine rfnQ_normal hI.loop ?_
  have n5:m.next<=m2.next:=by omega
  simp only[XX,XY,F42,yA,yB,yC,n5,k1,k3,k6]
  have hnn:∀o j,Nx m ((m2.put M.next o).bump j):=λo j=>by
   refine⟨nO,Fresh.of_low (by have:=hm.n64;simp only[bN,nP];omega) (Low.up (Low.bump (Low.put hI.low (by omega))) nO),λy hy=>?_⟩
   rw[gB,gP,if_neg (by omega),hI.old y (by omega) (by omega) (by omega),hn2.old y nO,gB,gP,if_neg (by omega),hNM.old y hy]
  refine⟨⟨(hnn _ _).next,λy hy e=>by rw[(hnn _ _).old y hy,e]⟩,k4.keep λy o hy ho=>?_,hnn _ _,λy hy=>?_⟩
  ·have:=(k5 y hy).1
   rw[gB,gP,if_neg (by omega)]
   exact ho
  ·have:=(k5 y hy).1
   omega
end
section
variable{m m' M mr:Mem}{n:Nat}{L L' L1:Loc}{X X1 X2:St}{v:Value}{fl:List Value}{pid:Int}
theorem cpuL_pn{c:Cpu}{k:Nat}:(cpuL c).all (plainN k)=true:=by
 unfold cpuL
 rw[List.all_append,List.all_append,List.all_map,List.all_map,bT,bT]
 refine⟨⟨List.all_eq_true.2 λx _=>?_,List.all_eq_true.2 λx _=>?_⟩,?_⟩<;>(try cases k)<;>rfl
theorem cpuL_one{c:Cpu}:(cpuL c).all oneCell=true:=by
 unfold cpuL
 rw[List.all_append,List.all_append,List.all_map,List.all_map,bT,bT]
 exact⟨⟨List.all_eq_true.2 λx _=>rfl,List.all_eq_true.2 λx _=>rfl⟩,rfl⟩
def toldX(X:St):St:={X with seen:=[]}
theorem told_ok(h:FAt m L X)(hm:Fresh m):∃u m',Con EE.P 47 [PT L.f] m u m'∧u=L.sv∧Be m L (toldX X) m'∧SlV m' 4 L.sv X.seen.length (X.seen.flatMap seenL):=by
 refine Con.raw EE_ok fn47 (bA rfl) _ ?_
 obtain⟨cf,f1,f2⟩:=h.fl
 have hlt:=h.ids_lt h.mf
 have k1:12+1<=cf.n:=by rw[f2.n];decide
 simp only[XX,XY,F47,yA,yB,yC,f1,f2.sv,k1]
 have hres:=h.set_sv (M:=m.bump 12) (id:=m.next) (v':= .slice none 0 0) (S:=[]) f1 f2 nO nO hm.n64 (λy _ _=>rfl) SlV.nil (.inr (.inr rfl))
 rw[<-put_bump] at*
 have hF:Fd L.D m ((m.bump 12).put L.f (.cells (cf.write 12 [.slice none 0 0]) true 0)):=((Fd.refl hm).bump 12).put (.inl (h.dm _ h.mf)) h.lt (.inl (by rw[gB,f1];simp))
 refine hF.raw ⟨rfl,⟨_,hres,⟨rfl,⟨[],by simp⟩,⟨[],by simp⟩,⟨[],by simp⟩,⟨[],by simp⟩,⟨[],by simp⟩,λy hy=>hy.imp id λe=>by omega⟩,hF⟩,?_⟩
 exact(h.ss.bump 12).put0 (by decide) (by rw[gB];exact f1)
def roomX(X:St):List Int:=[IntKind.i64.wrap (X.frames-X.contents),IntKind.i64.wrap (X.procs-X.l.length),IntKind.i64.wrap (64-X.files),IntKind.i64.wrap (16-X.pipes)]
theorem room_ok(h:FAt m L X)(hg:GX X):Con EE.P 19 [PT L.f] m (.agg ((roomX X).map In).toArray) m:=by
 refine Con.of EE_ok fn19 (bA rfl) Grow.rfl λhm=>?_
 obtain⟨cf,f1,f2⟩:=h.fl
 have hlt:=h.ids_lt h.mf
 have hn:X.next≠0:=by have:=hg.nx;omega
 have ne0:¬L.f=m.next:=by omega
 have hl:∀M,lenA EE.P 67 L.lv M=some (In X.l.length):=λM=>h.ls.lenA und_67
 have b1:∀x y z w:Int,buildA EE.P 58 [(0,In x),(1,In y),(2,In z),(3,In w)]=some (.agg [In x,In y,In z,In w].toArray):=λx y z w=>by kernel_rfl
 simp only[XX,XY,F19,yA,yB,yC]
 refine cZ (none_ok ((h.new' (j:=0)).bump _) hn) ?_
 simp only[XX,XY,F19,yA,yB,yC,f1,f2.frames,f2.contents,f2.procs,f2.files,f2.pipes,f2.lv,hl,b1,ne0]
 exact tP rfl λy hy=>gA
def cpuX(X:St)(pid:Int):Cpu:=match liveX X pid with
 |some i=>(X.p i).cpu
 |none=>cpu0
theorem cpu_pl{c:Cpu}{b:Bool}:plain (.tuple #[.agg (cpuL c).toArray, .bool b])=true:=by
 show((cpuL c).all (plainN 4)&&((true)&&true))=true
 rw[cpuL_pn];rfl
theorem cpu_ok(h:FAt m L X)(hg:GX X):Con EE.P 15 [PT L.f,In pid] m (.tuple [.agg (cpuL (cpuX X pid)).toArray, .bool (liveX X pid).isSome].toArray) m:=by
 refine Con.of EE_ok fn15 (bA rfl) Grow.rfl λhm=>?_
 have b0:buildA EE.P 47 []=some (.agg (cpuL cpu0).toArray):=kr
 have h11:(cpuL cpu0).length=11:=rfl
 have ho:= @cpuL_one
 simp only[XX,XY,F15,yA,yB,yC]
 refine cZ (live_ok ((h.new' (j:=0)).bump _) hg) ?_
 unfold cpuX
 cases hl:liveX X pid with
 |none=>
  simp only[XX,XY,F15,yA,yB,yC,pV,b0,h11,ho,Option.isSome_none]
  exact tP cpu_pl λy hy=>gA
 |some i=>
  obtain⟨hi,_,_⟩:=findX_live h hl
  obtain⟨cs,h1,h2⟩:=h.pr i hi
  have hlt:=h.ids_lt (h.mp hi)
  have ne0:¬L.p i=m.next:=by omega
  have h12:=cpuL_len h2.okc
  have hw:∀c:Cells,c.n=11->(c.write 0 (cpuL (X.p i).cpu)).sub 0 11=some (cpuL (X.p i).cpu):=λc hc=>sub_write_same h12 (by rw[hc];decide)
  simp only[XX,XY,F15,yA,yB,yC,pV,h1,h2.cpu,h12,ho,ne0,hw]
  exact tP cpu_pl λy hy=>gA
def byteX(X:St)(i:Nat)(a:BitVec 32):Option (BitVec 8):=(atX (X.p i) a).map λg=>(X.c (X.g g).c).b.getD (a.toNat % 64) 0#8
def byV(x:Option (BitVec 8)):Value:= .tuple [By (x.getD 0#8), .bool x.isSome].toArray
theorem by_0:byV none= .tuple [.int .u8 0, .bool false].toArray:=rfl
theorem cont_nth{r:Cont}{cs:Cells}(h:CC L r cs)(hl:r.b.length=64){k:Nat}(hk:k<64):cs.nth k=some (By (r.b.getD k 0#8)):=by
 have:=sub_nth (k:=k) h.b hk
 rw[Nat.zero_add] at this
 rw[this,gM',gD',gE' (by omega)];rfl
theorem byte_ok(h:FAt m L X)(hg:GX X){i:Nat}(hi:i<X.P.length){a:BitVec 32}:Con EE.P 64 [PT (L.p i),Um a] m (byV (byteX X i a)) m:=by
 refine Con.of EE_ok fn64 (bA rfl) Grow.rfl λhm=>?_
 simp only[XX,XY,F64,yA,yB,yC]
 refine cZ (at_ok (h.bump _) hg hi) ?_
 unfold byteX
 cases ha:atX (X.p i) a with
 |none=>
  simp only[XX,XY,F64,yA,yB,yC,pV]
  exact tP rfl λ_ _=>rfl
 |some g=>
  have hgl:g<X.G.length:=by
   unfold atX at ha
   split at ha
   ·cases ha
   ·exact(hg.pg i hi).2 _ _ ha
  obtain⟨cg,g1,g2⟩:=h.pg g hgl
  have hcl:=hg.gc g hgl
  obtain⟨cc,c1,c2⟩:=h.ct _ hcl
  have q1:(0:Int)<=((a.toNat % 64:Nat):Int):=by omega
  have q2:((a.toNat % 64:Nat):Int)<((64:Nat):Int):=by omega
  have hq:=cont_nth c2 (hg.cb _ hcl) (k:=a.toNat % 64) (by omega)
  simp only[XX,XY,F64,yA,yB,yC,pV,g1,g2.c,c1,bin_rem32,q1,q2,hq]
  exact tP rfl λ_ _=>rfl
def rdyB(X:St)(i:Nat):Bool:=decide ((X.p i).state=1)&&decide ((X.p i).wait=0)
theorem ready_t(h:FAt m L X){i:Nat}(hi:i<X.P.length):Con EE.P 43 [PT (L.p i)] m (.bool (rdyB X i)) m:=by
 refine Con.of EE_ok fn43 (bA rfl) Grow.rfl λhm=>?_
 obtain⟨cs,h1,h2⟩:=h.pr i hi
 unfold rdyB
 cases hd:decide ((X.p i).state=1) with
 |true=>
  simp only[XX,XY,F43,yA,yB,yC,h1,h2.state,h2.wait,hd]
  exact tP rfl λ_ _=>rfl
 |false=>
  simp only[XX,XY,F43,yA,yB,yC,h1,h2.state,hd,Bool.false_and]
  exact tP rfl λ_ _=>rfl
theorem pids_t{i:Nat}:Con EE.P 49 [PT (L.p i)] m (.bool true) m:=by
 refine Con.of EE_ok fn49 (bA rfl) Grow.rfl λhm=>?_
 simp only[XX,XY,F49,yA,yB,yC]
 exact tP rfl λ_ _=>rfl
theorem Ready_ok(h:FAt m L X)(hm:Fresh m)(hg:GX X):∃u m',Con EE.P 14 [PT L.f] m u m'∧NewV m m' 1 u (pidsX X (rdyB X)).length (il (pidsX X (rdyB X))):=by
 refine Con.raw EE_ok fn14 (bA rfl) _ ?_
 simp only[XX,XY,F14,yA,yB,yC]
 refine cX (pids_ok (h.bump _) hm.bump hg (g:=43) (b:=rdyB X) kr λM i hA hi=>ready_t hA hi) λu M hN=>?_
 have hN':=hN.of_bump
 have n1:=hN'.nx.next
 simp only[XX,XY,yA,yB]
 exact⟨hN'.raw,hN'⟩
theorem Pids_ok(h:FAt m L X)(hm:Fresh m)(hg:GX X):∃u m',Con EE.P 22 [PT L.f] m u m'∧NewV m m' 1 u (pidsX X λ_=>true).length (il (pidsX X λ_=>true)):=by
 refine Con.raw EE_ok fn22 (bA rfl) _ ?_
 simp only[XX,XY,F22,yA,yB,yC]
 refine cX (pids_ok (h.bump _) hm.bump hg (g:=49) (b:=λ_=>true) kr λM i hA hi=>pids_t) λu M hN=>?_
 have hN':=hN.of_bump
 have n1:=hN'.nx.next
 simp only[XX,XY,yA,yB]
 exact⟨hN'.raw,hN'⟩
end
end
end Go.Ab
