/- Part. -/
import Derived.Test.YtdhcheegbnnlbaaGreatDoorA06
set_option linter.all false
open Go.Ab.Mem renaming get_put → gP
open List renaming getD_eq_getElem?_getD → gD', getElem?_eq_getElem → gE', getElem?_append_left → aB', getElem?_map → gM'
open Option.some renaming injEq → sI
open Nat renaming lt_of_lt_of_le → lL, le_refl → lR'
open Go.Ab.Cells renaming ofList → ofL
namespace Go.Ab
noncomputable section
section
variable{P:Program}{E:Env}{n0:Nat}
abbrev JJ:Value:= .chan (some 0)
def lk:List (Nat×Value)->Nat->Value
 |[],_=>JJ
 |(k,v)::l,n=>if k=n then v else lk l n
def T(n:Nat)(l:List (Nat×Value)):List Value:=(List.range n).map (lk l)
theorem lk_cons(k:Nat)(v:Value)(l:List (Nat×Value))(n:Nat):lk ((k,v)::l) n=if k=n then v else lk l n:=rfl
theorem T_get{n k:Nat}{l:List (Nat×Value)}(h:k<n):(T n l).getD k undef=lk l k:=by
 simp[T,gD',h]
theorem T_length(n:Nat)(l:List (Nat×Value)):(T n l).length=n:=by simp[T]
theorem ev_T{n k:Nat}{l:List (Nat×Value)}(h:k<n):ev (.tmp k) (T n l)=lk l k:=T_get h
theorem ev_const(t:List Value)(v:Value):ev (.const v) t=v:=rfl
theorem ev_func(t:List Value)(f:FuncId):ev (.func f) t= .func (.func f) #[] #[]:=rfl
theorem ev_global(t:List Value)(g:Nat):ev (.global g) t=ptr g 0:=rfl
theorem T_set{n k:Nat}{l:List (Nat×Value)}{v:Value}(h:k<n):(T n l).set k v=T n ((k,v)::l):=by
 apply List.ext_getElem?
 intro i
 rw[List.getElem?_set]
 by_cases e:k=i
 ·subst e
  simp[T,lk,h]
 ·rw[if_neg e]
  simp only[T,gM']
  rcases Nat.lt_or_ge i n with hi|hi
  ·rw[List.getElem?_range hi]
   simp[lk,e]
  ·rw[List.getElem?_eq_none (by simpa using hi)]
   rfl
def enumV:Nat->List Value->List (Nat×Value)
 |_,[]=> []
 |i,v::l=>(i,v)::enumV (i+1) l
theorem lk_enumV:∀(l:List Value) (i k:Nat),lk (enumV i l) k=if i<=k∧k<i+l.length then l.getD (k-i) undef else JJ
 |[],i,k=>by simp[enumV,lk];omega
 |v::l,i,k=>by
  rw[enumV,lk_cons,lk_enumV l (i+1) k]
  by_cases h:i=k
  ·subst h;simp
  ·rw[if_neg h]
   by_cases h2:i+1<=k∧k<i+1+l.length
   ·rw[if_pos h2,if_pos ⟨by omega,by simp;omega⟩]
    have:k-i=(k-(i+1))+1:=by omega
    rw[this]
    simp
   ·rw[if_neg h2,if_neg (by simp;omega)]
def RV(n0:Nat)(Φ:List (Nat×Nat))(v v':Value):Prop:=∀(ρ ρ':Rho) (w:Value),(∀b,b<n0->ρ' b=ρ b)->(∀p∈Φ,ρ' p.2=ρ p.1)->VRel Sig.none ρ v w->VRel Sig.none ρ' v' w
def rb(n0:Nat)(Φ:List (Nat×Nat))(a b:Nat):Prop:=(a=b∧b<n0)∨(a,b)∈Φ
theorem rb.eq{Φ:List (Nat×Nat)}{a b:Nat}(h:rb n0 Φ a b){ρ ρ':Rho}(h1:∀b,b<n0->ρ' b=ρ b)(h2:∀p∈Φ,ρ' p.2=ρ p.1):ρ' b=ρ a:=by
 rcases h with⟨rfl,h⟩|h
 ·exact h1 _ h
 ·exact h2 _ h
section
variable{Φ:List (Nat×Nat)}
theorem rv_J(v:Value):RV n0 Φ v JJ:=λ_ _ _ _ _ _=> .junk
theorem rv_ptr{a b o:Nat}(h:rb n0 Φ a b):RV n0 Φ (.pointer (some ⟨a,o,none⟩)) (.pointer (some ⟨b,o,none⟩)):=λρ ρ' _ h1 h2 hv=>by
 cases hv with
 |ptr hp=>exact .ptr ((h.eq h1 h2).trans hp)
theorem rv_plain{v:Value}(h:plain v=true):RV n0 Φ v v:=λρ ρ' w h1 h2 hv=>by
 rw[<-plain_eq h hv];exact plain_refl _ h
theorem rv_T{n:Nat}{l l':List (Nat×Value)}(h:∀p∈l',RV n0 Φ (lk l p.1) p.2){ρ ρ':Rho}(h1:∀b,b<n0->ρ' b=ρ b)(h2:∀p∈Φ,ρ' p.2=ρ p.1){v:List Value}(hv:LRel Sig.none ρ (T n l) v):LRel Sig.none ρ' (T n l') v:=by
 refine⟨by rw[<-hv.1,T_length,T_length],λi hi=>?_⟩
 rw[T_length] at hi
 have hr:=hv.2 i (by rwa[T_length])
 rw[T_get hi] at hr⊢
 have key:∀l':List (Nat×Value),(∀p∈l',RV n0 Φ (lk l p.1) p.2)->RV n0 Φ (lk l i) (lk l' i):=by
  intro l'
  induction l' with
  |nil=>exact λ_=>rv_J _
  |cons p l' ih=>
   intro h
   obtain⟨k,v⟩:=p
   rw[lk_cons]
   by_cases e:k=i
   ·subst e;rw[if_pos rfl];exact h (k,v) (by simp)
   ·rw[if_neg e];exact ih λq hq=>h q (by simp[hq])
 exact key l' h _ _ _ h1 h2 hr
def RO(n0:Nat)(Φ:List (Nat×Nat)):AObj->AObj->Prop
 | .cells c rw sz, .cells c' rw' sz'=>rw=rw'∧sz=sz'∧c.n=c'.n∧∀i,i<c.n->RV n0 Φ (c.get i) (c'.get i)
 | .map es rw, .map es' rw'=>rw=rw'∧es.length=es'.length∧∀(i:Nat) (e e':Value×Value),es[i]? =some e->es'[i]? =some e'->RV n0 Φ e.1 e'.1∧RV n0 Φ e.2 e'.2
 |_,_=>False
theorem list_getD(c:Cells){i:Nat}(h:i<c.n):c.list.getD i undef=c.get i:=by
 rw[gD',Cells.list_get,if_pos h];rfl
theorem RO.rel{ρ ρ':Rho}(h1:∀b,b<n0->ρ' b=ρ b)(h2:∀p∈Φ,ρ' p.2=ρ p.1){w:World}{x:Nat×Nat×Nat}{o o':AObj}(h:RO n0 Φ o o')(hR:ORel Sig.none ρ w x o):ORel Sig.none ρ' w x o'∧wr o=wr o':=by
 cases o with
 |cells c rw sz=>
  cases o' with
  |cells c' rw' sz'=>
   obtain⟨rfl,rfl,hn,h⟩:=h
   obtain⟨cs,t,fz,g1,g2,g3,g4⟩:=hR
   rw[Cells.list_length] at g2 g4
   refine⟨⟨cs,t,fz,g1,by rw[Cells.list_length,<-hn];exact g2,g3,λi hi=>?_⟩,rfl⟩
   rw[Cells.list_length,<-hn] at hi
   have:=g4 i hi
   rw[list_getD c hi] at this
   rw[list_getD c' (hn▸hi)]
   exact h i hi _ _ _ h1 h2 this
  |_=>exact h.elim
 |map es rw=>
  cases o' with
  |map es' rw'=>
   obtain⟨rfl,hn,h⟩:=h
   obtain⟨es2,ck,g1,g2,g3,g4⟩:=hR
   refine⟨⟨es2,ck,g1,g2,hn▸g3,λi e he=>?_⟩,rfl⟩
   have hi:i<es.length:=hn▸(List.getElem?_eq_some_iff.1 he).1
   obtain⟨e2,k1,k2,k3⟩:=g4 i _ (gE' hi)
   obtain⟨j1,j2⟩:=h i _ _ (gE' hi) he
   exact⟨e2,k1,j1 _ _ _ h1 h2 k2,j2 _ _ _ h1 h2 k3⟩
  |_=>exact h.elim
 |_=>exact h.elim
end
theorem VRel.restrict{ρ ρ1 ρ2:Rho}(hd:∀b x,ρ b=some x->ρ2 b=ρ1 b){v u u1:Value}(h:VRel Sig.none ρ v u)(h1:VRel Sig.none ρ1 v u1):VRel Sig.none ρ2 v u1:=by
 induction h generalizing u1 with
 |bool b=>cases h1;exact .bool _
 |int k n=>cases h1;exact .int _ _
 |float k n=>cases h1;exact .float _ _
 |complex k a b=>cases h1;exact .complex _ _ _
 |string s=>cases h1;exact .string _
 |nilFunc=>cases h1;exact .nilFunc
 |nilIface=>cases h1;exact .nilIface
 |nilMap=>cases h1;exact .nilMap
 |nilPtr=>cases h1;exact .nilPtr
 |nilSlice=>cases h1;exact .nilSlice
 |ptr h=>cases h1 with|ptr h'=>exact .ptr ((hd _ _ h).trans h')
 |slice h hc hn=>cases h1 with|slice h' hc' hn'=>exact .slice ((hd _ _ h).trans h') hc' hn'
 |lost a c=>cases h1 with|lost a c=>exact .lost a c
 |map h=>cases h1 with|map h'=>exact .map ((hd _ _ h).trans h')
 |iface t _ ih=>cases h1 with|iface t h'=>exact .iface t (ih h')
 |sym h=>exact h.elim
 |func hy hm e1 _ e3 _ ih2 ih4=>cases h1 with
  |sym h=>exact h.elim
  |func hy' hm' f1 f2 f3 f4=>exact .func hy' hm' f1 (λi hi=>ih2 i hi (f2 i hi)) f3 (λi hi=>ih4 i hi (f4 i hi))
  |yield h=>exact absurd rfl (hy _)
  |meth h'=>exact .meth (ih2 0 (by simp) (by simpa using h'))
 |meth _ ih=>cases h1 with
  |func hy' hm' f1 f2 f3 f4=>
   refine .func hy' hm' f1 (λi hi=>?_) f3 (λi hi=>by simp at hi)
   have h0:i=0:=by simp at hi;omega
   subst h0
   exact ih (f2 0 (by simp))
  |meth h'=>exact .meth (ih h')
 |yield h=>cases h1 with
  |func hy=>exact absurd rfl (hy _)
  |yield h'=>exact .yield ((hd _ _ h).trans h')
 |junk=>exact .junk
 |tie h=>exact h.elim
 |agg e1 _ ih=>cases h1 with|agg f1 f2=>exact .agg f1 λi hi=>ih i hi (f2 i hi)
 |tuple e1 _ ih=>cases h1 with|tuple f1 f2=>exact .tuple f1 λi hi=>ih i hi (f2 i hi)
theorem LRel.restrict{ρ ρ1 ρ2:Rho}(hd:∀b x,ρ b=some x->ρ2 b=ρ1 b){l u u1:List Value}(h:LRel Sig.none ρ l u)(h1:LRel Sig.none ρ1 l u1):LRel Sig.none ρ2 l u1:=⟨h1.1,λi hi=>(h.2 i hi).restrict hd (h1.2 i hi)⟩
theorem ORel.restrict{ρ ρ1 ρ2:Rho}(hd:∀b x,ρ b=some x->ρ2 b=ρ1 b){w w1:World}{x:Nat×Nat×Nat}{o:AObj}(h:ORel Sig.none ρ w x o)(h1:ORel Sig.none ρ1 w1 x o):ORel Sig.none ρ2 w1 x o:=by
 cases o with
 |cells c rw sz=>
  obtain⟨_,_,_,_,_,_,g4⟩:=h
  obtain⟨cs',t,fz,k1,k2,k3,k4⟩:=h1
  exact⟨cs',t,fz,k1,k2,k3,λi hi=>(g4 i hi).restrict hd (k4 i hi)⟩
 |map es rw=>
  obtain⟨es',c,_,_,_,g4⟩:=h
  obtain⟨es2,c2,k1,k2,k3,k4⟩:=h1
  exact⟨es2,c2,k1,k2,k3,λi e he=>by
   obtain⟨_,_,f1,f2⟩:=g4 i e he
   obtain⟨e',j1,j2,j3⟩:=k4 i e he
   exact⟨e',j1,f1.restrict hd j2,f2.restrict hd j3⟩⟩
 |strIter s pos=>exact h1
 |loop r=>
  obtain⟨_,_,_,_,g4,_⟩:=h
  obtain⟨r',k1,k2,k3,k4,k5⟩:=h1
  exact⟨r',k1,k2,k3,g4.restrict hd k4,k5⟩
 |frz tag=>exact h1
structure Tidy(m m1:Mem)(v1 v:Value)(m':Mem)(Φ:List (Nat×Nat)):Prop where
 next:m.next<=m'.next
 new:∀p∈Φ,m.next<=p.1∧m.next<=p.2∧p.2<m'.next
 nodup:(Φ.map (·.2)).Nodup
 nodup1:(Φ.map (·.1)).Nodup
 val:RV m.next Φ v1 v
 get:(∀b,m.next<=b->m.get b=none)->∀b o,m'.get b=some o->(b<m.next∧∃o1,m1.get b=some o1∧((o1=o∧m.get b=some o)∨RO m.next Φ o1 o))∨(∃a,(a,b)∈Φ∧∃o1,m1.get a=some o1∧RO m.next Φ o1 o)
 grow:∀b,b<m.next->m.get b=none->m'.get b=none
def reρ(n:Nat)(Φ:List (Nat×Nat))(ρ ρ1:Rho):Rho:=λb=>if b<n then ρ b else match Φ.find? (λp=>p.2==b) with
 |some p=>ρ1 p.1
 |none=>none
theorem find_nodup:∀{Φ:List (Nat×Nat)} {p:Nat×Nat},(Φ.map (·.2)).Nodup->p∈Φ->Φ.find? (λq=>q.2==p.2)=some p
 |[],p,_,h=>by cases h
 |q::Φ,p,hn,h=>by
  simp only[List.map_cons,List.nodup_cons] at hn
  rw[List.find?_cons]
  rcases List.mem_cons.1 h with rfl|h
  ·simp
  ·have:q.2≠p.2:=λe=>hn.1 (e▸List.mem_map_of_mem h)
   rw[show(q.2==p.2)=false by simpa using this]
   exact find_nodup hn.2 h
theorem reρ_new{n:Nat}{Φ:List (Nat×Nat)}{ρ ρ1:Rho}(hn:(Φ.map (·.2)).Nodup){p:Nat×Nat}(hp:p∈Φ)(hge:n<=p.2):reρ n Φ ρ ρ1 p.2=ρ1 p.1:=by
 unfold reρ
 rw[if_neg (by omega),find_nodup hn hp]
theorem reρ_some{n:Nat}{Φ:List (Nat×Nat)}{ρ ρ1:Rho}{b:Nat}{x:Nat×Nat×Nat}(h:reρ n Φ ρ ρ1 b=some x)(hb:¬b<n):∃a,(a,b)∈Φ∧ρ1 a=some x:=by
 unfold reρ at h
 rw[if_neg hb] at h
 split at h
 ·rename_i p hp
  have h1:=List.mem_of_find?_eq_some hp
  have h2:p.2=b:=by simpa using List.find?_some hp
  exact⟨p.1,by rw[<-h2];exact h1,h⟩
 ·cases h
theorem fst_inj:∀{Φ:List (Nat×Nat)} {a b c:Nat},(Φ.map (·.1)).Nodup->(a,b)∈Φ->(a,c)∈Φ->b=c
 |[],_,_,_,_,h,_=>by cases h
 |q::Φ,a,b,c,hn,h1,h2=>by
  simp only[List.map_cons,List.nodup_cons] at hn
  rcases List.mem_cons.1 h1 with e1|h1<;>rcases List.mem_cons.1 h2 with e2|h2
  ·exact(Prod.mk.inj (e1.trans e2.symm)).2
  ·exact absurd (List.mem_map_of_mem (f:=(·.1)) h2) (by rw[<-e1] at hn;exact hn.1)
  ·exact absurd (List.mem_map_of_mem (f:=(·.1)) h1) (by rw[<-e2] at hn;exact hn.1)
  ·exact fst_inj hn.2 h1 h2
theorem Tidy.ret{m m1 m':Mem}{v1 v:Value}{Φ:List (Nat×Nat)}(ht:Tidy m m1 v1 v m' Φ){ρ:Rho}{w:World}(hR:Rel Sig.none ρ m w){e:Ending}{w1:World}(h:TRet Sig.none m.next ρ m w v1 m1 e w1):Ret Sig.none ρ m w v m' e w1:=by
 obtain⟨u,ρ1,rfl,hu,hp,hk⟩:=h
 have hlow:∀b,b<m.next->reρ m.next Φ ρ ρ1 b=ρ1 b:=λb hb=>by unfold reρ;rw[if_pos hb,hk b hb]
 have hlow':∀b,b<m.next->reρ m.next Φ ρ ρ1 b=ρ b:=λb hb=>by unfold reρ;rw[if_pos hb]
 have hnew:∀p∈Φ,reρ m.next Φ ρ ρ1 p.2=ρ1 p.1:=λp hp=>reρ_new ht.nodup hp (ht.new p hp).2.1
 have h64:64<=m.next:=by
  rcases Nat.lt_or_ge m.next 64 with h|h
  ·have:=hR.glob m.next h
   rw[hR.dom _ (lR' _)] at this
   cases this
  ·exact h
 have hdom:∀b x,ρ b=some x->b<m.next:=λb x hb=>by
  rcases Nat.lt_or_ge b m.next with h|h
  ·exact h
  ·rw[hR.dom b h] at hb;cases hb
 have src:∀b o x,m'.get b=some o->reρ m.next Φ ρ ρ1 b=some x->∃a o1,m1.get a=some o1∧ρ1 a=some x∧wr o1=wr o∧ORel Sig.none (reρ m.next Φ ρ ρ1) w1 x o∧((a=b∧b<m.next)∨((a,b)∈Φ∧m.next<=a)):=by
  intro b o x hb hx
  rcases ht.get hR.fresh b o hb with⟨hlt,o1,g1,g2⟩|⟨a,ha,o1,g1,g2⟩
  ·rw[hlow b hlt] at hx
   have hobj:=hp.rel.obj b o1 x g1 hx
   rcases g2 with⟨rfl,g2⟩|g2
   ·refine⟨b,o1,g1,hx,rfl,?_, .inl ⟨rfl,hlt⟩⟩
    have h0:=hR.obj b o1 x g2 (by rw[<-hk b hlt];exact hx)
    exact h0.restrict (λc y hc=>hlow c (hdom c y hc)) hobj
   ·obtain⟨k1,k2⟩:=g2.rel hlow hnew hobj
    exact⟨b,o1,g1,hx,k2,k1, .inl ⟨rfl,hlt⟩⟩
  ·rw[hnew _ ha] at hx
   obtain⟨k1,k2⟩:=g2.rel hlow hnew (hp.rel.obj a o1 x g1 hx)
   exact⟨a,o1,g1,hx,k2,k1, .inr ⟨ha,(ht.new _ ha).1⟩⟩
 have bnd:∀b o,m'.get b=some o->b<m'.next:=λb o hb=>by
  rcases ht.get hR.fresh b o hb with⟨hlt,_⟩|⟨a,ha,_⟩
  ·exact lL hlt ht.next
  ·exact(ht.new _ ha).2.2
 refine⟨u,reρ m.next Φ ρ ρ1,rfl,ht.val _ _ _ hlow hnew hu,⟨⟨λb hb=>?_,λg hg=>?_,λb o x hb hx=>?_,λb1 b2 o1 o2 x1 x2 hne g1 g2 k1 k2 hw=>?_,λb hb=>?_⟩,λb x hb=>?_,ht.next,hp.size,hp.os,hp.tape,hp.output,hp.frame,λb o x hb hx hlt=>?_⟩,λb hb e=>?_⟩
 ·cases hx:reρ m.next Φ ρ ρ1 b with
  |none=>rfl
  |some x=>
   obtain⟨a,ha,_⟩:=reρ_some hx (by have:=ht.next;omega)
   have:=(ht.new _ ha).2.2
   simp only at this
   omega
 ·rw[hlow' g (by omega)];exact hR.glob g hg
 ·obtain⟨a,o1,_,_,_,k,_⟩:=src b o x hb hx
  exact k
 ·obtain⟨a1,p1,i1,i2,i3,_,i4⟩:=src b1 o1 x1 g1 k1
  obtain⟨a2,p2,j1,j2,j3,_,j4⟩:=src b2 o2 x2 g2 k2
  refine hp.rel.inj a1 a2 p1 p2 x1 x2 (λe=>hne ?_) i1 j1 i2 j2 (i3.trans hw)
  subst e
  rcases i4 with⟨rfl,i4⟩|⟨i4,i5⟩<;>rcases j4 with⟨rfl,j4⟩|⟨j4,j5⟩
  ·rfl
  ·omega
  ·omega
  ·exact fst_inj ht.nodup1 i4 j4
 ·cases hx:m'.get b with
  |none=>rfl
  |some o=>have:=bnd b o hx;omega
 ·rw[hlow' b (hdom b x hb)];exact hb
 ·obtain⟨a,o1,i1,i2,i3,_,_⟩:=src b o x hb hx
  obtain⟨b0,o0,x0,q1,q2,q3,q4⟩:=hp.img a o1 x i1 i2 hlt
  exact⟨b0,o0,x0,q1,q2,q3,λhw=>q4 (i3.trans hw)⟩
 ·rw[hlow' b hb];exact e
theorem Tidy.call{f:FuncId}{args:List Value}{m m1 m':Mem}{v1 v:Value}{Φ:List (Nat×Nat)}(ht:Tidy m m1 v1 v m' Φ)(h:TCall Sig.none Sig.none P m.next f args m v1 m1):CallOk Sig.none P f args m v m'∧Grow m m':=
 ⟨λρ w args' hR ha=>(h ρ w args' hR ha).mono λ_ _ h=>ht.ret hR h,ht.next,ht.grow⟩
theorem tidy_pure{m m1:Mem}{v1 v:Value}(hv:RV m.next [] v1 v)(h:∀b,b<m.next->m1.get b=m.get b):∃Φ,Tidy m m1 v1 v m Φ:=by
 refine⟨[],lR' _,by simp,by simp,by simp,hv,λhf b o hb=>?_,λb _ e=>e⟩
 rcases Nat.lt_or_ge b m.next with hlt|hge
 ·exact .inl ⟨hlt,o,(h b hlt).trans hb, .inl ⟨rfl,hb⟩⟩
 ·rw[hf b hge] at hb;cases hb
theorem WX.call(hE:EnvOk E){f:FuncId}{s:SFunc}{args:List Value}{m m':Mem}{v:Value}(hf:fnOf E.P f=some s)
  (h:args.length<=s.ntmps∧WX E m.next none s.body (T s.ntmps (enumV 0 args)) m λx t m1=>(x= .normal∨x= .ret)∧∃vs,resA E.P t m1 s.results=some vs∧∃Φ,Tidy m m1 (oneOr vs) v m' Φ):CallOk Sig.none E.P f args m v m'∧Grow m m':=by
 obtain⟨hl,h⟩:=h
 obtain⟨x,t,m1,h1,h2,vs,h3,Φ,h4⟩:=WX.ok hE h
 refine h4.call (TCall.of_code hf h2 (TOk.pre ?_ h1) h3)
 intro ρ w ts l hR ht hrd
 refine⟨ρ,hR,⟨by rw[<-ht.1,T_length];simp;omega,λi hi=>?_⟩,hrd,λ_ _=>rfl,λb o x hb hx=>⟨b,o,x,hb,hx,rfl,rfl⟩⟩
 rw[T_length] at hi
 rw[T_get hi,lk_enumV]
 split
 ·rename_i hh
  have:=ht.2 i (by simp;omega)
  rw[gD',aB' (by omega),<-gD'] at this
  simpa using this
 ·exact .junk
theorem resA_nil{t:List Value}{m:Mem}:resA P t m []=some []:=rfl
theorem resA_tmp{t:List Value}{m:Mem}{k:Nat}{l:List ResultVar}:resA P t m (.tmp k::l)=(resA P t m l).map (t.getD k undef::·):=by
 show(match resA P t m l with|some vs=>some (t.getD k undef::vs)|none=>none)=_
 cases resA P t m l<;>rfl
theorem resA_cell{t:List Value}{m:Mem}{k:Nat}{ty:TypeId}{l:List ResultVar}:resA P t m (.cell k ty::l)=(loadA P ty (t.getD k undef) m).bind λv=>(resA P t m l).map (v::·):=by
 show(match loadA P ty (t.getD k undef) m,resA P t m l with|some v,some vs=>some (v::vs)|_,_=>none)=_
 cases loadA P ty (t.getD k undef) m<;>cases resA P t m l<;>rfl
theorem oneOr1{v:Value}:oneOr [v]=v:=rfl
theorem oneOr2{a b:Value}{l:List Value}:oneOr (a::b::l)= .tuple (a::b::l).toArray:=rfl
end
section
variable{P:Program}{E:Env}{n0:Nat}{base i:Nat}{rest:List (Nat×SOp)}{L:List Inst}{t:List Value}{m:Mem}{Q:List Inst->List Value->Mem->Prop}{ty rt:TypeId}{d:Tmp}
def okP{α:Type}(x:Option α)(k:α->Prop):Prop:=match x with
 |some a=>k a
 |none=>False
theorem okP_iff{α:Type}{x:Option α}{k:α->Prop}:okP x k↔∃a,x=some a∧k a:=by
 cases x<;>simp[okP]
theorem okP_map{α β:Type}{x:Option α}{f:α->β}{k:β->Prop}:okP (x.map f) k↔okP x λa=>k (f a):=by
 cases x<;>simp[okP]
theorem reqA_none{o:SOp}(h:cls o.op≠ .eff)(r:Operand->Value):reqA P o r m=none:=by
 unfold reqA
 split
 ·rename_i hc;exact absurd hc h
 ·rfl
theorem XW_pure{o:SOp}(hg:o.guard=none)(hc:cls o.op= .pure):XW E base ((i,o)::rest) L t m Q↔okP (pureE E o (ev · t)) λv=>XW E base rest L (putT o.dst v t) m Q:=by
 rw[XW,hg,okP_iff]
 simp only[gOk,wanted,StepX,opA,hc,reqA_none (o:=o) (by rw[hc];simp),true_and,Bool.true_eq_false,false_and,or_false,reduceCtorEq,exists_false]
 constructor
 ·rintro⟨v,m',h1,h2⟩
  split at h1
  ·rename_i u hu
   cases h1
   exact⟨_,hu,h2⟩
  ·cases h1
 ·rintro⟨v,h1,h2⟩
  exact⟨v,m,by rw[h1],h2⟩
theorem XW_read{o:SOp}(hg:o.guard=none)(hc:cls o.op= .read):XW E base ((i,o)::rest) L t m Q↔okP (readE E o (ev · t) m) λv=>XW E base rest L (putT o.dst v t) m Q:=by
 rw[XW,hg,okP_iff]
 simp only[gOk,wanted,StepX,opA,hc,reqA_none (o:=o) (by rw[hc];simp),true_and,Bool.true_eq_false,false_and,or_false,reduceCtorEq,exists_false]
 constructor
 ·rintro⟨v,m',h1,h2⟩
  split at h1
  ·rename_i u hu
   cases h1
   exact⟨_,hu,h2⟩
  ·cases h1
 ·rintro⟨v,h1,h2⟩
  exact⟨v,m,by rw[h1],h2⟩
theorem XW_make{o:SOp}(hg:o.guard=none)(hc:cls o.op= .make):XW E base ((i,o)::rest) L t m Q↔okP (makeA E.P o (ev · t)) λq=>XW E base rest L (putT o.dst (q.2 (base+i)) t) (m.put (base+i) q.1) Q:=by
 rw[XW,hg,okP_iff]
 simp only[gOk,wanted,StepX,opA,hc,reqA_none (o:=o) (by rw[hc];simp),true_and,Bool.true_eq_false,false_and,or_false,reduceCtorEq,exists_false]
 constructor
 ·rintro⟨v,m',h1,h2⟩
  split at h1
  ·rename_i u hu
   cases h1
   exact⟨_,hu,h2⟩
  ·cases h1
 ·rintro⟨v,h1,h2⟩
  exact⟨_,_,by rw[h1],h2⟩
theorem XW_val{o:SOp}{q:Option (Value×Mem)}(hg:o.guard=none)(hc:cls o.op= .eff)(he:effA E.P (base+i) o (ev · t) m=q.map λp=>(.val p.1,p.2))(hr:reqA E.P o (ev · t) m=none):
  XW E base ((i,o)::rest) L t m Q↔okP q λp=>XW E base rest L (putT o.dst p.1 t) p.2 Q:=by
 rw[XW,hg,okP_iff]
 simp only[gOk,wanted,StepX,opA,hc,hr,he,true_and,Bool.true_eq_false,false_and,or_false,reduceCtorEq,exists_false]
 constructor
 ·rintro⟨v,m',h1,h2⟩
  cases q with
  |none=>cases h1
  |some p=>cases h1;exact⟨p,rfl,h2⟩
 ·rintro⟨p,rfl,h2⟩
  exact⟨p.1,p.2,rfl,h2⟩
def CallW(E:Env)(L:List Inst)(tk:Task)(m:Mem)(K:List Inst->Value->Mem->Prop):Prop:=∃v m2,(⟨tk,m,v,m2⟩:Inst).Ok E.P∧(∀c∈L,c.tk=tk->c.m=m->c.v=v∧c.m'=m2)∧K (⟨tk,m,v,m2⟩::L) v m2
theorem XW_task{o:SOp}{tk:Task}{m1:Mem}(hg:o.guard=none)(hr:reqA E.P o (ev · t) m=some (tk,m1))(h:CallW E L tk m1 λL' v m'=>XW E base rest L' (putT o.dst v t) m' Q):XW E base ((i,o)::rest) L t m Q:=by
 rw[XW,hg]
 obtain⟨v,m2,h1,h2,h3⟩:=h
 exact⟨rfl, .inl ⟨rfl, .inr ⟨tk,m1,v,m2,hr,h1,h2,h3⟩⟩⟩
theorem XW_move{x:Operand}:XW E base ((i,⟨some d, .move x,ty,none⟩)::rest) L t m Q↔XW E base rest L (t.set d (ev x t)) m Q:=XW_pure rfl rfl
theorem XW_assign{x:Operand}:XW E base ((i,⟨some d, .assign x,ty,none⟩)::rest) L t m Q↔XW E base rest L (t.set d (ev x t)) m Q:=XW_pure rfl rfl
def pickV(c a b:Value):Option Value:=match c with
 | .bool c=>some (if c then a else b)
 |_=>none
theorem pickV_bool{c:Bool}{a b:Value}:pickV (.bool c) a b=some (if c then a else b):=rfl
theorem pureE_none{o:SOp}{r:Operand->Value}(hs:∀o r,E.sym o r=none):pureE E o r=pureA E.P o r:=by
 unfold pureE
 cases pureA E.P o r with
 |none=>exact hs o r
 |some v=>rfl
theorem readE_none{o:SOp}{r:Operand->Value}(hs:∀o r,E.sym o r=none):readE E o r m=readA E.P o r m:=by
 unfold readE
 cases readA E.P o r m with
 |none=>exact hs o r
 |some v=>rfl
variable(hs:∀o r,E.sym o r=none)
include hs
def GD(c:Value)(b:Bool)(A B:Prop):Prop:=gOk (some (0,b)) [c]=true∧match c with
 | .bool c=>(c=b->A)∧(c≠b->B)
 |_=>B
omit hs in
theorem GD_bool(c b:Bool)(A B:Prop):GD (.bool c) b A B↔((c=b->A)∧(c≠b->B)):=by
 unfold GD
 exact⟨λh=>h.2,λh=>⟨rfl,h⟩⟩
theorem opA_guard{self:Self}{id:Nat}{dst:Option Tmp}{op:Op}{g:Option (Tmp×Bool)}:opA E self id ⟨dst,op,ty,g⟩ t m=opA E self id ⟨dst,op,ty,none⟩ t m:=by
 unfold opA
 simp only[pureE_none hs,readE_none hs]
 rfl
omit hs in
theorem reqA_guard{dst:Option Tmp}{op:Op}{g:Option (Tmp×Bool)}{r:Operand->Value}:reqA P ⟨dst,op,ty,g⟩ r m=reqA P ⟨dst,op,ty,none⟩ r m:=rfl
theorem XW_guard{dst:Option Tmp}{op:Op}{g:Tmp}{b:Bool}:XW E base ((i,⟨dst,op,ty,some (g,b)⟩)::rest) L t m Q↔GD (t.getD g undef) b (XW E base ((i,⟨dst,op,ty,none⟩)::rest) L t m Q) (XW E base rest L (putT dst undef t) m Q):=by
 have e1:gOk (some (g,b)) t=gOk (some (0,b)) [t.getD g undef]:=rfl
 have e2:wanted (some (g,b)) t=wanted (some (0,b)) [t.getD g undef]:=rfl
 have e3:∀K,StepX E L (base+i) ⟨dst,op,ty,some (g,b)⟩ t m K↔StepX E L (base+i) ⟨dst,op,ty,none⟩ t m K:=λK=>by
  unfold StepX
  rw[opA_guard hs,reqA_guard]
 have hx:∀(o:SOp),XW E base ((i,o)::rest) L t m Q=(gOk o.guard t=true∧((wanted o.guard t=true∧StepX E L (base+i) o t m λL' v m'=>XW E base rest L' (putT o.dst v t) m' Q)∨(wanted o.guard t=false∧XW E base rest L (putT o.dst undef t) m Q))):=λ_=>rfl
 rw[hx,hx]
 simp only[e1,e2,e3]
 generalize XW E base rest L (putT dst undef t) m Q=B
 generalize(StepX E L (base+i) {dst:=dst,op:=op,type:=ty,guard:=none} t m λL' v m'=>XW E base rest L' (putT dst v t) m' Q)=A
 unfold GD
 simp only[gOk,wanted,true_and,Bool.true_eq_false,false_and,or_false]
 refine and_congr_right λhg=>?_
 cases hc:t.getD g undef with
 |bool c=>
  simp only[List.getD_cons_zero]
  by_cases e:c=b
  ·simp[e]
  ·simp[e]
 |_=>simp
theorem XW_pick{a b c:Operand}:XW E base ((i,⟨some d, .pick c a b,ty,none⟩)::rest) L t m Q↔okP (pickV (ev c t) (ev a t) (ev b t)) λv=>XW E base rest L (t.set d v) m Q:=by
 rw[XW_pure rfl rfl,pureE_none hs]
 cases h:ev c t<;>simp only[pureA,h,pickV]<;>rfl
def binV(P:Program)(op:BinOp)(ty:TypeId)(x y:Value):Option Value:=if plain x&&plain y then runV P (binOp op ty x y) else none
theorem XW_bin{op:BinOp}{yt:TypeId}{x y:Operand}(h:isCmp op=false):XW E base ((i,⟨some d, .binOp op ty x y yt,rt,none⟩)::rest) L t m Q↔okP (binV E.P op ty (ev x t) (ev y t)) λv=>XW E base rest L (t.set d v) m Q:=by
 rw[XW_pure rfl (by cases op<;>first|rfl|cases h),pureE_none hs]
 rfl
theorem XW_eql{yt:TypeId}{x y:Operand}:XW E base ((i,⟨some d, .binOp .eql ty x y yt,rt,none⟩)::rest) L t m Q↔okP (eqA E.P .eql ty x y (ev x t) (ev y t) m) λv=>XW E base rest L (t.set d v) m Q:=by
 rw[XW_read rfl rfl,readE_none hs]
 rfl
theorem XW_neq{yt:TypeId}{x y:Operand}:XW E base ((i,⟨some d, .binOp .neq ty x y yt,rt,none⟩)::rest) L t m Q↔okP (eqA E.P .neq ty x y (ev x t) (ev y t) m) λv=>XW E base rest L (t.set d v) m Q:=by
 rw[XW_read rfl rfl,readE_none hs]
 rfl
def unV(P:Program)(op:UnOp)(x:Value):Option Value:=if plain x then runV P (Op.unary op x) else none
theorem XW_un{op:UnOp}{x:Operand}:XW E base ((i,⟨some d, .unOp op ty x,rt,none⟩)::rest) L t m Q↔okP (unV E.P op (ev x t)) λv=>XW E base rest L (t.set d v) m Q:=by
 rw[XW_pure rfl rfl,pureE_none hs]
 rfl
def nilV(P:Program):Value->Option Value
 | .pointer (some a)=>some (.pointer (some a))
 | .func (.func f) a c=>some (.func (.func f) a c)
 | .func (.yield l) a c=>some (.func (.yield l) a c)
 | .func (.methodOf ty nm) a c=>if(methodA P ty nm).isSome then some (.func (.methodOf ty nm) a c) else none
 |_=>none
theorem XW_nilCheck{x:Operand}:XW E base ((i,⟨some d, .nilCheck x,ty,none⟩)::rest) L t m Q↔okP (nilV E.P (ev x t)) λv=>XW E base rest L (t.set d v) m Q:=by
 rw[XW_pure rfl rfl,pureE_none hs]
 rfl
def fieldOff(P:Program)(s f:Nat):Option Nat:=match P.underlying s with
 |some (.struct fs)=>match fs[f]? with
  |some fl=>match szOf P fl.type with
   |some (_+1)=>some fl.offset
   |_=>none
  |none=>none
 |_=>none
def offV(v:Value)(n:Nat):Option Value:=match v with
 | .pointer (some ⟨b,o,none⟩)=>some (.pointer (some ⟨b,o+n,none⟩))
 |_=>none
omit hs in
theorem offV_ptr{b o n:Nat}:offV (.pointer (some ⟨b,o,none⟩)) n=some (.pointer (some ⟨b,o+n,none⟩)):=rfl
theorem XW_fieldAddr{x:Operand}{f off:Nat}(hf:fieldOff E.P ty f=some off):XW E base ((i,⟨some d, .fieldAddr ty x f,rt,none⟩)::rest) L t m Q↔okP (offV (ev x t) off) λv=>XW E base rest L (t.set d v) m Q:=by
 rw[XW_pure rfl rfl,pureE_none hs]
 have:pureA E.P ⟨some d, .fieldAddr ty x f,rt,none⟩ (ev · t)=offV (ev x t) off:=by
  simp only[pureA]
  unfold fieldOff at hf
  split at hf
  ·rename_i fs hu
   split at hf
   ·rename_i fl hfl
    split at hf
    ·rename_i n hz
     cases hf
     rw[hu]
     unfold offV
     split
     ·rename_i h1 h2
      cases h1
      simp only[h2,hfl,hz]
     ·rename_i h1
      split
      ·rename_i b o h2;exact absurd h2 (h1 _ _ _ rfl)
      ·rfl
    ·cases hf
   ·cases hf
  ·cases hf
 rw[this]
 rfl
theorem XW_field{x:Operand}{f:Nat}:XW E base ((i,⟨some d, .field ty x f,rt,none⟩)::rest) L t m Q↔okP (pureA E.P ⟨some d, .field ty x f,rt,none⟩ (ev · t)) λv=>XW E base rest L (t.set d v) m Q:=by
 rw[XW_pure rfl rfl,pureE_none hs]
 rfl
def idxV(P:Program)(ty:TypeId)(x i:Value):Option Value:=match P.underlying ty,x,i with
 |some (.array len e), .pointer (some ⟨b,o,none⟩), .int _ n=>if 0<=n∧n<len then match szOf P e with
   |some s=>some (ptr b (o+n.toNat*s))
   |none=>none
  else none
 |some (.slice e), .slice (some ⟨b,o,none⟩) len _, .int _ n=>if 0<=n∧n<len then match szOf P e with
   |some s=>some (ptr b (o+n.toNat*s))
   |none=>none
  else none
 |_,_,_=>none
theorem XW_indexAddr{x y:Operand}:XW E base ((i,⟨some d, .indexAddr ty x y,rt,none⟩)::rest) L t m Q↔okP (idxV E.P ty (ev x t) (ev y t)) λv=>XW E base rest L (t.set d v) m Q:=by
 rw[XW_pure rfl rfl,pureE_none hs]
 rfl
theorem XW_extract{x:Operand}{k:Nat}:XW E base ((i,⟨some d, .extract x k,ty,none⟩)::rest) L t m Q↔okP (match ev x t with| .tuple vs=>vs[k]? |_=>none) λv=>XW E base rest L (t.set d v) m Q:=by
 rw[XW_pure rfl rfl,pureE_none hs]
 rfl
theorem XW_makeFunc{f:FuncId}{a c:Array Operand}:XW E base ((i,⟨some d, .makeFunc (.func f) a c,ty,none⟩)::rest) L t m Q↔XW E base rest L (t.set d (.func (.func f) (a.map (ev · t)) (c.map (ev · t)))) m Q:=by
 rw[XW_pure rfl rfl,pureE_none hs]
 rfl
theorem XW_makeMeth{nm:String}{a c:Array Operand}:XW E base ((i,⟨some d, .makeFunc (.method nm) a c,ty,none⟩)::rest) L t m Q↔okP (methV nm (a.map (ev · t)).toList (c.map (ev · t)).toList) λv=>XW E base rest L (t.set d v) m Q:=by
 rw[XW_pure rfl rfl,pureE_none hs]
 rfl
theorem XW_build{ps:Array (Nat×Operand)}:XW E base ((i,⟨some d, .build ty ps,rt,none⟩)::rest) L t m Q↔okP (buildA E.P ty (ps.toList.map λp=>(p.1,ev p.2 t))) λv=>XW E base rest L (t.set d v) m Q:=by
 rw[XW_pure rfl rfl,pureE_none hs]
 rfl
theorem XW_slice{x:Operand}{l h:Option Operand}:XW E base ((i,⟨some d, .slice ty x l h none,rt,none⟩)::rest) L t m Q↔okP (sliceA E.P ty (ev x t) (l.map (ev · t)) (h.map (ev · t))) λv=>XW E base rest L (t.set d v) m Q:=by
 rw[XW_pure rfl rfl,pureE_none hs]
 rfl
theorem XW_load{a:Operand}:XW E base ((i,⟨some d, .load ty a,rt,none⟩)::rest) L t m Q↔okP (loadA E.P ty (ev a t) m) λv=>XW E base rest L (t.set d v) m Q:=by
 rw[XW_read rfl rfl,readE_none hs]
 rfl
theorem XW_lookup{x k:Operand}{ok:Bool}:XW E base ((i,⟨some d, .lookup ty x k ok,rt,none⟩)::rest) L t m Q↔okP (lookupA E.P ty (ev x t) (ev k t) ok m) λv=>XW E base rest L (t.set d v) m Q:=by
 rw[XW_read rfl rfl,readE_none hs]
 rfl
def convV(P:Program)(s e:TypeId)(x:Value)(m:Mem):Option Value:=readA P ⟨none, .convert s e (.const x),0,none⟩ (ev · []) m
theorem XW_convert{s e:TypeId}{x:Operand}:XW E base ((i,⟨some d, .convert s e x,rt,none⟩)::rest) L t m Q↔okP (convV E.P s e (ev x t) m) λv=>XW E base rest L (t.set d v) m Q:=by
 rw[XW_read rfl rfl,readE_none hs]
 rfl
theorem XW_len{x:Operand}:XW E base ((i,⟨some d, .call ⟨.builtin .len,#[x],#[ty]⟩,rt,none⟩)::rest) L t m Q↔okP (lenA E.P ty (ev x t) m) λv=>XW E base rest L (t.set d v) m Q:=by
 rw[XW_read rfl rfl,readE_none hs]
 rfl
omit hs
def zeroL(P:Program)(t:TypeId):Option (List Value):=match zeroOf P t with
 |some z=>if plain z then some z.cells.toList else none
 |none=>none
theorem XW_alloc:XW E base ((i,⟨some d, .alloc ty,rt,none⟩)::rest) L t m Q↔okP (zeroL E.P ty) λz=>XW E base rest L (t.set d (.pointer (some ⟨base+i,0,none⟩))) (m.put (base+i) (.cells (.ofList z) true 0)) Q:=by
 rw[XW_make rfl rfl]
 have:makeA E.P ⟨some d, .alloc ty,rt,none⟩ (ev · t)=(zeroL E.P ty).map λz=>(.cells (.ofList z) true 0,λid=>ptr id 0):=by
  simp only[makeA,zeroL]
  cases zeroOf E.P ty with
  |none=>rfl
  |some z=>cases h:plain z<;>simp
 rw[this,okP_map]
 rfl
def boxL(v:Value):Option (List Value):=if isJunk v then none else some v.cells.toList
theorem XW_box{x:Operand}:XW E base ((i,⟨some d, .box ty x,rt,none⟩)::rest) L t m Q↔okP (boxL (ev x t)) λz=>XW E base rest L (t.set d (.pointer (some ⟨base+i,0,none⟩))) (m.put (base+i) (.cells (.ofList z) true 0)) Q:=by
 rw[XW_make rfl rfl]
 have:makeA E.P ⟨some d, .box ty x,rt,none⟩ (ev · t)=(boxL (ev x t)).map λz=>(.cells (.ofList z) true 0,λid=>ptr id 0):=by
  simp only[makeA,boxL]
  cases h:isJunk (ev x t)<;>simp
 rw[this,okP_map]
 rfl
theorem XW_buildSlice{n:Nat}{ps:Array (Nat×Operand)}:XW E base ((i,⟨some d, .buildSlice ty n ps,rt,none⟩)::rest) L t m Q↔okP (makeA E.P ⟨some d, .buildSlice ty n ps,rt,none⟩ (ev · t)) λq=>XW E base rest L (t.set d (q.2 (base+i))) (m.put (base+i) q.1) Q:=XW_make rfl rfl
theorem XW_makeMap:XW E base ((i,⟨some d, .makeMap ty none,rt,none⟩)::rest) L t m Q↔XW E base rest L (t.set d (.map (some (base+i)))) (m.put (base+i) (.map [] true)) Q:=XW_make rfl rfl
theorem XW_store{a x:Operand}:XW E base ((i,⟨none, .store ty a x,rt,none⟩)::rest) L t m Q↔okP (storeA E.P ty (ev a t) (ev x t) m) λm'=>XW E base rest L t m' Q:=by
 rw[XW_val (q:=(storeA E.P ty (ev a t) (ev x t) m).map λm'=>(undef,m')) rfl rfl,okP_map]
 ·rfl
 ·simp only[effA];cases storeA E.P ty (ev a t) (ev x t) m<;>rfl
 ·simp only[reqA,cls,effA];cases storeA E.P ty (ev a t) (ev x t) m<;>rfl
theorem XW_append{a x:Operand}{ts:Array TypeId}:XW E base ((i,⟨some d, .call ⟨.builtin .append,#[a,x],ts⟩,rt,none⟩)::rest) L t m Q↔okP (appendA E.P (base+i) ts (ev a t) (ev x t) m) λq=>XW E base rest L (t.set d q.1) q.2 Q:=by
 rw[XW_val (q:=appendA E.P (base+i) ts (ev a t) (ev x t) m) rfl rfl]
 ·rfl
 ·simp[effA]
 ·simp only[reqA,cls,effA];cases h:appendA E.P 0 ts (ev a t) (ev x t) m<;>simp[h]
theorem XW_call{dst:Option Tmp}{f:FuncId}{args:Array Operand}{ts:Array TypeId}(hc:callable E.P f=true):XW E base ((i,⟨dst, .call ⟨.value (.func f),args,ts⟩,rt,none⟩)::rest) L t m Q↔CallW E L (.call f (args.toList.map (ev · t))) m λL' v m'=>XW E base rest L' (putT dst v t) m' Q:=by
 have hr:reqA E.P ⟨dst, .call ⟨.value (.func f),args,ts⟩,rt,none⟩ (ev · t) m=some (.call f (args.toList.map (ev · t)),m):=by simp[reqA,cls,effA,ev,hc]
 refine⟨λh=>?_,XW_task rfl hr⟩
 obtain⟨_,⟨_,h⟩|⟨h,_⟩⟩:=h
 ·rcases h with⟨v,m',h1,_⟩|⟨tk,m1,v,m2,h1,h2,h3,h4⟩
  ·simp[opA,cls,effA,ev,hc] at h1
  ·rw[hr] at h1
   cases h1
   exact⟨v,m2,h2,h3,h4⟩
 ·cases h
theorem CallW.of{f:FuncId}{args:List Value}{v:Value}{m':Mem}{K:List Inst->Value->Mem->Prop}(h:CallOk Sig.none E.P f args m v m'∧Grow m m')(hL:∀c∈L,c.tk= .call f args->c.m=m->c.v=v∧c.m'=m')(hK:K (⟨.call f args,m,v,m'⟩::L) v m'):CallW E L (.call f args) m K:=
 ⟨v,m',⟨h.2,h.1⟩,hL,hK⟩
section
variable{k:IntKind}{a b:Int}
theorem bin_lss:binV P .lss ty (.int k a) (.int k b)=some (.bool (decide (a<b))):=by cases k<;>rfl
theorem bin_leq:binV P .leq ty (.int k a) (.int k b)=some (.bool (decide (a<=b))):=by cases k<;>rfl
theorem bin_gtr:binV P .gtr ty (.int k a) (.int k b)=some (.bool (decide (b<a))):=by cases k<;>rfl
theorem bin_geq:binV P .geq ty (.int k a) (.int k b)=some (.bool (decide (b<=a))):=by cases k<;>rfl
theorem bin_add:binV P .add ty (.int k a) (.int k b)=some (.int k (k.wrap (a+b))):=by cases k<;>rfl
theorem bin_sub:binV P .sub ty (.int k a) (.int k b)=some (.int k (k.wrap (a-b))):=by cases k<;>rfl
theorem bin_mul:binV P .mul ty (.int k a) (.int k b)=some (.int k (k.wrap (a*b))):=by cases k<;>rfl
theorem bin_rem(h:b≠0):binV P .rem ty (.int k a) (.int k b)=some (.int k (a.tmod b)):=by
 have e:binOp .rem ty (.int k a) (.int k b)=Op.intDiv .rem k a b:=by cases k<;>rfl
 show runV P (binOp .rem ty (.int k a) (.int k b))=_
 rw[e]
 unfold Op.intDiv
 rw[if_neg h];rfl
theorem eq_int{x y:Operand}:eqA P .eql ty x y (.int k a) (.int k b) m=some (.bool (decide (a=b))):=by cases k<;>rfl
theorem neq_int{x y:Operand}:eqA P .neq ty x y (.int k a) (.int k b) m=some (.bool (!decide (a=b))):=by cases k<;>rfl
theorem un_not{a:Bool}:unV P .not (.bool a)=some (.bool (!a)):=rfl
theorem runP_bind{α β:Type}(s:Sem α)(f:α->Sem β){a:α}(h:runP P s=some a):runP P (s>>=f)=runP P (f a):=by
 induction s with
 |pure x=>simp only[runP,sI] at h;subst h;rfl
 |program k ih=>exact ih P h
 |mark e k ih=>exact ih h
 |_=>simp[runP] at h
theorem runP_und{t:TypeId}{d:TypeDesc}(h:P.underlying t=some d):runP P (underlying t)=some d:=by
 show runP P (match P.underlying t with|some d=>pure d|none=>stuck "no such type")=_
 rw[h]
 rfl
theorem conv_int{s e:TypeId}{k k' j:IntKind}{n:Int}(h:P.underlying e=some (.int k))(h':P.underlying s=some (.int j)):convV P s e (.int k' n) m=some (.int k (k.wrap n)):=by
 have hp:plain (.int k' n)=true:=rfl
 have hc:runV P (convert s e (.int k' n))=some (.int k (k.wrap n)):=by
  unfold runV convert
  rw[runP_bind _ _ (runP_und h'),runP_bind _ _ (runP_und h)]
  rfl
 unfold convV readA
 simp only[ev,hp,if_true,h]
 exact hc
theorem len_slice{e:TypeId}{p:Option Addr}{n c:Nat}(h:P.underlying ty=some (.slice e)):lenA P ty (.slice p n c) m=some (.int .i64 n):=by
 unfold lenA;rw[h]
end
theorem eq_ptr_nil{e:TypeId}{x y:Operand}{p:Addr}(h:P.underlying ty=some (.pointer e)):eqA P .eql ty x y (.pointer (some p)) (.pointer none) m=some (.bool false):=by
 unfold eqA
 simp[h,plain,plainN]
theorem neq_ptr_nil{e:TypeId}{x y:Operand}{p:Addr}(h:P.underlying ty=some (.pointer e)):eqA P .neq ty x y (.pointer (some p)) (.pointer none) m=some (.bool true):=by
 unfold eqA
 simp[h,plain,plainN]
def ld1(o:Option AObj)(n:Nat):Option Value:=match o with
 |some (.cells c _ _)=>c.nth n
 |_=>none
def ldN(o:Option AObj)(n k:Nat):Option Value:=match o with
 |some (.cells c _ _)=>(c.sub n k).map λl=> .agg l.toArray
 |_=>none
theorem load1{b o:Nat}(h:lay P ty=some none):loadA P ty (.pointer (some ⟨b,o,none⟩)) m=ld1 (m.get b) o:=by
 unfold loadA ld1
 rw[h]
 rfl
theorem loadN{b o n:Nat}(h:lay P ty=some (some n)):loadA P ty (.pointer (some ⟨b,o,none⟩)) m=ldN (m.get b) o n:=by
 unfold loadA ldN
 rw[h]
 simp only
 split
 ·rename_i c _ _ hc
  simp only[hc]
  cases c.sub o n<;>rfl
 ·rename_i hc
  split
  ·rename_i h2;exact absurd h2 (hc _ _ _)
  ·rfl
theorem ld1_cells{c:Cells}{w:Bool}{sz n:Nat}:ld1 (some (.cells c w sz)) n=c.nth n:=rfl
theorem ldN_cells{c:Cells}{w:Bool}{sz n k:Nat}:ldN (some (.cells c w sz)) n k=(c.sub n k).map λl=> .agg l.toArray:=rfl
theorem nth_lt{c:Cells}{n:Nat}(h:n<c.n):c.nth n=some (c.get n):=by unfold Cells.nth;rw[if_pos h]
theorem nth_ofList{l:List Value}{n:Nat}:(ofL l).nth n=l[n]? :=by rw[Cells.nth_eq,Cells.ofList_list]
theorem sub_lt{c:Cells}{o n:Nat}(h:o+n<=c.n):c.sub o n=some (c.seg o n):=by unfold Cells.sub;rw[if_pos h]
theorem write_n{c:Cells}{o:Nat}{l:List Value}:(c.write o l).n=c.n:=rfl
theorem get_write{c:Cells}{o n:Nat}{l:List Value}:(c.write o l).get n=if o<=n∧n<o+l.length then l.getD (n-o) undef else c.get n:=by
 have e:(c.write o l).t=Cells.putAll c.t o l:=rfl
 have ed:(c.write o l).d=c.d:=rfl
 unfold Cells.get
 rw[e,ed,Cells.putAll_get]
 by_cases h:o<=n∧n<o+l.length
 ·rw[if_pos h,if_pos h,gE' (by omega),gD',gE' (by omega)]
  rfl
 ·rw[if_neg h,if_neg h]
theorem ofList_n{l:List Value}:(ofL l).n=l.length:=rfl
theorem get_ofList{l:List Value}{n:Nat}(h:n<l.length):(ofL l).get n=l.getD n undef:=by
 have:=nth_ofList (l:=l) (n:=n)
 rw[nth_lt (by exact h)] at this
 rw[gD',<-this];rfl
def st1(o:Option AObj)(b n k:Nat)(l:List Value)(m:Mem):Option Mem:=match o with
 |some (.cells c true sz)=>if l.length=k∧n+k<=c.n∧l.all oneCell=true then some (m.put b (.cells (c.write n l) true sz)) else none
 |_=>none
theorem store1{b o n:Nat}{v:Value}(h:szOf P ty=some n):storeA P ty (.pointer (some ⟨b,o,none⟩)) v m=st1 (m.get b) b o n v.cells.toList m:=by
 unfold storeA st1
 rw[h]
 simp only[Array.length_toList]
 rfl
theorem st1_cells{c:Cells}{sz b n k:Nat}{l:List Value}:st1 (some (.cells c true sz)) b n k l m=if l.length=k∧n+k<=c.n∧l.all oneCell=true then some (m.put b (.cells (c.write n l) true sz)) else none:=rfl
theorem cells_agg{l:List Value}:(Value.agg l.toArray).cells.toList=l:=by simp[Value.cells]
theorem cells_int{k:IntKind}{n:Int}:(Value.int k n).cells.toList=[.int k n]:=rfl
theorem cells_bool{b:Bool}:(Value.bool b).cells.toList=[.bool b]:=rfl
theorem cells_ptr{p:Option Addr}:(Value.pointer p).cells.toList=[.pointer p]:=rfl
theorem cells_slice{p:Option Addr}{n c:Nat}:(Value.slice p n c).cells.toList=[.slice p n c]:=rfl
theorem box_agg{l:List Value}:boxL (.agg l.toArray)=some l:=by simp[boxL,isJunk,Value.cells]
theorem box_int{k:IntKind}{n:Int}:boxL (.int k n)=some [.int k n]:=rfl
theorem box_ptr{p:Option Addr}:boxL (.pointer p)=some [.pointer p]:=rfl
theorem box_slice{p:Option Addr}{n c:Nat}:boxL (.slice p n c)=some [.slice p n c]:=rfl
theorem bump_bump(m:Mem)(a b:Nat):(m.bump a).bump b=m.bump (a+b):=by
 show(⟨_,_⟩:Mem)=⟨_,_⟩
 rw[Nat.add_assoc]
theorem put_bump(m:Mem)(a b:Nat)(o:AObj):(m.bump a).put b o=(m.put b o).bump a:=rfl
theorem get_eq{m:Mem}{b:Nat}{o:AObj}:(m.put b o).get b=some o:=by rw[gP,if_pos rfl]
end
section
variable{P:Program}{E:Env}{n0:Nat}{rd:Option Nat}
class PI where
 p:Prop
class KI where
 k:List Inst->List Value->Mem->Prop
class VI (α:Type) where
 k:α->Prop
class QI where
 k:Exit->List Value->Mem->Prop
class CI where
 k:List Inst->Value->Mem->Prop
def XWi(E:Env)(base:Nat)(xs:List (Nat×SOp))(L:List Inst)(t:List Value)(m:Mem) [Q:KI]:Prop:=XW E base xs L t m Q.k
def YWi(E:Env)(base:Nat)(ys:List (Nat×SOp×List Nat×Bool))(h:List (Nat×Option Mem))(L:List Inst)(t:List Value)(m:Mem) [Q:KI]:Prop:=YW E base ys h L t m Q.k
def TDi(b:Bool) [A:PI]:Prop:=b=true∧A.p
theorem TDi_t{A:Prop}:TDi true (A:=⟨A⟩)=A:=by simp[TDi]
def okI{α:Type}(x:Option α) [k:VI α]:Prop:=okP x k.k
def GDi(c:Value)(b:Bool) [A:PI] [B:PI]:Prop:=GD c b A.p B.p
def CallI(E:Env)(L:List Inst)(tk:Task)(m:Mem) [K:CI]:Prop:=CallW E L tk m K.k
def CDi(c:Value) [A:PI] [B:PI]:Prop:=match c with
 | .bool v=>(v=true->A.p)∧(v=false->B.p)
 |_=>False
def WXi(E:Env)(n0:Nat)(rd:Option Nat)(c:SCode)(t:List Value)(m:Mem) [Q:QI]:Prop:=WX E n0 rd c t m Q.k
theorem okI_some{α:Type}{a:α}{k:α->Prop}:okI (some a) (k:=⟨k⟩)=k a:=rfl
theorem nilV_ptr{P:Program}{a:Addr}:nilV P (.pointer (some a))=some (.pointer (some a)):=rfl
theorem nilV_func{P:Program}{f:FuncId}{a c:Array Value}:nilV P (.func (.func f) a c)=some (.func (.func f) a c):=rfl
theorem nilV_meth{P:Program}{ty:TypeId}{nm:String}{a c:Array Value}(h:(methodA P ty nm).isSome=true):nilV P (.func (.methodOf ty nm) a c)=some (.func (.methodOf ty nm) a c):=by simp[nilV,h]
theorem methV_i{nm:String}{ty:TypeId}{v:Value}:methV nm [.iface ty v] []=some (.func (.methodOf ty nm) #[v] #[]):=rfl
theorem nilV_yield{P:Program}{f:Nat}{a c:Array Value}:nilV P (.func (.yield f) a c)=some (.func (.yield f) a c):=rfl
theorem GDi_tt{A B:Prop}:GDi (.bool true) true (A:=⟨A⟩) (B:=⟨B⟩)=A:=by
 unfold GDi;rw[GD_bool];simp
theorem GDi_tf{A B:Prop}:GDi (.bool true) false (A:=⟨A⟩) (B:=⟨B⟩)=B:=by
 unfold GDi;rw[GD_bool];simp
theorem GDi_ft{A B:Prop}:GDi (.bool false) true (A:=⟨A⟩) (B:=⟨B⟩)=B:=by
 unfold GDi;rw[GD_bool];simp
theorem GDi_ff{A B:Prop}:GDi (.bool false) false (A:=⟨A⟩) (B:=⟨B⟩)=A:=by
 unfold GDi;rw[GD_bool];simp
theorem CDi_t{A B:Prop}:CDi (.bool true) (A:=⟨A⟩) (B:=⟨B⟩)=A:=by simp[CDi]
theorem CDi_f{A B:Prop}:CDi (.bool false) (A:=⟨A⟩) (B:=⟨B⟩)=B:=by simp[CDi]
section
variable{base i:Nat}{rest:List (Nat×SOp)}{L:List Inst}{t:List Value}{m:Mem}{K:KI}{ty rt:TypeId}{d:Tmp}
theorem X_nil{k:List Inst->List Value->Mem->Prop}:XWi E base [] L t m (Q:=⟨k⟩)=k L t m:=rfl
section
variable(hs:∀o r,E.sym o r=none)
include hs
theorem X_guard{dst:Option Tmp}{op:Op}{g:Tmp}{b:Bool}:XWi E base ((i,⟨dst,op,ty,some (g,b)⟩)::rest) L t m (Q:=K)=GDi (t.getD g undef) b (A:=⟨XWi E base ((i,⟨dst,op,ty,none⟩)::rest) L t m (Q:=K)⟩) (B:=⟨XWi E base rest L (putT dst undef t) m (Q:=K)⟩):=propext (XW_guard hs)
theorem X_pick{a b c:Operand}:XWi E base ((i,⟨some d, .pick c a b,ty,none⟩)::rest) L t m (Q:=K)=okI (pickV (ev c t) (ev a t) (ev b t)) (k:=⟨λv=>XWi E base rest L (t.set d v) m (Q:=K)⟩):=propext (XW_pick hs)
theorem X_bin{op:BinOp}{yt:TypeId}{x y:Operand}(h:isCmp op=false):XWi E base ((i,⟨some d, .binOp op ty x y yt,rt,none⟩)::rest) L t m (Q:=K)=okI (binV E.P op ty (ev x t) (ev y t)) (k:=⟨λv=>XWi E base rest L (t.set d v) m (Q:=K)⟩):=propext (XW_bin hs h)
theorem X_eql{yt:TypeId}{x y:Operand}:XWi E base ((i,⟨some d, .binOp .eql ty x y yt,rt,none⟩)::rest) L t m (Q:=K)=okI (eqA E.P .eql ty x y (ev x t) (ev y t) m) (k:=⟨λv=>XWi E base rest L (t.set d v) m (Q:=K)⟩):=propext (XW_eql hs)
theorem X_neq{yt:TypeId}{x y:Operand}:XWi E base ((i,⟨some d, .binOp .neq ty x y yt,rt,none⟩)::rest) L t m (Q:=K)=okI (eqA E.P .neq ty x y (ev x t) (ev y t) m) (k:=⟨λv=>XWi E base rest L (t.set d v) m (Q:=K)⟩):=propext (XW_neq hs)
theorem X_un{op:UnOp}{x:Operand}:XWi E base ((i,⟨some d, .unOp op ty x,rt,none⟩)::rest) L t m (Q:=K)=okI (unV E.P op (ev x t)) (k:=⟨λv=>XWi E base rest L (t.set d v) m (Q:=K)⟩):=propext (XW_un hs)
theorem X_nilCheck{x:Operand}:XWi E base ((i,⟨some d, .nilCheck x,ty,none⟩)::rest) L t m (Q:=K)=okI (nilV E.P (ev x t)) (k:=⟨λv=>XWi E base rest L (t.set d v) m (Q:=K)⟩):=propext (XW_nilCheck hs)
theorem X_fieldAddr{x:Operand}{f off:Nat}(hf:fieldOff E.P ty f=some off):XWi E base ((i,⟨some d, .fieldAddr ty x f,rt,none⟩)::rest) L t m (Q:=K)=okI (offV (ev x t) off) (k:=⟨λv=>XWi E base rest L (t.set d v) m (Q:=K)⟩):=propext (XW_fieldAddr hs hf)
theorem X_field{x:Operand}{f:Nat}:XWi E base ((i,⟨some d, .field ty x f,rt,none⟩)::rest) L t m (Q:=K)=okI (pureA E.P ⟨some d, .field ty x f,rt,none⟩ (ev · t)) (k:=⟨λv=>XWi E base rest L (t.set d v) m (Q:=K)⟩):=propext (XW_field hs)
theorem X_indexAddr{x y:Operand}:XWi E base ((i,⟨some d, .indexAddr ty x y,rt,none⟩)::rest) L t m (Q:=K)=okI (idxV E.P ty (ev x t) (ev y t)) (k:=⟨λv=>XWi E base rest L (t.set d v) m (Q:=K)⟩):=propext (XW_indexAddr hs)
theorem X_extract{x:Operand}{k:Nat}:XWi E base ((i,⟨some d, .extract x k,ty,none⟩)::rest) L t m (Q:=K)=okI (match ev x t with| .tuple vs=>vs[k]? |_=>none) (k:=⟨λv=>XWi E base rest L (t.set d v) m (Q:=K)⟩):=propext (XW_extract hs)
theorem X_makeMeth{nm:String}{a c:Array Operand}:XWi E base ((i,⟨some d, .makeFunc (.method nm) a c,ty,none⟩)::rest) L t m (Q:=K)=okI (methV nm (a.map (ev · t)).toList (c.map (ev · t)).toList) (k:=⟨λv=>XWi E base rest L (t.set d v) m (Q:=K)⟩):=propext (XW_makeMeth hs)
theorem X_makeFunc{f:FuncId}{a c:Array Operand}:XWi E base ((i,⟨some d, .makeFunc (.func f) a c,ty,none⟩)::rest) L t m (Q:=K)=XWi E base rest L (t.set d (.func (.func f) (a.map (ev · t)) (c.map (ev · t)))) m (Q:=K):=propext (XW_makeFunc hs)
theorem X_build{ps:Array (Nat×Operand)}:XWi E base ((i,⟨some d, .build ty ps,rt,none⟩)::rest) L t m (Q:=K)=okI (buildA E.P ty (ps.toList.map λp=>(p.1,ev p.2 t))) (k:=⟨λv=>XWi E base rest L (t.set d v) m (Q:=K)⟩):=propext (XW_build hs)
theorem X_slice{x:Operand}{l h:Option Operand}:XWi E base ((i,⟨some d, .slice ty x l h none,rt,none⟩)::rest) L t m (Q:=K)=okI (sliceA E.P ty (ev x t) (l.map (ev · t)) (h.map (ev · t))) (k:=⟨λv=>XWi E base rest L (t.set d v) m (Q:=K)⟩):=propext (XW_slice hs)
theorem X_load{a:Operand}:XWi E base ((i,⟨some d, .load ty a,rt,none⟩)::rest) L t m (Q:=K)=okI (loadA E.P ty (ev a t) m) (k:=⟨λv=>XWi E base rest L (t.set d v) m (Q:=K)⟩):=propext (XW_load hs)
theorem X_lookup{x k:Operand}{ok:Bool}:XWi E base ((i,⟨some d, .lookup ty x k ok,rt,none⟩)::rest) L t m (Q:=K)=okI (lookupA E.P ty (ev x t) (ev k t) ok m) (k:=⟨λv=>XWi E base rest L (t.set d v) m (Q:=K)⟩):=propext (XW_lookup hs)
theorem X_convert{s e:TypeId}{x:Operand}:XWi E base ((i,⟨some d, .convert s e x,rt,none⟩)::rest) L t m (Q:=K)=okI (convV E.P s e (ev x t) m) (k:=⟨λv=>XWi E base rest L (t.set d v) m (Q:=K)⟩):=propext (XW_convert hs)
theorem X_len{x:Operand}:XWi E base ((i,⟨some d, .call ⟨.builtin .len,#[x],#[ty]⟩,rt,none⟩)::rest) L t m (Q:=K)=okI (lenA E.P ty (ev x t) m) (k:=⟨λv=>XWi E base rest L (t.set d v) m (Q:=K)⟩):=propext (XW_len hs)
end
theorem X_move{x:Operand}:XWi E base ((i,⟨some d, .move x,ty,none⟩)::rest) L t m (Q:=K)=XWi E base rest L (t.set d (ev x t)) m (Q:=K):=propext (XW_move)
theorem X_assign{x:Operand}:XWi E base ((i,⟨some d, .assign x,ty,none⟩)::rest) L t m (Q:=K)=XWi E base rest L (t.set d (ev x t)) m (Q:=K):=propext (XW_assign)
theorem X_alloc:XWi E base ((i,⟨some d, .alloc ty,rt,none⟩)::rest) L t m (Q:=K)=okI (zeroL E.P ty) (k:=⟨λz=>XWi E base rest L (t.set d (.pointer (some ⟨base+i,0,none⟩))) (m.put (base+i) (.cells (.ofList z) true 0)) (Q:=K)⟩):=propext (XW_alloc)
theorem X_box{x:Operand}:XWi E base ((i,⟨some d, .box ty x,rt,none⟩)::rest) L t m (Q:=K)=okI (boxL (ev x t)) (k:=⟨λz=>XWi E base rest L (t.set d (.pointer (some ⟨base+i,0,none⟩))) (m.put (base+i) (.cells (.ofList z) true 0)) (Q:=K)⟩):=propext (XW_box)
theorem X_buildSlice{n:Nat}{ps:Array (Nat×Operand)}:XWi E base ((i,⟨some d, .buildSlice ty n ps,rt,none⟩)::rest) L t m (Q:=K)=okI (makeA E.P ⟨some d, .buildSlice ty n ps,rt,none⟩ (ev · t)) (k:=⟨λq=>XWi E base rest L (t.set d (q.2 (base+i))) (m.put (base+i) q.1) (Q:=K)⟩):=propext (XW_buildSlice)
theorem X_makeMap:XWi E base ((i,⟨some d, .makeMap ty none,rt,none⟩)::rest) L t m (Q:=K)=XWi E base rest L (t.set d (.map (some (base+i)))) (m.put (base+i) (.map [] true)) (Q:=K):=propext (XW_makeMap)
theorem X_store{a x:Operand}:XWi E base ((i,⟨none, .store ty a x,rt,none⟩)::rest) L t m (Q:=K)=okI (storeA E.P ty (ev a t) (ev x t) m) (k:=⟨λm'=>XWi E base rest L t m' (Q:=K)⟩):=propext (XW_store)
theorem X_append{a x:Operand}{ts:Array TypeId}:XWi E base ((i,⟨some d, .call ⟨.builtin .append,#[a,x],ts⟩,rt,none⟩)::rest) L t m (Q:=K)=okI (appendA E.P (base+i) ts (ev a t) (ev x t) m) (k:=⟨λq=>XWi E base rest L (t.set d q.1) q.2 (Q:=K)⟩):=propext (XW_append)
theorem Y_nil{h:List (Nat×Option Mem)}{k:List Inst->List Value->Mem->Prop}:YWi E base [] h L t m (Q:=⟨k⟩)=k L t m:=rfl
section
variable{h:List (Nat×Option Mem)}{ys:List (Nat×SOp×List Nat×Bool)}{kp:Bool}{e:Nat}{l:List Nat}
theorem Y_0{o:SOp}:YWi E base ((i,o,[],kp)::ys) h L t m (Q:=K)=XWi E base [(i,o)] L t m (Q:=⟨λL' t' m'=>YWi E base ys ((i,keepM kp m)::h) L' t' m' (Q:=K)⟩):=by
 refine propext ⟨λh=>h.2,λh=>⟨trivial,h⟩⟩
theorem Y_re{dst:Option Tmp}{op:Op}:YWi E base ((i,⟨dst,op,ty,none⟩,e::l,kp)::ys) h L t m (Q:=K)=
  okI (readE E ⟨dst,op,ty,none⟩ (ev · t) m) (k:=⟨λv=>okI (lookK h e) (k:=⟨λme=>okI (readE E ⟨dst,op,ty,none⟩ (ev · t) me) (k:=⟨λu=>TDi (E.eqv v u) (A:=⟨YWi E base ((i,⟨dst,op,ty,none⟩,l,kp)::ys) h L t m (Q:=K)⟩)⟩)⟩)⟩):=by
 refine propext (Iff.trans ?_ okP_iff.symm)
 constructor
 ·rintro⟨⟨_,h1⟩,h2⟩
  obtain⟨⟨v,a1,me,a2,u,a3,a4⟩,a5⟩:=h1 rfl
  exact⟨v,a1,okP_iff.2 ⟨me,a2,okP_iff.2 ⟨u,a3,a4,by cases l with|nil=>trivial|cons _ _=>exact⟨rfl,λ_=>a5⟩,h2⟩⟩⟩
 ·rintro⟨v,a1,h1⟩
  obtain⟨me,a2,h1⟩:=okP_iff.1 h1
  obtain⟨u,a3,a4,a5,a6⟩:=okP_iff.1 h1
  refine⟨⟨rfl,λ_=>⟨⟨v,a1,me,a2,u,a3,a4⟩,?_⟩⟩,a6⟩
  cases l with
  |nil=>trivial
  |cons _ _=>exact a5.2 rfl
variable(hs:∀o r,E.sym o r=none)
include hs
theorem reP_guard{dst:Option Tmp}{op:Op}{g:Option (Tmp×Bool)}:∀{l:List Nat},reP E ⟨dst,op,ty,g⟩ t m h l↔reP E ⟨dst,op,ty,none⟩ t m h l
 |[]=>Iff.rfl
 |e::l=>by
  have hr:∀m,readE E ⟨dst,op,ty,g⟩ (ev · t) m=readE E ⟨dst,op,ty,none⟩ (ev · t) m:=λm=>by
   simp only[readE_none hs]
   rfl
  unfold reP
  simp only[hr]
  exact and_congr_right λ_=>reP_guard
theorem Y_guard{dst:Option Tmp}{op:Op}{g:Tmp}{b:Bool}:YWi E base ((i,⟨dst,op,ty,some (g,b)⟩,e::l,kp)::ys) h L t m (Q:=K)=
  GDi (t.getD g undef) b (A:=⟨YWi E base ((i,⟨dst,op,ty,none⟩,e::l,kp)::ys) h L t m (Q:=K)⟩) (B:=⟨YWi E base ys ((i,keepM kp m)::h) L (putT dst undef t) m (Q:=K)⟩):=by
 have e1:gOk (some (g,b)) t=gOk (some (0,b)) [t.getD g undef]:=rfl
 have e2:wanted (some (g,b)) t=wanted (some (0,b)) [t.getD g undef]:=rfl
 refine propext ?_
 show ReW E ⟨dst,op,ty,some (g,b)⟩ t m h (e::l)∧XW E base [(i,⟨dst,op,ty,some (g,b)⟩)] L t m _↔GD _ _ (ReW E ⟨dst,op,ty,none⟩ t m h (e::l)∧XW E base [(i,⟨dst,op,ty,none⟩)] L t m _) _
 have k1:ReW E ⟨dst,op,ty,some (g,b)⟩ t m h (e::l)↔(gOk (some (0,b)) [t.getD g undef]=true∧(wanted (some (0,b)) [t.getD g undef]=true->reP E ⟨dst,op,ty,none⟩ t m h (e::l))):=by
  rw[<-e1,<-e2,<-reP_guard hs (g:=some (g,b))]
  exact Iff.rfl
 have k2:ReW E ⟨dst,op,ty,none⟩ t m h (e::l)↔reP E ⟨dst,op,ty,none⟩ t m h (e::l):=⟨λh=>h.2 rfl,λh=>⟨rfl,λ_=>h⟩⟩
 rw[XW_guard hs,k1,k2]
 generalize XW E base [(i,⟨dst,op,ty,none⟩)] L t m _=A
 generalize reP E ⟨dst,op,ty,none⟩ t m h (e::l)=R
 show _∧GD _ _ A (YW E base ys ((i,keepM kp m)::h) L (putT dst undef t) m K.k)↔GD _ _ _ (YW E base ys ((i,keepM kp m)::h) L (putT dst undef t) m K.k)
 generalize YW E base ys ((i,keepM kp m)::h) L (putT dst undef t) m K.k=B
 unfold GD
 simp only[gOk,wanted,List.getD_cons_zero]
 cases hc:t.getD g undef with
 |bool c=>
  by_cases e:c=b
  ·simp[e]
  ·simp[e]
 |func f _ _=>cases f<;>simp
 |_=>simp
theorem RE_load{dst:Option Tmp}{g:Option (Tmp×Bool)}{a:Operand}:readE E ⟨dst, .load ty a,rt,g⟩ (ev · t) m=loadA E.P ty (ev a t) m:=by
 rw[readE_none hs];rfl
end
theorem keepM_t:keepM true m=some m:=rfl
theorem keepM_f:keepM false m=none:=rfl
theorem lookK_cons{j k:Nat}{x:Option Mem}{h:List (Nat×Option Mem)}:lookK ((j,x)::h) k=if j=k then x else lookK h k:=rfl
theorem X_call{dst:Option Tmp}{f:FuncId}{args:Array Operand}{ts:Array TypeId}(hc:callable E.P f=true):XWi E base ((i,⟨dst, .call ⟨.value (.func f),args,ts⟩,rt,none⟩)::rest) L t m (Q:=K)=CallI E L (.call f (args.toList.map (ev · t))) m (K:=⟨λL' v m'=>XWi E base rest L' (putT dst v t) m' (Q:=K)⟩):=propext (XW_call hc)
end
section
variable{t:List Value}{m:Mem}{Q:Exit->List Value->Mem->Prop}{a b:SCode}{i:Nat}
theorem W_skip:WXi E n0 rd .skip t m (Q:=⟨Q⟩)=Q .normal t m:=rfl
theorem W_exit:WXi E n0 rd (.exit i) t m (Q:=⟨Q⟩)=Q (.exit i) t m:=rfl
theorem W_ret:WXi E n0 rd .ret t m (Q:=⟨Q⟩)=Q .ret t m:=rfl
def thenQ(E:Env)(n0:Nat)(rd:Option Nat)(b:SCode)(Q:Exit->List Value->Mem->Prop)(x:Exit)(t:List Value)(m:Mem):Prop:=match x with
 | .normal=>WX E n0 rd b t m Q
 |x=>Q x t m
theorem W_seq:WXi E n0 rd (.seq a b) t m (Q:=⟨Q⟩)=WXi E n0 rd a t m (Q:=⟨thenQ E n0 rd b Q⟩):=rfl
theorem W_label:WXi E n0 rd (.label i) t m (Q:=⟨Q⟩)=Q .normal t m:=rfl
theorem thenQ_normal:thenQ E n0 rd b Q .normal t m=WXi E n0 rd b t m (Q:=⟨Q⟩):=rfl
theorem thenQ_ret:thenQ E n0 rd b Q .ret t m=Q .ret t m:=rfl
theorem thenQ_exit:thenQ E n0 rd b Q (.exit i) t m=Q (.exit i) t m:=rfl
theorem W_cond{c:Operand}:WXi E n0 rd (.cond c a b) t m (Q:=⟨Q⟩)=CDi (ev c t) (A:=⟨WXi E n0 rd a t m (Q:=⟨Q⟩)⟩) (B:=⟨WXi E n0 rd b t m (Q:=⟨Q⟩)⟩):=rfl
def blockQ(i:Nat)(Q:Exit->List Value->Mem->Prop)(x:Exit)(t:List Value)(m:Mem):Prop:=Q (match x with| .exit k=>if k=i then .normal else .exit k|x=>x) t m
theorem W_block:WXi E n0 rd (.block i b) t m (Q:=⟨Q⟩)=WXi E n0 rd b t m (Q:=⟨blockQ i Q⟩):=rfl
theorem blockQ_normal:blockQ i Q .normal t m=Q .normal t m:=rfl
theorem blockQ_ret:blockQ i Q .ret t m=Q .ret t m:=rfl
theorem blockQ_exit{k:Nat}:blockQ i Q (.exit k) t m=Q (if k=i then .normal else .exit k) t m:=rfl
def scopeQ(Q:Exit->List Value->Mem->Prop)(x:Exit)(t:List Value)(m:Mem):Prop:=(∀l,x≠ .goto l)∧Q x t m
theorem W_scope:WXi E n0 rd (.scope b) t m (Q:=⟨Q⟩)=WXi E n0 rd b t m (Q:=⟨scopeQ Q⟩):=rfl
theorem scopeQ_normal:scopeQ Q .normal t m=Q .normal t m:=by simp[scopeQ]
theorem scopeQ_ret:scopeQ Q .ret t m=Q .ret t m:=by simp[scopeQ]
theorem scopeQ_exit{k:Nat}:scopeQ Q (.exit k) t m=Q (.exit k) t m:=by simp[scopeQ]
end
def FinC(P:Program)(rs:List ResultVar)(m:Mem)(v:Value)(m':Mem)(x:Exit)(t:List Value)(m1:Mem):Prop:=
 (x= .normal∨x= .ret)∧∃vs,resA P t m1 rs=some vs∧∃Φ,Tidy m m1 (oneOr vs) v m' Φ
def TidyE(m m1:Mem)(v1 v:Value)(m':Mem):Prop:=∃Φ,Tidy m m1 v1 v m' Φ
section
variable{rs:List ResultVar}{m m' m1:Mem}{v v1:Value}{t vs:List Value}
theorem FinC_ret:FinC P rs m v m' .ret t m1=okI (resA P t m1 rs) (k:=⟨λvs=>TidyE m m1 (oneOr vs) v m'⟩):=by
 refine propext (Iff.trans ?_ okP_iff.symm)
 exact⟨λh=>h.2,λh=>⟨.inr rfl,h⟩⟩
theorem FinC_normal:FinC P rs m v m' .normal t m1=okI (resA P t m1 rs) (k:=⟨λvs=>TidyE m m1 (oneOr vs) v m'⟩):=by
 refine propext (Iff.trans ?_ okP_iff.symm)
 exact⟨λh=>h.2,λh=>⟨.inl rfl,h⟩⟩
end
structure Fresh(m:Mem):Prop where
 n64:64<=m.next
 none:∀b,m.next<=b->m.get b=none
theorem Fresh.lt{m:Mem}(h:Fresh m){b:Nat}{o:AObj}(hb:m.get b=some o):b<m.next:=by
 rcases Nat.lt_or_ge b m.next with h1|h1
 ·exact h1
 ·rw[h.none b h1] at hb;cases hb
theorem fresh_of{σ:Sig}{ρ:Rho}{m:Mem}{w:World}(hR:Rel σ ρ m w):Fresh m:=by
 refine⟨?_,hR.fresh⟩
 rcases Nat.lt_or_ge m.next 64 with h|h
 ·have:=hR.glob m.next h
  rw[hR.dom _ (lR' _)] at this
  cases this
 ·exact h
def Con(P:Program)(f:FuncId)(args:List Value)(m:Mem)(v:Value)(m':Mem):Prop:=CallOk Sig.none P f args m v m'∧Grow m m'
theorem Con.of(hE:EnvOk E){f:FuncId}{s:SFunc}{args:List Value}{m m':Mem}{v:Value}(hf:fnOf E.P f=some s)(hl:args.length<=s.ntmps)(hg:Grow m m')
  (h:Fresh m->WXi E m.next none s.body (T s.ntmps (enumV 0 args)) m (Q:=⟨FinC E.P s.results m v m'⟩)):Con E.P f args m v m':=by
 by_cases hm:Fresh m
 ·exact WX.call hE hf ⟨hl,h hm⟩
 ·refine⟨λρ w args' hR ha=>?_,hg⟩
  exact absurd (fresh_of hR) hm
theorem Grow.rfl{m:Mem}:Grow m m:=⟨lR' _,λ_ _ e=>e⟩
theorem CallI.con{L:List Inst}{f:FuncId}{args:List Value}{m m':Mem}{v:Value}{K:List Inst->Value->Mem->Prop}(h:Con E.P f args m v m')(hL:∀c∈L,c.tk= .call f args->c.m=m->c.v=v∧c.m'=m')(hK:K (⟨.call f args,m,v,m'⟩::L) v m'):CallI E L (.call f args) m (K:=⟨K⟩):=CallW.of h hL hK
theorem CallI.con0{f:FuncId}{args:List Value}{m m':Mem}{v:Value}{K:List Inst->Value->Mem->Prop}(h:Con E.P f args m v m')(hK:K [⟨.call f args,m,v,m'⟩] v m'):CallI E [] (.call f args) m (K:=⟨K⟩):=CallW.of h (by simp) hK
theorem StepX.mono{L:List Inst}{id:Nat}{o:SOp}{t:List Value}{m:Mem}{K K':List Inst->Value->Mem->Prop}(hk:∀L v m,K L v m->K' L v m)(h:StepX E L id o t m K):StepX E L id o t m K':=by
 rcases h with⟨v,m',h1,h2⟩|⟨tk,m1,v,m2,h1,h2,h3,h4⟩
 ·exact .inl ⟨v,m',h1,hk _ _ _ h2⟩
 ·exact .inr ⟨tk,m1,v,m2,h1,h2,h3,hk _ _ _ h4⟩
theorem XW.mono{base:Nat}{Q Q':List Inst->List Value->Mem->Prop}(hq:∀L t m,Q L t m->Q' L t m):∀{xs:List (Nat×SOp)} {L:List Inst} {t:List Value} {m:Mem},XW E base xs L t m Q->XW E base xs L t m Q'
 |[],_,_,_,h=>hq _ _ _ h
 |(_,_)::_,_,_,_,h=>⟨h.1,h.2.imp (λh=>⟨h.1,StepX.mono (λ_ _ _ h=>XW.mono hq h) h.2⟩) λh=>⟨h.1,XW.mono hq h.2⟩⟩
theorem YW.mono{base:Nat}{Q Q':List Inst->List Value->Mem->Prop}(hq:∀L t m,Q L t m->Q' L t m):∀{ys:List (Nat×SOp×List Nat×Bool)} {h:List (Nat×Option Mem)} {L:List Inst} {t:List Value} {m:Mem},YW E base ys h L t m Q->YW E base ys h L t m Q'
 |[],_,_,_,_,h=>hq _ _ _ h
 |(_,_,_,_)::_,_,_,_,_,h=>⟨h.1,XW.mono (λ_ _ _ h=>YW.mono hq h) h.2⟩
theorem LW.mono{B:List Value->Mem->(Exit->List Value->Mem->Prop)->Prop}(hB:∀t m (Q Q':Exit->List Value->Mem->Prop),(∀x t m,Q x t m->Q' x t m)->B t m Q->B t m Q'){Q Q':Exit->List Value->Mem->Prop}(hq:∀x t m,Q x t m->Q' x t m):∀{N:Nat} {t:List Value} {m:Mem},LW n0 rd B N t m Q->LW n0 rd B N t m Q'
 |0,_,_,h=>h.elim
 |N+1,t,m,h=>by
  obtain⟨t1,m1,h1,h2⟩:=h
  refine⟨t1,m1,h1,hB _ _ _ _ (λx t m hx=>?_) h2⟩
  cases x with
  |normal=>exact LW.mono hB hq hx
  |_=>obtain⟨t2,m2,h3,h4⟩:=hx;exact⟨t2,m2,h3,hq _ _ _ h4⟩
theorem WX.mono:∀{c:SCode} {t:List Value} {m:Mem} {Q Q':Exit->List Value->Mem->Prop},(∀x t m,Q x t m->Q' x t m)->WX E n0 rd c t m Q->WX E n0 rd c t m Q':=by
 intro c
 induction c with
 |skip=>intro t m Q Q' hq h;exact hq _ _ _ h
 |exit i=>intro t m Q Q' hq h;exact hq _ _ _ h
 |ret=>intro t m Q Q' hq h;exact hq _ _ _ h
 |seq a b iha ihb=>
  intro t m Q Q' hq h
  refine iha (λx t m hx=>?_) h
  cases x with
  |normal=>exact ihb hq hx
  |_=>exact hq _ _ _ hx
 |cond c a b iha ihb=>
  intro t m Q Q' hq h
  simp only[WX] at h⊢
  split at h
  ·exact⟨λe=>iha hq (h.1 e),λe=>ihb hq (h.2 e)⟩
  ·exact h.elim
 |block i b ih=>
  intro t m Q Q' hq h
  exact ih (λx t m hx=>hq _ _ _ hx) h
 |loop b ih=>
  intro t m Q Q' hq h
  obtain⟨N,h⟩:=h
  exact⟨N,LW.mono (B:=WX E n0 rd b) (λ_ _ _ _ hq h=>ih hq h) hq h⟩
 |reg ops=>
  intro t m Q Q' hq h
  exact⟨h.1,XW.mono (λ_ t m h=>hq _ _ _ h) h.2⟩
 |dreg ops ord=>
  intro t m Q Q' hq h
  refine⟨h.1,?_⟩
  have h2:=h.2
  split at h2
  ·exact XW.mono (λ_ t m h=>hq _ _ _ h) h2
  ·split at h2
   ·exact YW.mono (λ_ t m h=>hq _ _ _ h) h2
   ·exact h2.elim
 |scope b ih=>
  intro t m Q Q' hq h
  exact ih (λx t m hx=>⟨hx.1,hq _ _ _ hx.2⟩) h
 |label=>intro t m Q Q' hq h;exact hq _ _ _ h
 |goto=>intro t m Q Q' hq h;exact h.elim
 |again=>intro t m Q Q' hq h;exact h.elim
 |rfn=>intro t m Q Q' hq h;obtain⟨x,t',m',h1,h2⟩:=h;exact⟨x,t',m',h1,hq _ _ _ h2⟩
theorem View.refl{t:List Value}{m:Mem}:View Sig.none Sig.none n0 rd t m t m:=λρ _ _ _ hR ht hr=>⟨ρ,hR,ht,hr,λ_ _=>rfl,λb o x hb hx=>⟨b,o,x,hb,hx,rfl,rfl⟩⟩
def roundQ(n0:Nat)(rd:Option Nat)(I:Nat->List Value->Mem->Prop)(k:Nat)(Q:Exit->List Value->Mem->Prop)(x:Exit)(t:List Value)(m:Mem):Prop:=match x with
 | .normal=>∃k' t1 m1,k'<k∧View Sig.none Sig.none n0 rd t m t1 m1∧I k' t1 m1
 |x=>Q x t m
theorem roundQ_normal{I:Nat->List Value->Mem->Prop}{k:Nat}{Q:Exit->List Value->Mem->Prop}{t:List Value}{m:Mem}:roundQ n0 rd I k Q .normal t m=∃k' t1 m1,k'<k∧View Sig.none Sig.none n0 rd t m t1 m1∧I k' t1 m1:=rfl
theorem roundQ_exit{I:Nat->List Value->Mem->Prop}{k i:Nat}{Q:Exit->List Value->Mem->Prop}{t:List Value}{m:Mem}:roundQ n0 rd I k Q (.exit i) t m=Q (.exit i) t m:=rfl
theorem roundQ_ret{I:Nat->List Value->Mem->Prop}{k:Nat}{Q:Exit->List Value->Mem->Prop}{t:List Value}{m:Mem}:roundQ n0 rd I k Q .ret t m=Q .ret t m:=rfl
theorem WX.loop_of{b:SCode}{Q:Exit->List Value->Mem->Prop}(I:Nat->List Value->Mem->Prop)
  (step:∀k t m,I k t m->WXi E n0 rd b t m (Q:=⟨roundQ n0 rd I k Q⟩))
  {k:Nat} {t t1:List Value} {m m1:Mem} (hv:View Sig.none Sig.none n0 rd t m t1 m1) (h:I k t1 m1):WXi E n0 rd (.loop b) t m (Q:=⟨Q⟩):=by
 have key:∀N k,k<N->∀t m t1 m1,View Sig.none Sig.none n0 rd t m t1 m1->I k t1 m1->LW n0 rd (WX E n0 rd b) N t m Q:=by
  intro N
  induction N with
  |zero=>intro k hk;omega
  |succ N ih=>
   intro k hk t m t1 m1 hv h
   refine⟨t1,m1,hv,WX.mono (λx t m hx=>?_) (step k t1 m1 h)⟩
   cases x with
   |normal=>
    obtain⟨k',t2,m2,h1,h2,h3⟩:=hx
    exact ih k' (by omega) _ _ _ _ h2 h3
   |_=>exact⟨t,m,View.refl,hx⟩
 exact⟨k+1,key _ k (Nat.lt_succ_self _) _ _ _ _ hv h⟩
end
section
variable{P:Program}{E:Env}
theorem nth_write{c:Cells}{o n:Nat}{l:List Value}:(c.write o l).nth n=if o<=n∧n<o+l.length∧n<c.n then l[n-o]? else c.nth n:=by
 unfold Cells.nth
 rw[write_n,get_write]
 by_cases h:n<c.n
 ·rw[if_pos h]
  by_cases h2:o<=n∧n<o+l.length
  ·rw[if_pos h2,if_pos ⟨h2.1,h2.2,h⟩,gD',gE' (by omega)]
   rfl
  ·rw[if_neg h2,if_neg (λh3=>h2 ⟨h3.1,h3.2.1⟩),if_pos h]
 ·rw[if_neg h,if_neg (λh3=>h h3.2.2),if_neg h]
theorem nth_write_same{c:Cells}{o:Nat}{v:Value}{l:List Value}(h:o<c.n):(c.write o (v::l)).nth o=some v:=by
 rw[nth_write,if_pos ⟨lR' _,by simp,h⟩];simp
theorem seg_get{c:Cells}:∀{k o:Nat} {l:List Value},l.length=k->(∀i,i<k->c.get (o+i)=l.getD i undef)->c.seg o k=l
 |0,o,l,hl,_=>by cases l with|nil=>rfl|cons=>cases hl
 |k+1,o,l,hl,h=>by
  cases l with
  |nil=>cases hl
  |cons v l=>
   unfold Cells.seg
   have h0:=h 0 (by omega)
   simp only[Nat.add_zero,List.getD_cons_zero] at h0
   rw[h0,seg_get (l:=l) (by simpa using hl) λi hi=>?_]
   have:=h (i+1) (by omega)
   rw[show o+1+i=o+(i+1) by omega]
   simpa using this
theorem sub_get{c:Cells}{o n:Nat}{l:List Value}(hl:l.length=n)(hn:o+n<=c.n)(h:∀i,i<n->c.get (o+i)=l.getD i undef):c.sub o n=some l:=by
 rw[sub_lt hn,seg_get hl h]
theorem seg_getD{c:Cells}:∀{k o i:Nat},i<k->(c.seg o k).getD i undef=c.get (o+i)
 |0,_,_,h=>by omega
 |k+1,o,0,_=>rfl
 |k+1,o,i+1,h=>by
  unfold Cells.seg
  rw[List.getD_cons_succ,seg_getD (by omega),Nat.add_right_comm];rfl
theorem sub_get_inv{c:Cells}{o n:Nat}{l:List Value}(h:c.sub o n=some l){i:Nat}(hi:i<n):c.get (o+i)=l.getD i undef:=by
 unfold Cells.sub at h
 split at h
 ·cases h
  exact(seg_getD hi).symm
 ·cases h
theorem sub_write_same{c:Cells}{o n:Nat}{l:List Value}(hl:l.length=n)(hn:o+n<=c.n):(c.write o l).sub o n=some l:=by
 refine sub_get hl (by rw[write_n];exact hn) λi hi=>?_
 rw[get_write,if_pos ⟨by omega,by omega⟩,Nat.add_sub_cancel_left]
theorem sub_ofList{l:List Value}{o n:Nat}(h:o+n<=l.length):(ofL l).sub o n=some ((l.drop o).take n):=by
 refine sub_get (by simp;omega) (by rw[ofList_n];exact h) λi hi=>?_
 rw[get_ofList (by omega)]
 simp[gD',hi]
theorem Fresh.ne0{m:Mem}(h:Fresh m){b:Nat}{o:AObj}(hb:m.get b=some o):¬b=m.next:=by
 have:=h.lt hb
 omega
theorem oneOr0:oneOr []= .tuple [].toArray:=rfl
theorem get_eq_b{m:Mem}{b k:Nat}{o:AObj}:((m.put b o).bump k).get b=some o:=get_eq
theorem ne_new{m:Mem}{k:Nat}(h:k<m.next)(j:Nat):¬k=m.next+j:=by omega
theorem ne_new0{m:Mem}{k:Nat}(h:k<m.next):¬k=m.next:=by omega
theorem TidyE.pure{m m1:Mem}{v:Value}(h1:plain v=true)(h:∀b,b<m.next->m1.get b=m.get b):TidyE m m1 v v m:=tidy_pure (rv_plain h1) h
def LK(l:List (Nat×Value)):List (Nat×Value)->Prop
 |[]=>True
 |(k,v)::l'=>lk l k=v∧LK l l'
theorem LK.all{l:List (Nat×Value)}:∀{l':List (Nat×Value)},LK l l'->∀p∈l',lk l p.1=p.2
 |[],_,p,h=>by cases h
 |(k,v)::l',h,p,hp=>by
  rcases List.mem_cons.1 hp with rfl|hp
  ·exact h.1
  ·exact LK.all h.2 p hp
theorem View.temps{n0 n:Nat}{rd:Option Nat}{l l':List (Nat×Value)}{m:Mem}(h:LK l l'):View Sig.none Sig.none n0 rd (T n l) m (T n l') m:=by
 replace h:=h.all
 intro ρ w ts lr hR ht hr
 refine⟨ρ,hR,⟨by rw[<-ht.1,T_length,T_length],λi hi=>?_⟩,hr,λ_ _=>rfl,λb o x hb hx=>⟨b,o,x,hb,hx,rfl,rfl⟩⟩
 rw[T_length] at hi
 have h1:=ht.2 i (by rwa[T_length])
 rw[T_get hi] at h1⊢
 have key:∀l':List (Nat×Value),(∀p∈l',lk l p.1=p.2)->lk l' i=JJ∨lk l' i=lk l i:=by
  intro l'
  induction l' with
  |nil=>exact λ_=> .inl rfl
  |cons p l' ih=>
   intro h
   obtain⟨k,v⟩:=p
   rw[lk_cons]
   by_cases e:k=i
   ·subst e;rw[if_pos rfl];exact .inr (h (k,v) (by simp)).symm
   ·rw[if_neg e];exact ih λq hq=>h q (by simp[hq])
 rcases key l' h with e|e<;>rw[e]
 ·exact .junk
 ·exact h1
theorem wrap_i64{n:Int}(h1: -9223372036854775808<=n)(h2:n<9223372036854775808):IntKind.i64.wrap n=n:=by
 simp only[IntKind.wrap,IntKind.signed,IntKind.bits]
 simp
 omega
end
section
variable{P:Program}{E:Env}{n0:Nat}{rd:Option Nat}
theorem CodeOk.of_t{σ:Sig}{c:SCode}{t t':List Value}{m m':Mem}{x:Exit}(h:TOk σ σ P m.next rd c t m x t' m')(hn:m.next<=m'.next):CodeOk σ P rd c t m x t' m':=by
 intro k ρ w a l lo h1 h2 h3 h4 h5 h6
 refine wpIn_mono (h k ρ w a l lo h1 h2 h3 h4 h5 h6) ?_
 rintro e a' w' ⟨rfl,g0,ρ',g1,g2,g3,g4,g5⟩
 have he:Ext ρ ρ':=λb x hb=>by
  rcases Nat.lt_or_ge b m.next with hlt|hge
  ·rw[g5 b hlt];exact hb
  ·rw[h2.dom b hge] at hb;cases hb
 exact⟨rfl,g0,ρ',g1,g2,⟨g3.rel,he,hn,g3.size,g3.os,g3.tape,g3.output,g3.frame,g3.img⟩,λb hb e=>(g5 b hb).trans e⟩
open Classical in
def codeSelf(c1:SCode)(t1:List Value)(m1:Mem)(o1:Out×Mem)(c2:SCode)(t2:List Value)(m2:Mem)(o2:Out×Mem)(l:Nat):Self:=λtk m=>
 if tk= .code (some l) c1 t1∧m=m1 then some o1 else if tk= .code (some l) c2 t2∧m=m2 then some o2 else none
def roundC(l:Nat)(r:ALoop)(m:Mem)(k:Value->Mem->Prop)(x:Exit):Prop:=match x with
 | .normal=>k (.bool true) (m.put l (.loop {r with state:= .ready,pend:=none}))
 | .ret=>k (.bool false) (m.put l (.loop {r with state:= .done,pend:=some .ret}))
 | .exit id=>k (.bool false) (m.put l (.loop {r with state:= .done,pend:=some (.exit id)}))
 |_=>False
def roundQ2(l:Nat)(n:Nat)(k:Value->Mem->Prop)(x:Exit)(_:List Value)(m3:Mem):Prop:=n<=m3.next∧∃r3,m3.get l=some (.loop r3)∧roundC l r3 m3 k x
def roundQ1(E:Env)(l:Nat)(n:Nat)(b:SCode)(k:Value->Mem->Prop)(x:Exit)(t1:List Value)(m1:Mem):Prop:=x= .normal∧n<=m1.next∧∃r1,m1.get l=some (.loop r1)∧r1.state= .ready∧
 WX E m1.next (some l) b t1 (m1.put l (.loop {r1 with state:= .busy})) (roundQ2 l m1.next k)
theorem RoundOk.of_wx(hE:EnvOk E){l:Nat}{r:ALoop}{args:List Value}{m:Mem}{k:Value->Mem->Prop}(hl:m.get l=some (.loop r))(hps:r.ps.length=args.length)(hst:r.state= .ready)
  (h:WX E m.next (some l) r.assign (setAll r.ps args r.tmps) m (roundQ1 E l m.next r.body k)):∃v m',RoundOk Sig.none E.P l args m v m'∧k v m':=by
 obtain⟨x,t1,m1,h1,rfl,h2,r1,h3,h4,h5⟩:=WX.ok hE h
 obtain⟨x2,t2,m3,h6,h7,r3,h8,h9⟩:=WX.ok hE h5
 let slf:=codeSelf r.assign (setAll r.ps args r.tmps) m (.exit .normal t1,m1) r.body t1 (m1.put l (.loop {r1 with state:= .busy})) (.exit x2 t2,m3) l
 have hs:SelfOk Sig.none E.P slf:=by
  refine⟨λf a m v m' hh=>?_,λf a m v m' hh=>?_,λrd c t m' x t' m'' hh=>?_⟩
  ·simp only[slf,codeSelf,reduceCtorEq,false_and,if_false] at hh
  ·simp only[slf,codeSelf,reduceCtorEq,false_and,if_false] at hh
  ·simp only[slf,codeSelf] at hh
   split at hh
   ·rename_i e
    obtain⟨e1,rfl⟩:=e
    cases e1
    cases hh
    exact CodeOk.of_t h1 h2
   ·split at hh
    ·rename_i e
     obtain⟨e1,rfl⟩:=e
     cases e1
     cases hh
     exact CodeOk.of_t h6 h7
    ·cases hh
 have q1:slf (.code (some l) r.assign (setAll r.ps args r.tmps)) m=some (.exit .normal t1,m1):=by
  simp only[slf,codeSelf,and_self,if_true]
 have q2:slf (.code (some l) r.body t1) (m1.put l (.loop {r1 with state:= .busy}))=some (.exit x2 t2,m3):=by
  simp only[slf,codeSelf]
  rw[if_neg]
  ·simp
  ·rintro⟨e1,e2⟩
   have:m.get l=some (.loop {r1 with state:= .busy}):=by rw[<-e2,gP,if_pos rfl]
   rw[hl] at this
   simp only[sI,AObj.loop.injEq] at this
   rw[this] at hst
   cases hst
 have key:∀v m',step E slf (.round l args) m=some (.val v,m')->RoundOk Sig.none E.P l args m v m':=λv m' hh=>round_ok hs hh
 have hstep:step E slf (.round l args) m=match x2 with
   | .normal=>some (.val (.bool true),m3.put l (.loop {r3 with state:= .ready,pend:=none}))
   | .ret=>some (.val (.bool false),m3.put l (.loop {r3 with state:= .done,pend:=some .ret}))
   | .exit id=>some (.val (.bool false),m3.put l (.loop {r3 with state:= .done,pend:=some (.exit id)}))
   |_=>none:=by
  simp only[step,hl,hps,hst,and_self,if_true,q1,h3,h4,q2,h8]
  cases x2<;>rfl
 cases x2<;>first|exact h9.elim|exact⟨_,_,key _ _ hstep,h9⟩
def loopI(o:Option AObj) [k:VI ALoop]:Prop:=match o with
 |some (.loop r)=>k.k r
 |_=>False
theorem loopI_some{r:ALoop}{k:ALoop->Prop}:loopI (some (.loop r)) (k:=⟨k⟩)=k r:=rfl
theorem loopI_iff{o:Option AObj}{k:ALoop->Prop}:loopI o (k:=⟨k⟩)↔∃r,o=some (.loop r)∧k r:=by
 constructor
 ·intro h
  unfold loopI at h
  split at h
  ·exact⟨_,rfl,h⟩
  ·exact h.elim
 ·rintro⟨r,rfl,h⟩;exact h
section
variable{l n:Nat}{b:SCode}{k:Value->Mem->Prop}{t:List Value}{m:Mem}
theorem roundQ1_normal:roundQ1 E l n b k .normal t m=(n<=m.next∧loopI (m.get l) (k:=⟨λr1=>r1.state= .ready∧WXi E m.next (some l) b t (m.put l (.loop {r1 with state:= .busy})) (Q:=⟨roundQ2 l m.next k⟩)⟩)):=by
 refine propext ⟨λh=>⟨h.2.1,loopI_iff.2 h.2.2⟩,λh=>⟨rfl,h.1,loopI_iff.1 h.2⟩⟩
theorem roundQ2_normal:roundQ2 l n k .normal t m=(n<=m.next∧loopI (m.get l) (k:=⟨λr=>k (.bool true) (m.put l (.loop {r with state:= .ready,pend:=none}))⟩)):=
 propext ⟨λh=>⟨h.1,loopI_iff.2 h.2⟩,λh=>⟨h.1,loopI_iff.1 h.2⟩⟩
theorem roundQ2_ret:roundQ2 l n k .ret t m=(n<=m.next∧loopI (m.get l) (k:=⟨λr=>k (.bool false) (m.put l (.loop {r with state:= .done,pend:=some .ret}))⟩)):=
 propext ⟨λh=>⟨h.1,loopI_iff.2 h.2⟩,λh=>⟨h.1,loopI_iff.1 h.2⟩⟩
theorem roundQ2_exit{i:Nat}:roundQ2 l n k (.exit i) t m=(n<=m.next∧loopI (m.get l) (k:=⟨λr=>k (.bool false) (m.put l (.loop {r with state:= .done,pend:=some (.exit i)}))⟩)):=
 propext ⟨λh=>⟨h.1,loopI_iff.2 h.2⟩,λh=>⟨h.1,loopI_iff.1 h.2⟩⟩
end
theorem setAll1{p:Tmp}{a:Value}{t:List Value}:setAll [p] [a] t=t.set p a:=rfl
theorem setAll2{p q:Tmp}{a b:Value}{t:List Value}:setAll [p,q] [a,b] t=(t.set p a).set q b:=rfl
theorem setAll0{t:List Value}:setAll [] [] t=t:=rfl
def yieldOf:Value->Option (Nat×Array Value)
 | .func (.yield l) a _=>some (l,a)
 |_=>none
theorem yieldOf_y{l:Nat}{a c:Array Value}:yieldOf (.func (.yield l) a c)=some (l,a):=rfl
def fnV:Value->Option (FuncId×Array Value×Array Value)
 | .func (.func g) a c=>some (g,a,c)
 |_=>none
theorem fnV_f{g:FuncId}{a c:Array Value}:fnV (.func (.func g) a c)=some (g,a,c):=rfl
section
variable{base i:Nat}{rest:List (Nat×SOp)}{L:List Inst}{t:List Value}{m:Mem}{K:KI}{rt:TypeId}
theorem X_yield{dst:Option Tmp}{f:Tmp}{args:Array Operand}{ts:Array TypeId}(h:(yieldOf (ev (.tmp f) t)).isSome=true):XWi E base ((i,⟨dst, .call ⟨.value (.tmp f),args,ts⟩,rt,none⟩)::rest) L t m (Q:=K)=
  CallI E L (.round ((yieldOf (ev (.tmp f) t)).getD (0,#[])).1 (((yieldOf (ev (.tmp f) t)).getD (0,#[])).2.toList++args.toList.map (ev · t))) m (K:=⟨λL' v m'=>XWi E base rest L' (putT dst v t) m' (Q:=K)⟩):=by
 have hr:reqA E.P ⟨dst, .call ⟨.value (.tmp f),args,ts⟩,rt,none⟩ (ev · t) m=some (.round ((yieldOf (ev (.tmp f) t)).getD (0,#[])).1 (((yieldOf (ev (.tmp f) t)).getD (0,#[])).2.toList++args.toList.map (ev · t)),m)∧opA E noSelf (base+i) ⟨dst, .call ⟨.value (.tmp f),args,ts⟩,rt,none⟩ t m=none:=by
  cases hv:ev (.tmp f) t<;>simp only[hv,yieldOf] at h<;>first|cases h|skip
  rename_i g a c
  split at h
  ·rename_i l c' e
   cases e
   simp[reqA,opA,cls,effA,hv,yieldOf]
  ·cases h
 refine propext ⟨λh=>?_,XW_task rfl hr.1⟩
 obtain⟨_,⟨_,h⟩|⟨h,_⟩⟩:=h
 ·rcases h with⟨v,m',h1,_⟩|⟨tk,m1,v,m2,h1,h2,h3,h4⟩
  ·rw[hr.2] at h1;cases h1
  ·rw[hr.1] at h1
   cases h1
   exact⟨v,m2,h2,h3,h4⟩
 ·cases h
theorem X_callf{dst:Option Tmp}{f:Tmp}{args:Array Operand}{ts:Array TypeId}(h:(fnV (ev (.tmp f) t)).isSome=true)(hc:callable E.P ((fnV (ev (.tmp f) t)).getD (0,#[],#[])).1=true):XWi E base ((i,⟨dst, .call ⟨.value (.tmp f),args,ts⟩,rt,none⟩)::rest) L t m (Q:=K)=
  CallI E L (.call ((fnV (ev (.tmp f) t)).getD (0,#[],#[])).1 (((fnV (ev (.tmp f) t)).getD (0,#[],#[])).2.1.toList++args.toList.map (ev · t)++((fnV (ev (.tmp f) t)).getD (0,#[],#[])).2.2.toList)) m (K:=⟨λL' v m'=>XWi E base rest L' (putT dst v t) m' (Q:=K)⟩):=by
 have hr:reqA E.P ⟨dst, .call ⟨.value (.tmp f),args,ts⟩,rt,none⟩ (ev · t) m=some (.call ((fnV (ev (.tmp f) t)).getD (0,#[],#[])).1 (((fnV (ev (.tmp f) t)).getD (0,#[],#[])).2.1.toList++args.toList.map (ev · t)++((fnV (ev (.tmp f) t)).getD (0,#[],#[])).2.2.toList),m)∧opA E noSelf (base+i) ⟨dst, .call ⟨.value (.tmp f),args,ts⟩,rt,none⟩ t m=none:=by
  cases hv:ev (.tmp f) t<;>simp only[hv,fnV] at h<;>first|cases h|skip
  rename_i g a c
  split at h
  ·rename_i l a' c' e
   cases e
   rw[hv] at hc
   simp only[fnV,Option.getD_some] at hc
   simp[reqA,opA,cls,effA,hv,fnV,hc]
  ·cases h
 refine propext ⟨λh=>?_,XW_task rfl hr.1⟩
 obtain⟨_,⟨_,h⟩|⟨h,_⟩⟩:=h
 ·rcases h with⟨v,m',h1,_⟩|⟨tk,m1,v,m2,h1,h2,h3,h4⟩
  ·rw[hr.2] at h1;cases h1
  ·rw[hr.1] at h1
   cases h1
   exact⟨v,m2,h2,h3,h4⟩
 ·cases h
def invV(P:Program)(v:Value)(name:String):Option (FuncId×Value):=match v with
 | .iface ty x=>match methodA P ty name with
   |some f=>if callable P f then some (f,x) else none
   |none=>none
 |_=>none
theorem invV_i{P:Program}{ty:TypeId}{x:Value}{name:String}{f:FuncId}(h:methodA P ty name=some f)(hc:callable P f=true):invV P (.iface ty x) name=some (f,x):=by simp[invV,h,hc]
theorem X_inv{dst:Option Tmp}{x:Operand}{name:String}{args:Array Operand}{ts:Array TypeId}(h:(invV E.P (ev x t) name).isSome=true):XWi E base ((i,⟨dst, .call ⟨.invoke x name,args,ts⟩,rt,none⟩)::rest) L t m (Q:=K)=
  CallI E L (.call ((invV E.P (ev x t) name).getD (0,undef)).1 (((invV E.P (ev x t) name).getD (0,undef)).2::args.toList.map (ev · t))) m (K:=⟨λL' v m'=>XWi E base rest L' (putT dst v t) m' (Q:=K)⟩):=by
 have hr:reqA E.P ⟨dst, .call ⟨.invoke x name,args,ts⟩,rt,none⟩ (ev · t) m=some (.call ((invV E.P (ev x t) name).getD (0,undef)).1 (((invV E.P (ev x t) name).getD (0,undef)).2::args.toList.map (ev · t)),m)∧opA E noSelf (base+i) ⟨dst, .call ⟨.invoke x name,args,ts⟩,rt,none⟩ t m=none:=by
  cases hv:ev x t<;>simp only[hv,invV] at h<;>first|cases h|skip
  rename_i ty v
  split at h
  ·rename_i f hm
   split at h
   ·rename_i hc
    simp[reqA,opA,cls,effA,hv,invV,hm,hc]
   ·cases h
  ·cases h
 refine propext ⟨λh=>?_,XW_task rfl hr.1⟩
 obtain⟨_,⟨_,h⟩|⟨h,_⟩⟩:=h
 ·rcases h with⟨v,m',h1,_⟩|⟨tk,m1,v,m2,h1,h2,h3,h4⟩
  ·rw[hr.2] at h1;cases h1
  ·rw[hr.1] at h1
   cases h1
   exact⟨v,m2,h2,h3,h4⟩
 ·cases h
end
def rfnQ(l0:Nat)(Q:Exit->List Value->Mem->Prop)(t:List Value)(m2:Mem):Prop:=∃r,m2.get l0=some (.loop r)∧r.state≠ .busy∧match r.pend with
 |none=>Q .normal t (m2.put l0 (.loop {r with state:= .exhausted}))
 |some y=>pendX y=true∧Q y t (m2.put l0 (.loop {r with state:= .exhausted}))
theorem W_rfn{f:Operand}{ps:List Tmp}{sa sb:SCode}{n:Nat}{l l':List (Nat×Value)}{m m2:Mem}{g:FuncId}{first cap:Array Value}{v:Value}{Q:Exit->List Value->Mem->Prop}(hn:n0<=m.next)
  (hev:ev f (T n l)= .func (.func g) first cap) (hcall:callable E.P g=true)
  (hc:Con E.P g (first.toList++ [.func (.yield m.next) #[] #[]]++cap.toList) ((m.put m.next (.loop {state:= .ready,pend:=none,tmps:=T n l,ps:=ps,assign:=sa,body:=sb})).bump 1) v m2)
  (hv:∀p∈l',RV (m.next+1) [] (lk l p.1) p.2) (hQ:rfnQ m.next Q (T n l') m2):
  WXi E n0 none (.rfn f ps sa sb) (T n l) m (Q:=⟨Q⟩):=by
 obtain⟨⟨st,pend,tm,qs,as,bd⟩,h1,h2,h3⟩:=hQ
 have hT:TCall Sig.none Sig.none E.P (m.next+1) g (first.toList++ [.func (.yield m.next) #[] #[]]++cap.toList) ((m.bump 1).put m.next (.loop {state:= .ready,pend:=none,tmps:=T n l,ps:=ps,assign:=sa,body:=sb})) v m2:=
  TCall.of_call (lR' _) hc.1
 have hvv:∀(ρ ρ':Rho) (ts:List Value),(∀b,b<m.next+1->ρ' b=ρ b)->LRel Sig.none ρ (T n l) ts->LRel Sig.none ρ' (T n l') ts:=λρ ρ' ts he ht=>rv_T hv he (by simp) ht
 cases pend with
 |none=>
  exact⟨.normal,T n l',_,TOk.rfn hn hev hcall rfl hT hvv h1 h2 rfl,h3⟩
 |some y=>
  exact⟨y,T n l',_,TOk.rfn hn hev hcall rfl hT hvv h1 h2 ⟨h3.1,rfl⟩,h3.2⟩
theorem W_rfn'{f:Operand}{ps:List Tmp}{sa sb:SCode}{n:Nat}{l l':List (Nat×Value)}{m m2 mr:Mem}{l0:Nat}{g:FuncId}(first cap:List Value){v:Value}{Q:Exit->List Value->Mem->Prop}(hn:n0<=m.next)
  (hev:ev f (T n l)= .func (.func g) first.toArray cap.toArray) (hcall:callable E.P g=true) (h0:m.next=l0) (hmr:(m.put l0 (.loop {state:= .ready,pend:=none,tmps:=T n l,ps:=ps,assign:=sa,body:=sb})).bump 1=mr)
  (hc:Con E.P g (first++ [.func (.yield l0) #[] #[]]++cap) mr v m2)
  (hv:∀p∈l',RV (l0+1) [] (lk l p.1) p.2) (hQ:rfnQ l0 Q (T n l') m2):
  WXi E n0 none (.rfn f ps sa sb) (T n l) m (Q:=⟨Q⟩):=by
 subst h0 hmr
 exact W_rfn hn hev hcall (by simpa using hc) hv hQ
theorem rfnQ_normal{l0:Nat}{Q:Exit->List Value->Mem->Prop}{t:List Value}{m2:Mem}{tm:List Value}{qs:List Tmp}{sa bd:SCode}(h1:m2.get l0=some (.loop ⟨.ready,none,tm,qs,sa,bd⟩))(h2:Q .normal t (m2.put l0 (.loop ⟨.exhausted,none,tm,qs,sa,bd⟩))):rfnQ l0 Q t m2:=
 ⟨_,h1,by simp,h2⟩
end
end
end Go.Ab
