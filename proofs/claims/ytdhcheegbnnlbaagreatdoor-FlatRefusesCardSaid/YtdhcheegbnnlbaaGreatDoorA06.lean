/- Part. -/
import Derived.Test.YtdhcheegbnnlbaaGreatDoorA05
import Derived.Below
import Derived.DeepKeys
set_option linter.all false
open Go.Ab.Mem renaming next_bump → bN, get_put → gP
open List renaming getD_eq_getElem?_getD → gD', getElem?_eq_getElem → gE', getElem?_map → gM', length_set → sL
open Option.some renaming injEq → sI
open Prod.mk renaming injEq → pI
open Nat renaming lt_of_lt_of_le → lL, le_refl → lR', le_trans → lT
open Bool renaming and_eq_true → bT, false_eq_true → bF
namespace Go.Ab
section
variable{σ:Sig}
section
variable{E:Env}{self:Self}{base:Nat}{ops:Array Oper}{sl:List SOp}{ord:List (Nat×List Nat)}{T:Nat->List Value}{M:Nat->Mem}
theorem Run.made_wr(R:Run E self base ops sl ord T M){k b:Nat}{ob:AObj}(h:MadeAt base sl ord M k b ob):wr ob=true:=by
 obtain⟨i,re,hi,hm,hb,hg⟩:=h
 obtain⟨o,h1,h2,_⟩:=R.tr.step k i re hi
 have hc:cls o.op= .make:=by rw[<-clsAt_eq h1];exact hm
 obtain⟨v,_,h3⟩:=stepOp_put h2
 rcases h3 with⟨_,h3⟩|⟨_,_,h3⟩
 ·simp only[opA,hc] at h3
  split at h3
  ·rename_i ob' mk hmk
   simp only[sI,pI] at h3
   rw[<-h3.2,gP,if_pos hb] at hg
   cases hg
   exact makeA_wr hmk
  ·cases h3
 ·rw[h3,hb,R.fresh k (Nat.le_of_lt (R.klt hi)) k i re (lR' _) hi] at hg
  cases hg
theorem Run.beside(R:Run E self base ops sl ord T M){p q2 k i:Nat}{re:List Nat}{o:SOp}{V V2:Mem}{ρ ρ':Rho}{w w':World}(hi:ord[k]? =some (i,re))(ho:sl[i]? =some o)(hc:cls o.op≠ .make)
  (hp:p<=ops.size) (hpq:p<=q2) (hq2:q2<=ops.size) (hW:WSpec base sl ord M ops.size p V) (hW2:WSpec base sl ord M ops.size q2 V2) (hno:∀k2,p<=k2->k2<q2->∀b ob,¬MadeAt base sl ord M k2 b ob)
  (hR:Rel σ ρ V w) (h:Post σ ρ (M p) w ρ' (M q2) w') (hold:OldBut (M p).next (base+i) ρ ρ'):Post σ ρ V w ρ' V2 w':=by
 refine Post.beside (id:=base+i) (D:=λb ob=>∃k2,q2<=k2∧k2<ops.size∧MadeAt base sl ord M k2 b ob) h hR hold (λb ob=>?_) (λb ob=>hW2.2 b ob) hW.1 hW2.1 ?_
 ·rw[hW.2]
  constructor
  ·rintro(h|⟨k2,g1,g2,g3⟩)
   ·exact .inl h
   ·rcases Nat.lt_or_ge k2 q2 with hk|hk
    ·exact absurd g3 (hno k2 g1 hk b ob)
    ·exact .inr ⟨k2,hk,g2,g3⟩
  ·rintro(h|⟨k2,g1,g2,g3⟩)
   ·exact .inl h
   ·exact .inr ⟨k2,by omega,g2,g3⟩
 ·rintro b ob ⟨k2,g1,g2,g3⟩
  have hwr:=R.made_wr g3
  obtain⟨i2,re2,j1,j2,j3,j4⟩:=g3
  have hlt:=R.lt j1
  have:=R.next_ge p hp
  refine⟨j3▸R.fresh p hp k2 i2 re2 (by omega) j1,j3▸R.fresh q2 hq2 k2 i2 re2 g1 j1,hwr,λe=>?_,by omega⟩
  have:i2=i:=by omega
  subst this
  rw[clsAt_eq ho] at j2
  exact hc j2
structure Way(σ:Sig)(base:Nat)(ops:Array Oper)(sl:List SOp)(ord:List (Nat×List Nat))(T:Nat->List Value)(M:Nat->Mem)(ρ0:Rho)(w0:World)(ds:List Deferred)(S:Nat->Prop)(a:Act)(w:World)(ρ:Rho)(q:Nat)(V:Mem):Prop where
 spec:WSpec base sl ord M ops.size q V
 qle:q<=ops.size
 done:∀(k i:Nat) re,k<q->ord[k]? =some (i,re)->S i
 rest:∀(k i:Nat) re,q<=k->ord[k]? =some (i,re)->S i->Calm sl ord T k
 closed:Closed ops.toList S
 none:∀i,i<ops.size->¬S i->ρ (base+i)=none
 post:Post σ ρ0 (M 0) w0 ρ V w
 old:∀b,b<base->ρ0 b= .none->ρ b= .none
 size:a.tmps.size=(T 0).length
 slotD:∀x,(∃(i:Nat) (o:SOp),S i∧sl[i]? =some o∧o.dst=some x)->VRel σ ρ ((T ops.size).getD x undef) (a.tmps.getD x undef)
 slotN:∀x,(∀(i:Nat) (o:SOp),sl[i]? =some o->o.dst=some x->¬S i)->VRel σ ρ ((T 0).getD x undef) (a.tmps.getD x undef)
 defers:a.defers=ds
variable{ρ0:Rho}{w0:World}{ds:List Deferred}{S:Nat->Prop}{a:Act}{w:World}{ρ:Rho}{q:Nat}{V:Mem}
theorem Run.prefix_closed(R:Run E self base ops sl ord T M)(k:Nat):Closed ops.toList (λj=>∃(k':Nat) (re:List Nat),k'<k∧ord[k']? =some (j,re)):=by
 rintro i ⟨k1,re,h1,h2⟩ p hp
 obtain⟨k',re',h3,h4⟩:=R.chk.lin k1 i re h2 p hp
 exact⟨k',re',by omega,h4⟩
theorem Run.look(R:Run E self base ops sl ord T M)(W:Way σ base ops sl ord T M ρ0 w0 ds S a w ρ q V){k i:Nat}{re:List Nat}{o:SOp}(hi:ord[k]? =some (i,re))(ho:sl[i]? =some o)(hS:¬S i)
  (hpr:∀p∈(ops.toList.map preds).getD i [],S p) {x:Tmp} (hx:x∈looks o):VRel σ ρ ((T k).getD x undef) (a.tmps.getD x undef):=by
 have hk:=R.klt hi
 by_cases hw:∃(j:Nat) (oj:SOp),sl[j]? =some oj∧oj.dst=some x
 ·obtain⟨j,oj,hj,hd⟩:=hw
  have hjl:j<ops.size:=by
   have h1:=(List.getElem?_eq_some_iff.1 hj).1
   have h2:=R.chk.len
   simp at h2
   omega
  obtain⟨p,rp,hp⟩:=R.chk.all j (by simpa using hjl)
  have only:∀(i':Nat) (o':SOp),sl[i']? =some o'->o'.dst=some x->i'=j:=λi' o' h1 h2=>R.chk.ssa i' j o' oj x h1 hj h2 hd
  rcases R.chk.tmp i o ho x hx j oj hj hd with h|h|h
  ·subst h
   have:=R.chk.uniq k p i re rp hi hp
   subst this
   rw[R.before hp hj hd (lR' _)]
   exact W.slotN x λi' o' h1 h2=>only i' o' h1 h2▸hS
  ·have hSj:=anc_closed W.closed i j hpr h
   obtain⟨k',re',h1,h2⟩:=anc_closed (R.prefix_closed k) i j (λp hp=>R.chk.lin k i re hi p hp) h
   have:=R.chk.uniq k' p j re' rp h2 hp
   subst this
   rw[R.after hp hj hd h1 (by omega)]
   exact W.slotD x ⟨j,oj,hSj,hj,hd⟩
  ·have hSj:¬S j:=λhSj=>hS (anc_closed W.closed j i (W.closed j hSj) h)
   obtain⟨k',re',h1,h2⟩:=anc_closed (R.prefix_closed p) j i (λp' hp'=>R.chk.lin p j rp hp p' hp') h
   have:=R.chk.uniq k' k i re' re h2 hi
   subst this
   rw[R.before hp hj hd (by omega)]
   exact W.slotN x λi' o' h1 h2=>only i' o' h1 h2▸hSj
 ·rw[R.never (λi' o' h1 h2=>hw ⟨i',o',h1,h2⟩) (by omega)]
  exact W.slotN x λi' o' h1 h2=>absurd ⟨i',o',h1,h2⟩ hw
theorem Run.pick(R:Run E self base ops sl ord T M)(heq:∀v u,E.eqv v u=true->v=u)(W:Way σ base ops sl ord T M ρ0 w0 ds S a w ρ q V){k i:Nat}{re:List Nat}{o:SOp}{v:Value}(hi:ord[k]? =some (i,re))(ho:sl[i]? =some o)(hS:¬S i)
  (hpr:∀p∈(ops.toList.map preds).getD i [],S p) (hw:wanted o.guard (T k)=true) (hop:opA E self (base+i) o (T k) (M k)=some (v,M (k+1)))
  (hre:∀e∈re,∃(k':Nat) (re':List Nat),k'<k∧ord[k']? =some (e,re')∧∃v u,readE E o (ev · (T k)) (M k)=some v∧readE E o (ev · (T k)) (M k')=some u∧E.eqv v u=true):
  ∃m1 m2 V2 q2,opA E self (base+i) o (T k) m1=some (v,m2)∧Rel σ ρ m1 w∧base+ops.size<=m1.next∧q<=q2∧q2<=ops.size∧WSpec base sl ord M ops.size q2 V2∧
   (∀(k' i':Nat) re',k'<q2->ord[k']? =some (i',re')->S i'∨i'=i)∧(∀(k' i':Nat) re',q2<=k'->ord[k']? =some (i',re')->S i'∨i'=i->Calm sl ord T k')∧
   ∀ρ' w',Post σ ρ m1 w ρ' m2 w'->OldBut m1.next (base+i) ρ ρ'->Post σ ρ V w ρ' V2 w':=by
 have hk:=R.klt hi
 have hqk:q<=k:=by
  rcases Nat.lt_or_ge k q with h|h
  ·exact absurd (W.done k i re h hi) hS
  ·exact h
 have hVn:base+ops.size<=V.next:=by rw[W.spec.1];exact R.next_ge q W.qle
 have hdone:∀(k' i':Nat) re',k'<q->ord[k']? =some (i',re')->S i'∨i'=i:=λk' i' re' h1 h2=> .inl (W.done k' i' re' h1 h2)
 have calmk:cls o.op≠ .eff->Calm sl ord T k:=λhc=>⟨i,re,o,hi,ho, .inl (by simp[isEff,clsAt_eq ho,hc])⟩
 have hrest:Calm sl ord T k->∀(k' i':Nat) re',q<=k'->ord[k']? =some (i',re')->S i'∨i'=i->Calm sl ord T k':=λhck k' i' re' h1 h2 h3=>by
  rcases h3 with h3|h3
  ·exact W.rest k' i' re' h1 h2 h3
  ·subst h3
   have:=R.chk.uniq k' k i' re' re h2 hi
   subst this
   exact hck
 have hop0:=hop
 unfold opA at hop
 split at hop
 ·rename_i hc
  split at hop
  ·rename_i u hu
   simp only[sI,pI] at hop
   obtain⟨rfl,_⟩:=hop
   refine⟨V,V,V,q,by simp only[opA,hc,hu],W.post.rel,hVn,lR' _,W.qle,W.spec,hdone,hrest (calmk (by rw[hc];simp)),λρ' w' h _=>h⟩
  ·cases hop
 ·rename_i hc
  split at hop
  ·rename_i u hu
   simp only[sI,pI] at hop
   obtain⟨rfl,_⟩:=hop
   have hck:Calm sl ord T k:=calmk (by rw[hc];simp)
   have first:∃p,q<=p∧p<=k∧(∀k',q<=k'->k'<p->Calm sl ord T k')∧(p=k∨¬Calm sl ord T p):=by
    have:∀d,q+d<=k->(∃p,q<=p∧p<=k∧(∀k',q<=k'->k'<p->Calm sl ord T k')∧(p=k∨¬Calm sl ord T p))∨(∀k',q<=k'->k'<q+d->Calm sl ord T k'):=by
     intro d
     induction d with
     |zero=>exact λ_=> .inr λk' h1 h2=>by omega
     |succ d ih=>
      intro hd
      rcases ih (by omega) with h|h
      ·exact .inl h
      ·by_cases hcalm:Calm sl ord T (q+d)
       ·refine .inr λk' h1 h2=>?_
        rcases Nat.lt_or_ge k' (q+d) with h3|h3
        ·exact h k' h1 h3
        ·have:k'=q+d:=by omega
         exact this▸hcalm
       ·exact .inl ⟨q+d,by omega,by omega,h, .inr hcalm⟩
    rcases this (k-q) (by omega) with h|h
    ·exact h
    ·exact⟨k,hqk,lR' _,λk' h1 h2=>h k' h1 (by omega), .inl rfl⟩
   obtain⟨p,hqp,hpk,hcalm,hlast⟩:=first
   have hread:readE E o (ev · (T k)) (M p)=some u:=by
    rcases hlast with rfl|hnc
    ·exact hu
    ·obtain⟨e,re',he⟩:=R.at_ (k:=p) (by omega)
     have hpk':p<k:=by
      rcases Nat.lt_or_ge p k with h|h
      ·exact h
      ·have:p=k:=by omega
       subst this
       exact absurd hck hnc
     obtain⟨oe,he1,_⟩:=R.tr.step p e re' he
     have heff:isEff sl e=true:=by
      cases hx:isEff sl e with
      |true=>rfl
      |false=>exact absurd ⟨e,re',oe,he,he1, .inl hx⟩ hnc
     rcases R.chk.read k i re p e re' hi (by rw[clsAt_eq ho,hc]) hpk' he heff with h|h
     ·exact absurd (W.rest p e re' hqp he (anc_closed W.closed i e hpr h)) hnc
     ·obtain⟨k',re2,h1,h2,v2,u2,h3,h4,h5⟩:=hre e h
      have:=R.chk.uniq k' p e re2 re' h2 he
      subst this
      rw[hu] at h3
      cases h3
      rw[h4,heq _ _ h5]
   have hpn:p<=ops.size:=by omega
   have hWp:=R.adv_to W.spec hqp hpn hcalm
   refine⟨M p,M p,V,q,by simp only[opA,hc,hread],hWp.rel W.post.rel,R.next_ge p hpn,lR' _,W.qle,W.spec,hdone,hrest hck,λρ' w' h hold=>?_⟩
   exact R.beside hi ho (by rw[hc];simp) hpn (lR' _) hpn hWp hWp (λk2 h1 h2=>by omega) W.post.rel h hold
  ·cases hop
 ·rename_i hc
  split at hop
  ·rename_i ob mk hu
   simp only[sI,pI] at hop
   obtain⟨hv,hM⟩:=hop
   refine⟨V,V.put (base+i) ob,V,q,by simp only[opA,hc,hu,hv],W.post.rel,hVn,lR' _,W.qle,W.spec,hdone,hrest (calmk (by rw[hc];simp)),λρ' w' h _=>h.congr (λb o' hb=>?_) rfl⟩
   rw[gP]
   split
   ·rename_i hbi
    rcases(W.spec.2 b o').1 hb with h1|⟨k2,h1,h2,i2,re2,h3,h4,h5,h6⟩
    ·rw[hbi,R.fresh q W.qle k i re hqk hi] at h1
     cases h1
    ·have:i2=i:=by omega
     subst this
     have:=R.chk.uniq k2 k i2 re2 re h3 hi
     subst this
     rw[<-hM,gP,if_pos hbi] at h6
     exact h6
   ·exact hb
  ·cases hop
 ·rename_i hc
  have hce:isEff sl i=true:=by simp[isEff,clsAt_eq ho,hc]
  have hbefore:∀(k' i':Nat) re',k'<k->ord[k']? =some (i',re')->S i':=λk' i' re' h1 h2=>anc_closed W.closed i i' hpr (R.chk.eff k i re k' i' re' hi hce h1 h2)
  have hcalm:∀k',q<=k'->k'<k->Calm sl ord T k':=λk' h1 h2=>by
   obtain⟨i',re',h3⟩:=R.at_ (k:=k') (by omega)
   exact W.rest k' i' re' h1 h3 (hbefore k' i' re' h2 h3)
  have hWk:=R.adv_to W.spec hqk (by omega) hcalm
  obtain⟨V2,hV2⟩:=R.exists_W (q:=k+1) (by omega)
  refine⟨M k,M (k+1),V2,k+1,hop0,hWk.rel W.post.rel,R.next_ge k (by omega),by omega,by omega,hV2,λk' i' re' h1 h2=>?_,λk' i' re' h1 h2 h3=>?_,λρ' w' h hold=>?_⟩
  ·rcases Nat.lt_or_ge k' k with h3|h3
   ·exact .inl (hbefore k' i' re' h3 h2)
   ·have:k'=k:=by omega
    subst this
    rw[hi] at h2
    cases h2
    exact .inr rfl
  ·rcases h3 with h3|h3
   ·exact W.rest k' i' re' (by omega) h2 h3
   ·subst h3
    have:=R.chk.uniq k' k i' re' re h2 hi
    omega
  ·refine R.beside hi ho (by rw[hc];simp) (by omega) (by omega) (by omega) hWk hV2 (λk2 h1 h2 b ob hm=>?_) W.post.rel h hold
   have:k2=k:=by omega
   subst this
   obtain⟨i2,re2,h3,h4,_⟩:=hm
   rw[hi] at h3
   cases h3
   rw[clsAt_eq ho,hc] at h4
   cases h4
theorem closed_add{l:List Oper}{S S':Nat->Prop}{i:Nat}(hS:Closed l S)(hpr:∀p∈(l.map preds).getD i [],S p)(h:∀j,S' j↔(S j∨j=i)):Closed l S':=by
 intro j hj p hp
 rw[h] at hj⊢
 rcases hj with hj|rfl
 ·exact .inl (hS j hj p hp)
 ·exact .inl (hpr p hp)
theorem set_slot{ρ:Rho}{t:List Value}{c:Array Value}(hl:c.size=t.length){v v':Value}(hv:VRel σ ρ v v')(x:Tmp):VRel σ ρ ((t.set x v).getD x undef) ((c.setIfInBounds x v').getD x undef):=by
 rw[gD',Array.getD_eq_getD_getElem?]
 by_cases hx:x<t.length
 ·simp[hx,hl,hv]
 ·have h1:(t.set x v)[x]? =none:=List.getElem?_eq_none (by rw[sL];exact Nat.le_of_not_lt hx)
  have h2:(c.setIfInBounds x v')[x]? =none:=Array.getElem?_eq_none (by rw[Array.size_setIfInBounds,hl];exact Nat.le_of_not_lt hx)
  rw[h1,h2]
  exact VRel.undef ρ
theorem Run.onward(R:Run E self base ops sl ord T M)(W:Way σ base ops sl ord T M ρ0 w0 ds S a w ρ q V){k i:Nat}{re:List Nat}{o:SOp}{v v':Value}(hi:ord[k]? =some (i,re))(ho:sl[i]? =some o)
  (hpr:∀p∈(ops.toList.map preds).getD i [],S p) (hT:T (k+1)=putT o.dst v (T k)) {S':Nat->Prop} (hS':∀j,S' j↔(S j∨j=i)) {ρ':Rho} {w':World} {q2:Nat} {V2:Mem} (hv:VRel σ ρ' v v') (hp:Post σ ρ V w ρ' V2 w') (hold:OldBut (base+ops.size) (base+i) ρ ρ')
  (h1:q2<=ops.size) (h2:WSpec base sl ord M ops.size q2 V2) (h3:∀(k' i':Nat) re',k'<q2->ord[k']? =some (i',re')->S i'∨i'=i) (h4:∀(k' i':Nat) re',q2<=k'->ord[k']? =some (i',re')->S i'∨i'=i->Calm sl ord T k'):
  Way σ base ops sl ord T M ρ0 w0 ds S' (a.put o.dst v') w' ρ' q2 V2:=by
 have hk:=R.klt hi
 refine⟨h2,h1,λk' i' re' g1 g2=>(hS' i').2 (h3 k' i' re' g1 g2),λk' i' re' g1 g2 g3=>h4 k' i' re' g1 g2 ((hS' i').1 g3),closed_add W.closed hpr hS',λj hj hn=>?_,W.post.trans hp,λb hb e=>?_,?_,λx hx=>?_,λx hx=>?_,by rw[put_defers];exact W.defers⟩
 ·rw[hS'] at hn
  exact hold _ (by omega) (λe=>hn (.inr (by omega))) (W.none j hj λh=>hn (.inl h))
 ·exact hold _ (by omega) (by omega) (W.old b hb e)
 ·cases hd:o.dst with
  |none=>exact W.size
  |some x=>simpa [Act.put] using W.size
 ·by_cases hd:o.dst=some x
  ·rw[<-R.after hi ho hd (Nat.lt_succ_self k) (by omega),hT,hd]
   have hl:a.tmps.size=(T k).length:=by rw[R.tlen k (by omega)];exact W.size
   exact set_slot hl hv x
  ·have:(a.put o.dst v').tmps.getD x undef=a.tmps.getD x undef:=by
    cases hdd:o.dst with
    |none=>rfl
    |some y=>
     have:y≠x:=λe=>hd (by rw[hdd,e])
     simp[Act.put,Array.getD_eq_getD_getElem?,Array.getElem?_setIfInBounds_ne this]
   rw[this]
   obtain⟨i',o',g1,g2,g3⟩:=hx
   rcases(hS' i').1 g1 with g1|rfl
   ·exact(W.slotD x ⟨i',o',g1,g2,g3⟩).mono hp.ext
   ·rw[ho] at g2
    cases g2
    exact absurd g3 hd
 ·have hd:o.dst≠some x:=λhd=>hx i o ho hd ((hS' i).2 (.inr rfl))
  have:(a.put o.dst v').tmps.getD x undef=a.tmps.getD x undef:=by
   cases hdd:o.dst with
   |none=>rfl
   |some y=>
    have:y≠x:=λe=>hd (by rw[hdd,e])
    simp[Act.put,Array.getD_eq_getD_getElem?,Array.getElem?_setIfInBounds_ne this]
  rw[this]
  exact(W.slotN x λi' o' g1 g2 g3=>hx i' o' g1 g2 ((hS' i').2 (.inl g3))).mono hp.ext
abbrev Listed(listed:Array Bool)(i:Nat):Prop:=listed.getD i false=true
theorem listed_set{listed:Array Bool}{i:Nat}(hi:i<listed.size)(j:Nat):Listed (listed.setIfInBounds i true) j↔(Listed listed j∨j=i):=by
 unfold Listed
 rw[Array.getD_eq_getD_getElem?,Array.getD_eq_getD_getElem?]
 by_cases h:j=i
 ·subst h
  simp[hi]
 ·rw[Array.getElem?_setIfInBounds_ne (λe=>h e.symm)]
  simp[h]
theorem Run.any_ok(R:Run E self base ops sl ord T M)(hSy:SymOk σ E)(hs:SelfOk σ E.P self)(heq:∀v u,E.eqv v u=true->v=u){l:Option Nat}{Q:Exit->Act->World->Prop}
  (hQ:∀a w ρ,LRel σ ρ (T ops.size) a.tmps.toList->a.defers=ds->Post σ ρ0 (M 0) w0 ρ (M ops.size) w->(∀b,b<base->ρ0 b=none->ρ b=none)->Q .normal a w):
  ∀(fuel:Nat) (listed:Array Bool) (a:Act) (w:World) (ρ:Rho) (q:Nat) (V:Mem),listed.size=ops.size->listed.toList.count false<=fuel->Way σ base ops sl ord T M ρ0 w0 ds (Listed listed) a w ρ q V->
   wpAnyIn (Fr l) 0 E.P .any ops Q fuel listed a w:=by
 have preds_at:∀(i:Nat) (o':Oper),ops[i]? =some o'->(ops.toList.map preds).getD i []=preds o':=λi o' h=>by
  rw[gD',gM',Array.getElem?_toList,h]
  rfl
 have ready_preds:∀(listed:Array Bool) (i:Nat) (o':Oper),ops[i]? =some o'->((∀e∈o'.after,Region.binds .any e=true->listed.getD e.on false=true)↔∀p∈(ops.toList.map preds).getD i [],Listed listed p):=λlisted i o' h=>by
  rw[preds_at i o' h]
  constructor
  ·intro g p hp
   obtain⟨e,h1,rfl⟩:=List.mem_map.1 hp
   obtain⟨h2,h3⟩:=List.mem_filter.1 h1
   exact g e (by simpa using h2) h3
  ·intro g e he hb
   exact g e.on (List.mem_map.2 ⟨e,List.mem_filter.2 ⟨by simpa using he,hb⟩,rfl⟩)
 have allOf:∀(listed:Array Bool),listed.size=ops.size->Region.ready .any ops listed=[]->∀i,i<ops.size->Listed listed i:=by
  intro listed hsz hr i
  induction i using Nat.strongRecOn with
  |_ i ih=>
   intro hi
   obtain⟨o',ho'⟩:∃o',ops[i]? =some o':=⟨_,Array.getElem?_eq_getElem hi⟩
   cases hl:listed.getD i false with
   |true=>exact hl
   |false=>
    have hm:i∈Region.ready .any ops listed:=by
     refine mem_ready.2 ⟨?_,o',ho',(ready_preds listed i o' ho').2 λp hp=>?_⟩
     ·rw[Array.getD_eq_getD_getElem?,Array.getElem?_eq_getElem (by omega)] at hl⊢
      exact hl
     ·have hlt:=R.chk.pred_lt i p hp
      exact ih p hlt (by omega)
    rw[hr] at hm
    cases hm
 have ended:∀(listed:Array Bool) (a:Act) (w:World) (ρ:Rho) (q:Nat) (V:Mem),listed.size=ops.size->Region.ready .any ops listed=[]->Way σ base ops sl ord T M ρ0 w0 ds (Listed listed) a w ρ q V->Q .normal a w:=by
  intro listed a w ρ q V hsz hr W
  have hall:=allOf listed hsz hr
  have hcalm:∀k,q<=k->k<ops.size->Calm sl ord T k:=λk h1 h2=>by
   obtain⟨i,re,hi⟩:=R.at_ h2
   exact W.rest k i re h1 hi (hall i (R.lt hi))
  have hW:=R.adv_to W.spec W.qle (lR' _) hcalm
  refine hQ a w ρ ⟨?_,λx hx=>?_⟩ W.defers (W.post.congr (λb o h=>(hW.2 b o).2 (.inl h)) hW.1.symm) W.old
  ·rw[R.tlen _ (lR' _)]
   simpa using W.size.symm
  ·rw[<-getD_toList a.tmps]
   by_cases hw:∃(i:Nat) (o:SOp),sl[i]? =some o∧o.dst=some x
   ·obtain⟨i,o,h1,h2⟩:=hw
    have hil:i<ops.size:=by
     have h3:=(List.getElem?_eq_some_iff.1 h1).1
     have h4:=R.chk.len
     simp at h4
     omega
    exact W.slotD x ⟨i,o,hall i hil,h1,h2⟩
   ·rw[R.never (λi o h1 h2=>hw ⟨i,o,h1,h2⟩) (lR' _)]
    exact W.slotN x λi o h1 h2=>absurd ⟨i,o,h1,h2⟩ hw
 intro fuel
 induction fuel with
 |zero=>
  intro listed a w ρ q V hsz hc W
  have hr:Region.ready .any ops listed=[]:=by
   cases hrr:Region.ready .any ops listed with
   |nil=>rfl
   |cons i rs=>
    have hm:i∈Region.ready .any ops listed:=by rw[hrr];simp
    obtain⟨h1,o',h2,_⟩:=mem_ready.1 hm
    have hi:i<listed.size:=by rw[hsz];exact(Array.getElem?_eq_some_iff.1 h2).1
    rw[Array.getD_eq_getD_getElem?,Array.getElem?_eq_getElem hi] at h1
    have:false∈listed.toList:=by
     have h3:listed[i]=false:=h1
     rw[<-h3]
     simp
    have:=List.count_pos_iff.2 this
    omega
  exact⟨hr,ended listed a w ρ q V hsz hr W⟩
 |succ fuel ih=>
  intro listed a w ρ q V hsz hc W
  refine⟨λhr=>ended listed a w ρ q V hsz hr W,λi hm=>?_⟩
  obtain⟨h1,o',h2,h3⟩:=mem_ready.1 hm
  have hil:i<ops.size:=(Array.getElem?_eq_some_iff.1 h2).1
  have hi:i<listed.size:=by omega
  have hlist:listed[i]=false:=by rwa[Array.getD_eq_getD_getElem?,Array.getElem?_eq_getElem hi] at h1
  have hS:¬Listed listed i:=by
   unfold Listed
   rw[Array.getD_eq_getD_getElem?,Array.getElem?_eq_getElem hi,Option.getD_some,hlist]
   simp
  have hpr:=(ready_preds listed i o' h2).1 h3
  obtain⟨k,re,hk⟩:=R.chk.all i (by simpa using hil)
  obtain⟨o,ho,hstep,hre⟩:=R.tr.step k i re hk
  obtain⟨o2,ho2,hst⟩:=R.strip i o ho
  rw[h2] at ho2
  cases ho2
  have hcnt:(listed.setIfInBounds i true).toList.count false<=fuel:=by
   rw[Array.toList_setIfInBounds,List.count_set (by simpa using hi)]
   have:listed.toList[i]'(by simpa using hi)=false:=by simpa using hlist
   rw[this]
   have e1:(false==false)=true:=rfl
   have e2:(true==false)=false:=rfl
   rw[e1,e2,if_pos rfl,if_neg (by simp)]
   omega
  have hsz':(listed.setIfInBounds i true).size=ops.size:=by simpa using hsz
  have hset:=listed_set (listed:=listed) hi
  have hg:∀x b,o.guard=some (x,b)->VRel σ ρ ((T k).getD x undef) (a.tmps.getD x undef):=λx b hgd=>R.look W hk ho hS hpr (by simp[looks,hgd])
  have hwant:=wanted_rel' hst (stepOp_gOk hstep) hg
  have hr:∀x∈o.op.operands.toList,VRel σ ρ (ev x (T k)) (a.eval x):=λx hx=>by
   cases x with
   |tmp y=>exact R.look W hk ho hS hpr (by simp only[looks,List.mem_append,List.mem_filterMap];exact .inl ⟨_,hx,rfl⟩)
   |const v=>exact plain_refl (σ:=σ) ρ (hst.plain _ hx)
   |global g=>
    have hg:=W.post.rel.glob g (by simpa [plainOpd] using hst.plain _ hx)
    have:=VRel.ptr (σ:=σ) (o:=0) hg
    simpa [ev,Act.eval] using this
   |func f=>exact .func (λl=>by simp) (λn=>by simp) rfl (λi hi=>absurd hi (by simp)) rfl (λi hi=>absurd hi (by simp))
  obtain⟨v,hT,hcase⟩:=stepOp_put hstep
  unfold wpOpIn
  simp only[h2]
  rw[hwant]
  rcases hcase with⟨hw,hop⟩|⟨hw,rfl,hMM⟩
  ·simp only[hw,if_true]
   obtain⟨m1,m2,V2,q2,g1,g2,g3,_,g5,g6,g7,g8,g9⟩:=R.pick heq W hk ho hS hpr hw hop (hre hw)
   refine op_ok' rfl hSy hs hst g2 hr (W.none i hil hS) (by omega) g1 λv' w' ρ' k1 k2 k3=>?_
   rw[hst.dst]
   exact ih _ _ _ ρ' q2 V2 hsz' hcnt (R.onward W hk ho hpr hT hset k1 (g9 ρ' w' k2 k3) (λb hb hne e=>k3 b (by omega) hne e) g5 g6 g7 g8)
  ·simp only[hw,bF,if_false]
   refine⟨λ_ _=>trivial,?_⟩
   rw[hst.dst]
   have hcalm:Calm sl ord T k:=⟨i,re,o,hk,ho, .inr hw⟩
   refine ih _ _ _ ρ q V hsz' hcnt (R.onward W hk ho hpr hT hset (VRel.undef ρ) (Post.refl W.post.rel) (λ_ _ _ e=>e) W.qle W.spec (λk' i' re' j1 j2=> .inl (W.done k' i' re' j1 j2)) λk' i' re' j1 j2 j3=>?_)
   rcases j3 with j3|j3
   ·exact W.rest k' i' re' j1 j2 j3
   ·subst j3
    have:=R.chk.uniq k' k i' re' re j2 hk
    subst this
    exact hcalm
end
theorem dreg_ok{E:Env}{self:Self}(hSy:SymOk σ E)(hs:SelfOk σ E.P self)(hg:∀tk m o m',self tk m=some (o,m')->Grow m m')(heq:∀v u,E.eqv v u=true->v=u)(hmix:E.P.follows .mixedOrders=true):DregOk σ E self:=by
 intro ops sl ord n hst hord rd l lo ρ m m' w a t t' hR ht hm h
 have hchk:=chk_of hord
 simp only[stepCode] at h
 split at h
 ·rename_i t1 m1 hdr
  simp only[sI,pI,Out.exit.injEq,true_and] at h
  obtain⟨rfl,rfl⟩:=h
  obtain⟨T,M,g1,g2,g3,g4,g5⟩:=drOps_trace hdr
  obtain⟨q1,q2⟩:=stripAll_at hst
  have hlen:sl.length=ops.size:=by simpa using q1
  have R:Run E self m.next ops sl ord T M:=by
   refine⟨hchk,⟨λk i re hk=>?_⟩,λi s hi=>?_,hg,λi hi=>?_,?_⟩
   ·obtain⟨o,h1,h2,h3⟩:=g5 k i re hk
    refine⟨o,h1,h2,λhw e he=>?_⟩
    obtain⟨me,h4,v,u,h5,h6,h7⟩:=h3 hw e he
    rcases h4 with⟨k',re',j1,j2,rfl⟩|h4
    ·exact⟨k',re',j1,j2,v,u,h5,h6,h7⟩
    ·cases h4
   ·have hil:i<ops.toList.length:=by have:=(List.getElem?_eq_some_iff.1 hi).1;omega
    obtain⟨s',k1,k2⟩:=q2 i _ (gE' hil)
    rw[hi] at k1
    cases k1
    exact⟨_,by rw[<-Array.getElem?_toList];exact gE' hil,k2⟩
   ·rw[g2]
    exact hR.fresh _ (by omega)
   ·rw[g2]
    simp only[bN]
    omega
  have hn:ord.length=ops.size:=R.olen
  rw[hn] at g3 g4
  apply wpIn_region_any hmix
  obtain⟨V,hV⟩:=R.exists_W (q:=0) (by omega)
  have hp0:Post σ ρ m w ρ (M 0) w.drew:=by
   rw[g2]
   exact(Post.bump hR _).trans (Post.drew (hR.bump _))
  have hfreshV:∀b,V.next<=b->V.get b=none:=λb hb=>by
   cases hg:V.get b with
   |none=>rfl
   |some ob=>
    rw[hV.1] at hb
    rcases(hV.2 b ob).1 hg with h1|⟨k,_,h2,i,re,h3,_,h5,_⟩
    ·rw[hp0.rel.fresh b hb] at h1;cases h1
    ·have:=R.lt h3
     have:=R.next
     omega
  have hpV:Post σ ρ (M 0) w.drew ρ V w.drew:=by
   refine(Post.refl hp0.rel).more (λb o x hb hx=>?_) hV.1 hfreshV
   rcases(hV.2 b o).1 hb with h1|⟨k,_,h2,i,re,h3,_,h5,_⟩
   ·exact h1
   ·rw[hR.dom b (by omega)] at hx
    cases hx
  refine R.any_ok hSy hs heq (ρ0:=ρ) (w0:=w.drew) (ds:=a.defers) ?_ ops.size _ a _ ρ 0 V (by simp) (by simp) ?_
  ·intro a' w' ρ' k1 k2 k3 k4
   rw[g3] at k1
   rw[g4] at k3
   exact⟨rfl,rfl,ρ',k1,k2▸hm.post hR (hp0.trans k3),hp0.trans k3,k4⟩
  ·have hnone:∀i,¬Listed (Array.replicate ops.size false) i:=λi h=>by
    unfold Listed at h
    rw[Array.getD_eq_getD_getElem?] at h
    by_cases hi:i<ops.size
    ·simp[hi] at h
    ·rw[Array.getElem?_eq_none (by simp;omega)] at h
     cases h
   have hl:a.tmps.size=t.length:=by have:=ht.1;simp at this;omega
   refine⟨hV,by omega,λk i re hk=>by omega,λk i re _ _ h=>absurd h (hnone i),λi h=>absurd h (hnone i),λi _ _=>hR.dom _ (by omega),hpV,λb _ e=>e,by rw[g1];exact hl,λx h=>?_,λx _=>?_,rfl⟩
   ·obtain⟨i,o,h1,_⟩:=h
    exact absurd h1 (hnone i)
   ·rw[g1,getD_toList]
    exact ht.at_ x
 ·cases h
end
section
variable{σ:Sig}
structure Sure(σ:Sig)(E:Env):Prop where
 eqv:∀v u,E.eqv v u=true->v=u
 sym:SymOk σ E
 mixed:E.P.follows .mixedOrders=true
 prim:∀f p args m v m',E.prim f=some p->p args m=some (v,m')->CallOk σ E.P f args m v m'
 grow:∀f p args m v m',E.prim f=some p->p args m=some (v,m')->Grow m m'
theorem run_ok{E:Env}(h:Sure σ E):∀n,SelfOk3 σ E.P (run E n)
 |0=>⟨⟨⟨λ_ _ _ _ _ h=>(by cases h),λ_ _ _ _ _ h=>(by cases h),λ_ _ _ _ _ _ _ h=>(by cases h)⟩,λ_ _ _ _ _ _ _ h=>(by cases h)⟩,λ_ _ _ _ _ _ _ _ h=>(by cases h)⟩
 |n+1=>by
  have ih:=run_ok h n
  have hd:DregOk σ E (run E n):=dreg_ok h.sym ih.toSelfOk (run_grow h.grow n) h.eqv h.mixed
  have hc:∀rd c t m x t' m',run E (n+1) (.code rd c t) m=some (.exit x t',m')->CodeOk2 σ E.P rd c t m x t' m':=λrd c t m x t' m' hr=>code_ok rfl h.sym ih hd hr
  exact⟨⟨⟨λf args m v m' hr=>call_ok rfl ih.toSelfOk h.prim hr,λl args m v m' hr=>round_ok ih.toSelfOk hr,λrd c t m x t' m' hr=>(hc rd c t m x t' m' hr).one⟩,hc⟩,λrd b r t m x t' m' hr=>again_ok ih hr⟩
def Sealed(m:Mem):Prop:=∀b o,m.get b=some o->wr o=false
theorem Post.below{ρ ρ':Rho}{m m':Mem}{w w':World}(h:Post σ ρ m w ρ' m' w')(hs:Sealed m):RowKit.Below w.heap.size w w':=
 ⟨h.os,h.tape,h.output,h.size,λk hk=>h.frame k hk λb o x hb hw _=>by rw[hs b o hb] at hw;cases hw⟩
def Sig.none:Sig:={S:=λ_ _=>False,data:=λ_ _ h=>h.elim}
def m0:Mem:=⟨64, .leaf⟩
def ρ0:Rho:=λb=>if b<64 then some (b,0,0) else none
theorem m0_get(b:Nat):m0.get b=none:=rfl
theorem m0_rel(w:World):Rel σ ρ0 m0 w:=by
 refine⟨λb hb=>?_,λg hg=>by simp[ρ0,hg],λb o x hb=>(by rw[m0_get] at hb;cases hb),λb1 b2 o1 o2 x1 x2 _ hb=>(by rw[m0_get] at hb;cases hb),λb _=>rfl⟩
 have:¬b<64:=by simp[m0] at hb;omega
 simp[ρ0,this]
def vEqN:Nat->Value->Value->Bool
 |_, .bool a, .bool b=>a==b
 |_, .int k a, .int l b=>k==l&&a==b
 |_, .string a, .string b=>a==b
 |_, .float k a, .float l b=>k==l&&a==b
 |_, .complex k a b, .complex l c d=>k==l&&a==c&&b==d
 |_, .nilIface, .nilIface|_, .nilFunc, .nilFunc|_, .map none, .map none|_, .pointer none, .pointer none=>true
 |_, .pointer (some ⟨a,o,none⟩), .pointer (some ⟨b,p,none⟩)=>a==b&&o==p
 |_, .map (some a), .map (some b)=>a==b
 |_, .slice none n c, .slice none k d=>n==k&&c==d
 |_, .slice (some ⟨a,o,none⟩) n c, .slice (some ⟨b,p,none⟩) k d=>a==b&&o==p&&n==k&&c==d
 |n+1, .iface s a, .iface t b=>s==t&&vEqN n a b
 |n+1, .agg a, .agg b=>a.size==b.size&&(List.range a.size).all λi=>vEqN n (a.getD i undef) (b.getD i undef)
 |n+1, .tuple a, .tuple b=>a.size==b.size&&(List.range a.size).all λi=>vEqN n (a.getD i undef) (b.getD i undef)
 |_,_,_=>false
theorem arr_ext{a b:Array Value}(h1:a.size=b.size)(h2:∀i,i<a.size->a.getD i undef=b.getD i undef):a=b:=by
 apply Array.ext h1
 intro i hi hj
 have:=h2 i hi
 rwa[Array.getD_eq_getD_getElem?,Array.getD_eq_getD_getElem?,Array.getElem?_eq_getElem hi,Array.getElem?_eq_getElem hj] at this
theorem vEqN_eq:∀(n:Nat) (a b:Value),vEqN n a b=true->a=b:=by
 intro n
 induction n with
 |zero=>
  intro a b h
  unfold vEqN at h
  split at h<;>first
   |rfl
   |(simp at h;done)
   |(simp only[beq_iff_eq,bT] at h;simp[h];done)
   |(rw[ba_eq h];done)
   |(rename_i hn _ _;omega)
   |skip
  all_goals first
   |(obtain⟨rfl,rfl⟩:=(by simpa using h);rfl)
   |(obtain⟨⟨⟨rfl,rfl⟩,rfl⟩,rfl⟩:=(by simpa using h);rfl)
 |succ n ih=>
  intro a b h
  unfold vEqN at h
  split at h<;>first
   |rfl
   |(simp at h;done)
   |(simp only[beq_iff_eq,bT] at h;simp[h];done)
   |(rw[ba_eq h];done)
   |skip
  all_goals first
   |(rename_i hn;cases hn
     simp only[bT,beq_iff_eq] at h
     rw[h.1,ih _ _ h.2])
   |(rename_i hn;cases hn
     simp only[bT,beq_iff_eq,List.all_eq_true,List.mem_range] at h
     congr 1
     exact arr_ext h.1 λi hi=>ih _ _ (h.2 i hi))
def vEq(a b:Value):Bool:=vEqN 8 a b
theorem vEq_eq{a b:Value}(h:vEq a b=true):a=b:=vEqN_eq 8 a b h
def env(P:Program):Env:={P:=P,eqv:=vEq,prim:=λ_=>none}
theorem env_sure{P:Program}(h:P.follows .mixedOrders=true):Sure σ (env P):=
 ⟨λ_ _=>vEq_eq,λ_ _ _ h=>(by cases h),h,λ_ _ _ _ _ _ h=>(by cases h),λ_ _ _ _ _ _ h=>(by cases h)⟩
end
section
variable{P:Program}{σ σ1 σ2 σ3:Sig}{n0:Nat}
structure FPost(σ:Sig)(ρ:Rho)(m:Mem)(w:World)(ρ':Rho)(m':Mem)(w':World):Prop where
 rel:Rel σ ρ' m' w'
 size:w.heap.size<=w'.heap.size
 os:w'.os=w.os
 tape:w'.tape=w.tape
 output:w'.output=w.output
 frame:∀k,k<w.heap.size->(∀b o x,m.get b=some o->wr o=true->ρ b=some x->x.1≠k)->w'.heap[k]? =w.heap[k]?
 img:∀b o x,m'.get b=some o->ρ' b=some x->x.1<w.heap.size->∃b0 o0 x0,m.get b0=some o0∧ρ b0=some x0∧x0.1=x.1∧(wr o=true->wr o0=true)
theorem Post.fpost{ρ ρ':Rho}{m m':Mem}{w w':World}(h:Post σ ρ m w ρ' m' w'):FPost σ ρ m w ρ' m' w':=
 ⟨h.rel,h.size,h.os,h.tape,h.output,h.frame,h.img⟩
theorem FPost.trans{ρ ρ1 ρ2:Rho}{m m1 m2:Mem}{w w1 w2:World}(h:FPost σ1 ρ m w ρ1 m1 w1)(k:FPost σ2 ρ1 m1 w1 ρ2 m2 w2):FPost σ2 ρ m w ρ2 m2 w2:=
 ⟨k.rel,lT h.size k.size,k.os.trans h.os,k.tape.trans h.tape,k.output.trans h.output,
  λi hi hf=>by
   refine(k.frame i (lL hi h.size) ?_).trans (h.frame i hi hf)
   intro b o x hb hw hx hk
   obtain⟨b0,o0,x0,h1,h2,h3,h4⟩:=h.img b o x hb hx (hk▸hi)
   exact hf b0 o0 x0 h1 (h4 hw) h2 (h3.trans hk),
  λb o x hb hx hlt=>by
   obtain⟨b1,o1,x1,h1,h2,h3,h4⟩:=k.img b o x hb hx (lL hlt h.size)
   obtain⟨b0,o0,x0,g1,g2,g3,g4⟩:=h.img b1 o1 x1 h1 h2 (h3▸hlt)
   exact⟨b0,o0,x0,g1,g2,g3.trans h3,λhw=>g4 (h4 hw)⟩⟩
theorem FPost.deferred{ρ ρ':Rho}{m m':Mem}{w w':World}(hR:Rel σ1 ρ m w)(h:FPost σ2 ρ m w ρ' m' w'){r:Nat}{ds:Option (List Deferred)}(hr:w.heap[r]? =some (.deferred ds)):w'.heap[r]? =some (.deferred ds):=by
 have hlt:r<w.heap.size:=(Array.getElem?_eq_some_iff.1 hr).1
 rw[h.frame r hlt λb o x hb _ hx he=>(hR.obj b o x hb hx).not_deferred (he▸hr)]
 exact hr
theorem Marks.fpost{ρ ρ':Rho}{m m':Mem}{w w':World}{lo:Nat}{ds:List Deferred}(h:Marks lo w ds)(hR:Rel σ1 ρ m w)(hp:FPost σ2 ρ m w ρ' m' w'):Marks lo w' ds:=
 h.keep λ_ hr=>hp.deferred hR hr
def TPost(σ:Sig)(n0:Nat)(ρ:Rho)(m:Mem)(w:World)(lo:Nat)(rd l:Option Nat)(x:Exit)(t:List Value)(m':Mem)(e:Exit)(a:Act)(w':World):Prop:=
 e=x∧okX x=true∧∃ρ',LRel σ ρ' t a.tmps.toList∧Marks lo w' a.defers∧FPost σ ρ m w ρ' m' w'∧RdRel ρ' rd l∧∀b,b<n0->ρ' b=ρ b
def TOk(σ1 σ2:Sig)(P:Program)(n0:Nat)(rd:Option Nat)(c:SCode)(t:List Value)(m:Mem)(x:Exit)(t':List Value)(m':Mem):Prop:=
 ∀(k:Code) ρ w (a:Act) l lo,comp k=some c->Rel σ1 ρ m w->LRel σ1 ρ t a.tmps.toList->Marks lo w a.defers->lo<=w.heap.size->RdRel ρ rd l->
  k.wpIn (Fr l) 0 P (TPost σ2 n0 ρ m w lo rd l x t' m') a w
def TRounds(σ1 σ2:Sig)(P:Program)(n0:Nat)(rd:Option Nat)(b:SCode)(N:Nat)(t:List Value)(m:Mem)(x:Exit)(t':List Value)(m':Mem):Prop:=
 ∀(k:Code) ρ w (a:Act) l lo,comp k=some b->Rel σ1 ρ m w->LRel σ1 ρ t a.tmps.toList->Marks lo w a.defers->lo<=w.heap.size->RdRel ρ rd l->
  Code.roundsIn (Fr l) 0 P k (TPost σ2 n0 ρ m w lo rd l x t' m') N a w
theorem TPost.trans{ρ ρ1:Rho}{m m1 m':Mem}{w w1 w':World}{lo:Nat}{rd l:Option Nat}{x e:Exit}{t':List Value}{a':Act}(hp:FPost σ1 ρ m w ρ1 m1 w1)(hk:∀b,b<n0->ρ1 b=ρ b)(h:TPost σ2 n0 ρ1 m1 w1 lo rd l x t' m' e a' w'):
  TPost σ2 n0 ρ m w lo rd l x t' m' e a' w':=by
 obtain⟨h1,h2,ρ',h3,h4,h5,h6,h7⟩:=h
 exact⟨h1,h2,ρ',h3,h4,hp.trans h5,h6,λb hb=>(h7 b hb).trans (hk b hb)⟩
theorem keep_of{ρ ρ1:Rho}{n:Nat}(he:Ext ρ ρ1)(ho:Old n ρ ρ1)(b:Nat)(hb:b<n):ρ1 b=ρ b:=by
 cases h:ρ b with
 |none=>exact ho b hb h
 |some x=>exact he b x h
theorem TOk.of_code{rd:Option Nat}{c:SCode}{t t':List Value}{m m':Mem}{x:Exit}(hn:n0<=m.next)(h:CodeOk σ P rd c t m x t' m'):TOk σ σ P n0 rd c t m x t' m':=by
 intro k ρ w a l lo h1 h2 h3 h4 h5 h6
 refine wpIn_mono (h k ρ w a l lo h1 h2 h3 h4 h5 h6) ?_
 rintro e a1 w1 ⟨rfl,ho,ρ1,g1,g2,g3,g4⟩
 exact⟨rfl,ho,ρ1,g1,g2,g3.fpost,h6.mono g3.ext,λb hb=>keep_of g3.ext g4 b (lL hb hn)⟩
theorem TOk.seq{rd:Option Nat}{a b:SCode}{t t1 t2:List Value}{m m1 m2:Mem}{x:Exit}(h:TOk σ1 σ2 P n0 rd a t m .normal t1 m1)(k:TOk σ2 σ3 P n0 rd b t1 m1 x t2 m2):TOk σ1 σ3 P n0 rd (.seq a b) t m x t2 m2:=by
 intro kk ρ w ac l lo h1 h2 h3 h4 h5 h6
 obtain⟨k1,k2,rfl,hk1,hk2⟩:=comp_seq h1
 apply wpIn_seq
 refine wpIn_mono (h k1 ρ w ac l lo hk1 h2 h3 h4 h5 h6) ?_
 rintro e a1 w1 ⟨rfl,_,ρ1,g1,g2,g3,g4,g5⟩
 refine wpIn_mono (k k2 ρ1 w1 a1 l lo hk2 g3.rel g1 g2 (lT h5 g3.size) g4) ?_
 exact λe a w hc=>hc.trans g3 g5
theorem TOk.seq_out{rd:Option Nat}{a b:SCode}{t t1:List Value}{m m1:Mem}{x:Exit}(h:TOk σ1 σ2 P n0 rd a t m x t1 m1)(hx:x≠ .normal):TOk σ1 σ2 P n0 rd (.seq a b) t m x t1 m1:=by
 intro kk ρ w ac l lo h1 h2 h3 h4 h5 h6
 obtain⟨k1,k2,rfl,hk1,hk2⟩:=comp_seq h1
 apply wpIn_seq
 refine wpIn_mono (h k1 ρ w ac l lo hk1 h2 h3 h4 h5 h6) ?_
 intro e a1 w1 hc
 obtain⟨rfl,_⟩:=id hc
 cases e with
 |normal=>exact absurd rfl hx
 |_=>exact hc
theorem TOk.block{rd:Option Nat}{i:Nat}{b:SCode}{t t1:List Value}{m m1:Mem}{x:Exit}(h:TOk σ1 σ2 P n0 rd b t m x t1 m1):
  TOk σ1 σ2 P n0 rd (.block i b) t m (match x with| .exit k=>if k=i then .normal else .exit k|x=>x) t1 m1:=by
 intro kk ρ w ac l lo h1 h2 h3 h4 h5 h6
 obtain⟨kb,rfl,hkb⟩:=comp_block h1
 apply wpIn_block
 refine wpIn_mono (h kb ρ w ac l lo hkb h2 h3 h4 h5 h6) ?_
 rintro e a1 w1 ⟨rfl,ho,rest⟩
 cases e with
 |exit k=>
  simp only[Exit.inBlock]
  by_cases hj:k=i
  ·simp only[hj,if_true];exact⟨rfl,rfl,rest⟩
  ·simp only[hj,if_false];exact⟨rfl,rfl,rest⟩
 |_=>exact⟨rfl,ho,rest⟩
theorem TOk.cond{rd:Option Nat}{o:Operand}{a b:SCode}{t t1:List Value}{m m1:Mem}{x:Exit}(v:Bool)(hv:ev o t= .bool v)(h:TOk σ1 σ2 P n0 rd (if v then a else b) t m x t1 m1):TOk σ1 σ2 P n0 rd (.cond o a b) t m x t1 m1:=by
 intro kk ρ w ac l lo h1 h2 h3 h4 h5 h6
 obtain⟨k1,k2,rfl,hp,hk1,hk2⟩:=comp_cond h1
 have he:=ev_rel h2 h3 hp
 rw[hv] at he
 cases v with
 |true=>exact wpIn_cond_true he.bool_inv (h k1 ρ w ac l lo (by simpa using hk1) h2 h3 h4 h5 h6)
 |false=>exact wpIn_cond_false he.bool_inv (h k2 ρ w ac l lo (by simpa using hk2) h2 h3 h4 h5 h6)
theorem TRounds.more{rd:Option Nat}{b:SCode}{N:Nat}{t t1 t2:List Value}{m m1 m2:Mem}{x:Exit}(h:TOk σ1 σ2 P n0 rd b t m .normal t1 m1)(k:TRounds σ2 σ3 P n0 rd b N t1 m1 x t2 m2):TRounds σ1 σ3 P n0 rd b (N+1) t m x t2 m2:=by
 intro kb ρ w ac l lo h1 h2 h3 h4 h5 h6
 rw[roundsIn_succ]
 refine wpIn_mono (h kb ρ w ac l lo h1 h2 h3 h4 h5 h6) ?_
 rintro e a1 w1 ⟨rfl,_,ρ1,g1,g2,g3,g4,g5⟩
 refine roundsIn_mono ?_ N (k kb ρ1 w1 a1 l lo h1 g3.rel g1 g2 (lT h5 g3.size) g4)
 exact λe a w hc=>hc.trans g3 g5
theorem TRounds.last{rd:Option Nat}{b:SCode}{t t1:List Value}{m m1:Mem}{x:Exit}(h:TOk σ1 σ2 P n0 rd b t m x t1 m1)(hx:x≠ .normal):TRounds σ1 σ2 P n0 rd b 1 t m x t1 m1:=by
 intro kb ρ w ac l lo h1 h2 h3 h4 h5 h6
 rw[roundsIn_succ]
 refine wpIn_mono (h kb ρ w ac l lo h1 h2 h3 h4 h5 h6) ?_
 intro e a1 w1 hc
 obtain⟨rfl,_⟩:=id hc
 cases e with
 |normal=>exact absurd rfl hx
 |_=>exact hc
theorem TOk.loop{rd:Option Nat}{b:SCode}{N:Nat}{t t1:List Value}{m m1:Mem}{x:Exit}(h:TRounds σ1 σ2 P n0 rd b N t m x t1 m1):TOk σ1 σ2 P n0 rd (.loop b) t m x t1 m1:=by
 intro kk ρ w ac l lo h1 h2 h3 h4 h5 h6
 obtain⟨kb,rfl,hkb⟩:=comp_loop h1
 exact wpIn_loop_rounds N (h kb ρ w ac l lo hkb h2 h3 h4 h5 h6)
def View(σ1 σ2:Sig)(n0:Nat)(rd:Option Nat)(t1:List Value)(m1:Mem)(t2:List Value)(m2:Mem):Prop:=
 ∀ρ w (ts:List Value) l,Rel σ1 ρ m1 w->LRel σ1 ρ t1 ts->RdRel ρ rd l->∃ρ2,Rel σ2 ρ2 m2 w∧LRel σ2 ρ2 t2 ts∧RdRel ρ2 rd l∧(∀b,b<n0->ρ2 b=ρ b)∧
  ∀b o x,m2.get b=some o->ρ2 b=some x->∃b0 o0 x0,m1.get b0=some o0∧ρ b0=some x0∧x0.1=x.1∧wr o0=wr o
theorem FPost.view{ρ ρ1 ρ2:Rho}{m m1 m2:Mem}{w w1:World}(h:FPost σ1 ρ m w ρ1 m1 w1)(hR:Rel σ2 ρ2 m2 w1)(hv:∀b o x,m2.get b=some o->ρ2 b=some x->∃b0 o0 x0,m1.get b0=some o0∧ρ1 b0=some x0∧x0.1=x.1∧wr o0=wr o):
  FPost σ2 ρ m w ρ2 m2 w1:=
 ⟨hR,h.size,h.os,h.tape,h.output,h.frame,λb o x hb hx hlt=>by
  obtain⟨b0,o0,x0,g1,g2,g0,g3⟩:=hv b o x hb hx
  obtain⟨b1,o1,x1,k1,k2,k3,k4⟩:=h.img b0 o0 x0 g1 g2 (g0▸hlt)
  exact⟨b1,o1,x1,k1,k2,k3.trans g0,λhw=>k4 (g3.trans hw)⟩⟩
theorem TOk.view{rd:Option Nat}{c:SCode}{t t1 t2:List Value}{m m1 m2:Mem}{x:Exit}(h:TOk σ1 σ2 P n0 rd c t m x t1 m1)(hv:View σ2 σ3 n0 rd t1 m1 t2 m2):TOk σ1 σ3 P n0 rd c t m x t2 m2:=by
 intro k ρ w a l lo h1 h2 h3 h4 h5 h6
 refine wpIn_mono (h k ρ w a l lo h1 h2 h3 h4 h5 h6) ?_
 rintro e a1 w1 ⟨rfl,ho,ρ1,g1,g2,g3,g4,g5⟩
 obtain⟨ρ2,k1,k2,k3,k5,k4⟩:=hv ρ1 w1 _ l g3.rel g1 g4
 exact⟨rfl,ho,ρ2,k2,g2,g3.view k1 k4,k3,λb hb=>(k5 b hb).trans (g5 b hb)⟩
theorem RPost_self{ρ ρ2:Rho}{m m2:Mem}{w:World}(hR:Rel σ2 ρ2 m2 w)(hv:∀b o x,m2.get b=some o->ρ2 b=some x->∃b0 o0 x0,m.get b0=some o0∧ρ b0=some x0∧x0.1=x.1∧wr o0=wr o):FPost σ2 ρ m w ρ2 m2 w:=
 ⟨hR,lR' _,rfl,rfl,rfl,λ_ _ _=>rfl,λb o x hb hx hlt=>by
  obtain⟨b0,o0,x0,g1,g2,g0,g3⟩:=hv b o x hb hx
  exact⟨b0,o0,x0,g1,g2,g0,λhw=>g3.trans hw⟩⟩
theorem TOk.pre{rd:Option Nat}{c:SCode}{t t1 t2:List Value}{m m1 m2:Mem}{x:Exit}(hv:View σ1 σ2 n0 rd t m t1 m1)(h:TOk σ2 σ3 P n0 rd c t1 m1 x t2 m2):TOk σ1 σ3 P n0 rd c t m x t2 m2:=by
 intro k ρ w a l lo h1 h2 h3 h4 h5 h6
 obtain⟨ρ2,k1,k2,k3,k5,k4⟩:=hv ρ w _ l h2 h3 h6
 refine wpIn_mono (h k ρ2 w a l lo h1 k1 k2 h4 h5 k3) ?_
 exact λe a w hc=>hc.trans (RPost_self k1 k4) k5
theorem TRounds.pre{rd:Option Nat}{b:SCode}{N:Nat}{t t1 t2:List Value}{m m1 m2:Mem}{x:Exit}(hv:View σ1 σ2 n0 rd t m t1 m1)(h:TRounds σ2 σ3 P n0 rd b N t1 m1 x t2 m2):TRounds σ1 σ3 P n0 rd b N t m x t2 m2:=by
 intro k ρ w a l lo h1 h2 h3 h4 h5 h6
 obtain⟨ρ2,k1,k2,k3,k5,k4⟩:=hv ρ w _ l h2 h3 h6
 refine roundsIn_mono ?_ N (h k ρ2 w a l lo h1 k1 k2 h4 h5 k3)
 exact λe a w hc=>hc.trans (RPost_self k1 k4) k5
def TRet(σ:Sig)(n0:Nat)(ρ:Rho)(m:Mem)(w:World)(v:Value)(m':Mem)(e:Ending)(w':World):Prop:=
 ∃v' ρ',e= .returned v'∧VRel σ ρ' v v'∧FPost σ ρ m w ρ' m' w'∧∀b,b<n0->ρ' b=ρ b
def TCall(σ1 σ2:Sig)(P:Program)(n0:Nat)(f:FuncId)(args:List Value)(m:Mem)(v:Value)(m':Mem):Prop:=
 ∀ρ w (args':Array Value),Rel σ1 ρ m w->LRel σ1 ρ args args'.toList->CallsIn Fence.wide 0 P f args' w (TRet σ2 n0 ρ m w v m')
theorem FPost.shut{ρ ρ':Rho}{m m':Mem}{w w':World}(h:FPost σ ρ m w ρ' m' w'){r:Nat}(hr:w'.heap[r]? =some (.deferred (some [])))(hlo:w.heap.size<=r):FPost σ ρ m w ρ' m' (w'.putObj r (.deferred none)):=by
 have hfar:∀k,k≠r->(w'.putObj r (.deferred none)).heap[k]? =w'.heap[k]? :=λk hk=>World.putObj_heap_other hk
 refine⟨⟨h.rel.dom,h.rel.glob,λb o x hb hx=>?_,h.rel.inj,h.rel.fresh⟩,by simpa using h.size,h.os,h.tape,h.output,λk hk hf=>?_,h.img⟩
 ·have:=h.rel.obj b o x hb hx
  exact this.keep (Ext.refl _) (hfar _ λe=>this.not_deferred (e▸hr))
 ·rw[hfar k (by omega)]
  exact h.frame k hk hf
theorem tleaves_ok{ρ ρ':Rho}{m m':Mem}{w:World}{fn:Func}{tmps:Array Value}{t vs:List Value}(ht:LRel σ ρ' t tmps.toList)(hk:∀b,b<n0->ρ' b=ρ b)(h:resA P t m' fn.results.toList=some vs):
  ∀(ds:List Deferred) (w':World),Marks w.heap.size w' ds->FPost σ ρ m w ρ' m' w'->LeavesInM Fence.wide 0 P fn tmps (TRet σ n0 ρ m w (oneOr vs) m') ds .returning w'
 |[],w',_,hp=>by
  obtain⟨v',g1,g2⟩:=results_ok hp.rel ht h
  exact⟨v',g1,v',ρ',rfl,g2,hp,hk⟩
 |d::ds,w',hm,hp=>by
  obtain⟨⟨r,h1,h2,h3,h4⟩,h5⟩:=hm
  refine⟨by simp, .inl ⟨r,_,h1,run_takeDeferred h3,?_⟩⟩
  refine tleaves_ok ht hk h ds _ ?_ (hp.shut h3 h2)
  have:∀(l:List Deferred),(∀d'∈l,d'.target≠ .collected r)->Marks w.heap.size w' l->Marks w.heap.size (w'.putObj r (.deferred none)) l:=by
   intro l
   induction l with
   |nil=>exact λ_ _=>trivial
   |cons d' l ih=>
    rintro hne ⟨⟨r',k1,k2,k3,k4⟩,k5⟩
    have hrr:r'≠r:=λe=>hne d' (by simp) (e▸k1)
    exact⟨⟨r',k1,k2,(World.putObj_heap_other hrr).trans k3,k4⟩,ih (λd'' hd=>hne d'' (by simp[hd])) k5⟩
  exact this ds h4 h5
theorem TCall.of_code{f:FuncId}{s:SFunc}{args:List Value}{m m':Mem}{x:Exit}{t' vs:List Value}(hf:fnOf P f=some s)(hx:x= .normal∨x= .ret)
  (h:TOk σ1 σ2 P n0 none s.body (args++List.replicate (s.ntmps-args.length) undef) m x t' m') (hvs:resA P t' m' s.results=some vs):TCall σ1 σ2 P n0 f args m (oneOr vs) m':=by
 unfold fnOf at hf
 split at hf
 ·rename_i fn hfn
  split at hf
  ·rename_i c hc
   split at hf
   ·rename_i sc hsc
    simp only[sI] at hf
    subst hf
    intro ρ w args' hR hargs
    refine callsIn_of_wp_marks hfn hc trivial ?_ rfl
    have hlen:args.length=args'.size:=by simpa using hargs.1
    refine wpIn_mono (h c ρ w _ none w.heap.size hsc hR ?_ trivial (lR' _) trivial) ?_
    ·simp only[Array.toList_append,Array.toList_replicate]
     refine hargs.append ?_
     rw[hlen]
     exact LRel.replicate ρ (VRel.undef ρ) _
    ·rintro e a' w' ⟨rfl,hok,ρ',g1,g2,g3,_,g5⟩
     rcases hx with rfl|rfl
     ·exact tleaves_ok g1 g5 hvs _ _ g2 g3
     ·exact tleaves_ok g1 g5 hvs _ _ g2 g3
   ·cases hf
  ·cases hf
 ·cases hf
theorem CallOk.of_t{f:FuncId}{args:List Value}{m m':Mem}{v:Value}(h:TCall σ σ P m.next f args m v m')(hn:m.next<=m'.next):CallOk σ P f args m v m':=by
 intro ρ w args' hR ha
 refine(h ρ w args' hR ha).mono ?_
 rintro e w' ⟨v',ρ',rfl,g1,g2,g3⟩
 have he:Ext ρ ρ':=λb x hb=>by
  rcases Nat.lt_or_ge b m.next with hlt|hge
  ·rw[g3 b hlt];exact hb
  ·rw[hR.dom b hge] at hb;cases hb
 exact⟨v',ρ',rfl,g1,⟨g2.rel,he,hn,g2.size,g2.os,g2.tape,g2.output,g2.frame,g2.img⟩,λb hb e=>(g3 b hb).trans e⟩
theorem TCall.of_call{f:FuncId}{args:List Value}{m m':Mem}{v:Value}(hn:n0<=m.next)(h:CallOk σ P f args m v m'):TCall σ σ P n0 f args m v m':=by
 intro ρ w args' hR ha
 refine(h ρ w args' hR ha).mono ?_
 rintro e w' ⟨v',ρ',rfl,g1,g2,g3⟩
 exact⟨v',ρ',rfl,g1,g2.fpost,λb hb=>keep_of g2.ext g3 b (lL hb hn)⟩
theorem TOk.scope{rd:Option Nat}{b:SCode}{t t1:List Value}{m m1:Mem}{x:Exit}(h:TOk σ1 σ2 P n0 rd b t m x t1 m1)(hx:∀l,x≠ .goto l):TOk σ1 σ2 P n0 rd (.scope b) t m x t1 m1:=by
 intro kk ρ w ac l lo h1 h2 h3 h4 h5 h6
 obtain⟨kb,rfl,hkb⟩:=comp_scope h1
 refine wpIn_scope (inSc_of (h kb ρ w ac l lo hkb h2 h3 h4 h5 h6) (λe a w hc=>by obtain⟨rfl,k,_⟩:=hc;exact k) (λl rest a1 w1 hc _=>?_) λe a1 w1 hc _=>hc)
 obtain⟨e,_⟩:=hc
 exact absurd e.symm (hx l)
theorem TOk.rfn{rd:Option Nat}{f:Operand}{ps:List Tmp}{sa sb:SCode}{t t2:List Value}{m m2:Mem}{g:FuncId}{first cap:Array Value}{v:Value}{r:ALoop}{x:Exit}(hn:n0<=m.next)
  (hev:ev f t= .func (.func g) first cap) (hcall:callable P g=true) (hloop:(match rd with|none=>true|some l0=>isLoop (m.get l0))=true)
  (hc:TCall σ1 σ2 P (m.next+1) g (first.toList++ [.func (.yield m.next) #[] #[]]++cap.toList) ((m.bump 1).put m.next (.loop {state:= .ready,pend:=none,tmps:=t,ps:=ps,assign:=sa,body:=sb})) v m2)
  (hv:∀(ρ ρ':Rho) (ts:List Value),(∀b,b<m.next+1->ρ' b=ρ b)->LRel σ1 ρ t ts->LRel σ2 ρ' t2 ts)
  (hr:m2.get m.next=some (.loop r)) (hbusy:r.state≠ .busy) (hx:(match r.pend with|none=>x= .normal|some y=>pendX y=true∧x=y)):
  TOk σ1 σ2 P n0 rd (.rfn f ps sa sb) t m x t2 (m2.put m.next (.loop {r with state:= .exhausted})):=by
 intro kk ρ w a l lo hk hR ht hm hlo hrd
 obtain⟨pa,ka,kb,rfl,rfl,hf,h1,h2⟩:=comp_rfn hk
 apply wpIn_rangeFunc
 intro fn _
 obtain⟨l',mark,w1,ρ1,g1,g2,g3,g4,g5⟩:=enter_ok (P:=P) fn hR ht hm hlo hloop hrd h1 h2 (ps:=pa)
 have hfv:=(ev_rel hR ht hf).mono g4.ext
 rw[hev] at hfv
 generalize hff:a.eval f=ff at hfv
 cases hfv with
 |func hy hmm k1 k2 k3 k4=>
  rename_i fs' cp'
  refine⟨l',mark,w1,{target:= .fn (.func g) cp',args:=fs'++ #[.func (.yield l') #[] #[]]},w1,g,fs'++ #[.func (.yield l') #[] #[]]++cp',w1,g1,?_,λ_ _=>trivial,?_,λhd=>by simp[Fence.wide] at hd,?_⟩
  ·have hc0:∀v,a.eval (.const v)=v:=λ_=>rfl
   simp[resolve,hff,Deferred.ofValue,hc0]
  ·simp[invoke,callFunc_run hcall]
  ·have hargs:LRel σ1 ρ1 (first.toList++ [.func (.yield m.next) #[] #[]]++cap.toList) (fs'++ #[Value.func (.yield l') #[] #[]]++cp').toList:=by
    simp only[Array.toList_append]
    exact((lrel_of k1 k2).append (LRel.cons (.yield g2) (LRel.nil _))).append (lrel_of k3 k4)
   refine CallsIn.mono (hc ρ1 w1 _ g4.rel hargs) ?_
   rintro e w3 ⟨v',ρ3,rfl,j1,j2,j3⟩
   have hl3:ρ3 m.next=some (l',0,0):=(j3 _ (Nat.lt_succ_self _)).trans g2
   have he3:Ext ρ1 ρ3:=λb y hb=>by
    rcases Nat.lt_or_ge b (m.next+1) with hlt|hge
    ·rw[j3 b hlt];exact hb
    ·rw[g4.rel.dom b (by simpa using hge)] at hb;cases hb
   obtain⟨r',i1,i2,i3,i4,i5,i6,i7⟩:=j2.rel.obj _ _ _ hr hl3
   have hturn:FPost σ2 ρ3 m2 w3 ρ3 (m2.put m.next (.loop {r with state:= .exhausted})) (w3.putObj l' (.loop {r' with state:= .exhausted})):=
    (Post.turn (ob':= .loop {r with state:= .exhausted}) j2.rel hr hl3 rfl (putObj_turned (o':= .loop {r' with state:= .exhausted}) i1) ⟨_,(putObj_turned i1).at_,rfl,i3,i4,i5,i6,i7⟩).fpost
   have hb':r'.state≠ .busy:=by rw[i2];exact hbusy
   have hp:=(g4.fpost.trans j2).trans hturn
   have hmk:Marks lo (w3.putObj l' (.loop {r' with state:= .exhausted})) (mark++a.defers):=g5.fpost g4.rel (j2.trans hturn)
   have htt:LRel σ2 ρ3 t2 a.tmps.toList:=hv ρ1 ρ3 _ j3 (ht.mono g4.ext)
   have hkeep:∀b,b<n0->ρ3 b=ρ b:=λb hb=>(j3 b (by omega)).trans (keep_of g4.ext g3 b (by omega))
   have base:∀x0,okX x0=true->TPost σ2 n0 ρ m w lo rd l x0 t2 (m2.put m.next (.loop {r with state:= .exhausted})) x0 {a with defers:=mark++a.defers} (w3.putObj l' (.loop {r' with state:= .exhausted})):=
    λx0 hx0=>⟨rfl,hx0,ρ3,htt,hmk,hp,hrd.mono (g4.ext.trans he3),hkeep⟩
   refine⟨r'.pending,_,run_endLoop i1 hb',?_⟩
   cases hpd:r.pend with
   |none=>
    rw[hpd] at hx i3 base
    simp only at hx
    subst hx
    cases hpp:r'.pending with
    |none=>rw[hpp] at base;exact base .normal rfl
    |some c=>rw[hpp] at i3;exact i3.elim
   |some y=>
    rw[hpd] at hx i3 base
    simp only at hx
    obtain⟨hx1,rfl⟩:=hx
    cases hpp:r'.pending with
    |none=>rw[hpp] at i3;cases x<;>exact i3.elim
    |some c=>
     rw[hpp] at i3 base
     cases x with
     |ret=>cases c<;>first|(exact i3.elim)|skip
           exact wpIn_ret (base .ret rfl)
     |exit i=>cases c<;>first|(exact i3.elim)|skip
              rename_i j
              have:i=j:=i3
              subst this
              exact wpIn_exit (base (.exit _) rfl)
     |_=>cases hx1
end
section
variable{σ1 σ2:Sig}{n0:Nat}
noncomputable section
end
end
end Go.Ab
namespace Go.Ab
noncomputable section
section
def leaf(k:Nat):Value:= .func (.method "") #[.int .i64 k] #[]
def leafNo(fs:Array Value):Nat:=match fs.getD 0 undef with
 | .int _ n=>n.toNat
 |_=>0
structure Tie where
 (L sz whole:Nat)
 elems:List (Nat×Nat):=[]
 cells:List Value:=[]
def erN(ds:List Value):Nat->Value->Value
 |_, .func (.method _) fs _=>ds.getD (leafNo fs) undef
 |n+1, .iface t v=> .iface t (erN ds n v)
 |n+1, .agg cs=> .agg (cs.toList.map (erN ds n)).toArray
 |n+1, .tuple cs=> .tuple (cs.toList.map (erN ds n)).toArray
 |_,v=>v
def er(ds:List Value)(v:Value):Value:=erN ds 6 v
def plainL(len:Nat):Nat->Value->Bool
 |_, .func (.method _) fs _=>decide (leafNo fs<len)
 |_, .bool _|_, .int .. |_, .float .. |_, .complex .. |_, .string _|_, .nilFunc|_, .nilIface|_, .map none=>true
 |_, .pointer a=>a.isNone
 |_, .slice a n c=>a.isNone&&n==0&&c==0
 |n+1, .iface _ v=>plainL len n v
 |n+1, .agg cs=>cs.toList.all (plainL len n)
 |n+1, .tuple cs=>cs.toList.all (plainL len n)
 |_,_=>false
variable{ds:List Value}{ts:List Tie}{ρ:Rho}
def vSim:Nat->Value->Value->Bool
 |_, .func (.method _) fs _, .func (.method _) gs _=>leafNo fs==leafNo gs
 |_, .bool a, .bool b=>a==b
 |_, .int k a, .int l b=>k==l&&a==b
 |_, .string a, .string b=>a==b
 |_, .nilIface, .nilIface|_, .nilFunc, .nilFunc|_, .map none, .map none|_, .pointer none, .pointer none|_, .slice none 0 0, .slice none 0 0=>true
 |n+1, .iface s a, .iface t b=>s==t&&vSim n a b
 |n+1, .agg a, .agg b=>a.size==b.size&&(List.range a.size).all λi=>vSim n (a.getD i undef) (b.getD i undef)
 |n+1, .tuple a, .tuple b=>a.size==b.size&&(List.range a.size).all λi=>vSim n (a.getD i undef) (b.getD i undef)
 |_,_,_=>false
end
def PureOk(P:Program)(f:FuncId)(args:List Value)(v:Value):Prop:=
 ∀w,CallsIn Fence.wide 0 P f args.toArray w λe w'=>e= .returned v∧RowKit.Below w.heap.size w w'
inductive Fact where
 |bin (op:BinOp) (t:TypeId) (x y v:Value)
 |un (op:UnOp) (x v:Value)
 |conv (s d:TypeId) (x v:Value)
 |call (f:FuncId) (args:List Value) (v:Value)
def isCmp:BinOp->Bool
 | .eql| .neq=>true
 |_=>false
def slices(P:Program)(t:TypeId):Bool:=match P.underlying t with
 |some (.slice _)=>true
 |_=>false
def Fact.Holds(P:Program)(ds:List Value):Fact->Prop
 | .bin op t x y v=>plainL ds.length 6 v=true∧match isCmp op with
   |true=>∀xo yo w,(do eqGuard op t xo yo (er ds x) (er ds y);binOp op t (er ds x) (er ds y):Sem Value).run P w= .ok (er ds v) w
   |false=>runV P (binOp op t (er ds x) (er ds y))=some (er ds v)
 | .un op x v=>plainL ds.length 6 v=true∧runV P (Op.unary op (er ds x))=some (er ds v)
 | .conv s d x v=>plainL ds.length 6 v=true∧slices P d=false∧runV P (convert s d (er ds x))=some (er ds v)
 | .call f args v=>plainL ds.length 6 v=true∧PureOk P f (args.map (er ds)) (er ds v)
inductive TFact where
 |len (t:TypeId) (j:Nat) (v:Value)
 |idx (t:TypeId) (j:Nat) (i:Value) (b:Nat)
def lookT(len:Nat)(fs:List TFact)(o:Op)(r:Operand->Value):Option Value:=match o with
 | .indexAddr t x i=>match r x with
   | .chan (some (j+1))=>if plainL len 6 (r i) then fs.findSome? fun
     | .idx t' j' i' b=>if t==t'&&j==j'&&vSim 6 (r i) i' then some (ptr b 0) else none
     |_=>none
     else none
   |_=>none
 | .call c=>match c.callee,c.argTypes[0]?,c.args[0]? with
   | .builtin .len,some t,some x=>match r x with
     | .chan (some (j+1))=>fs.findSome? fun
       | .len t' j' v=>if t==t'&&j==j' then some v else none
       |_=>none
     |_=>none
   |_,_,_=>none
 |_=>none
def arrEq(eq:Value->Value->Bool)(a b:Array Value):Bool:=a.size==b.size&&(List.range a.size).all λi=>eq (a.getD i undef) (b.getD i undef)
def vEqL:Nat->Value->Value->Bool
 |n+1, .func (.method a) fs cs, .func (.method b) gs ds=>a==b&&arrEq (vEqL n) fs gs&&arrEq (vEqL n) cs ds
 |n+1, .iface s a, .iface t b=>s==t&&vEqL n a b
 |n+1, .agg a, .agg b=>arrEq (vEqL n) a b
 |n+1, .tuple a, .tuple b=>arrEq (vEqL n) a b
 |_,a,b=>vEq a b
theorem arrEq_eq{eq:Value->Value->Bool}(h:∀a b,eq a b=true->a=b){a b:Array Value}(H:arrEq eq a b=true):a=b:=by
 simp only[arrEq,bT,beq_iff_eq,List.all_eq_true,List.mem_range] at H
 exact arr_ext H.1 λi hi=>h _ _ (H.2 i hi)
theorem vEqL_eq:∀(n:Nat) (a b:Value),vEqL n a b=true->a=b:=by
 intro n
 induction n with
 |zero=>
  intro a b h
  unfold vEqL at h
  exact vEq_eq h
 |succ n ih=>
  intro a b h
  unfold vEqL at h
  split at h
  ·rename_i hn
   cases hn
   simp only[bT,beq_iff_eq] at h
   rw[h.1.1,arrEq_eq ih h.1.2,arrEq_eq ih h.2]
  ·rename_i hn
   cases hn
   simp only[bT,beq_iff_eq] at h
   rw[h.1,ih _ _ h.2]
  ·rename_i hn
   cases hn
   rw[arrEq_eq ih h]
  ·rename_i hn
   cases hn
   rw[arrEq_eq ih h]
  ·exact vEq_eq h
end
end Go.Ab
namespace Go.Ab
section
abbrev U(x:BitVec 32):Value:= .int .u32 (x.toNat:Int)
abbrev I(n:Int):Value:= .int .i64 n
abbrev B(b:Bool):Value:= .bool b
variable{P:Program}{ds:List Value}{t:TypeId}{x y v:Value}
theorem wrap32(a:BitVec 32):IntKind.u32.wrap (a.toNat:Int)=(a.toNat:Int):=by
 simp only[IntKind.wrap,IntKind.signed,IntKind.bits]
 have:=a.isLt
 simp
 omega
theorem ofInt32(a:BitVec 32):BitVec.ofInt 32 (a.toNat:Int)=a:=by simp
theorem bits_u32{op:BinOp}{a b r:BitVec 32}(h:binOp op t (U a) (U b)=pure (.int .u32 (IntKind.u32.wrap (r.toNat:Int)))):runV P (binOp op t (U a) (U b))=some (U r):=by
 rw[h,wrap32];rfl
theorem hold_or_u32{a b:BitVec 32}(hl:plainL ds.length 6 v=true)(hx:er ds x=U a)(hy:er ds y=U b)(hv:er ds v=U (a|||b)):Fact.Holds P ds (.bin .or t x y v):=
 ⟨hl,by
  show runV P (binOp .or t (er ds x) (er ds y))=some (er ds v)
  rw[hx,hy,hv]
  exact bits_u32 (show Op.intBits .or .u32 _ _=_ by simp only[Op.intBits];show pure (Value.int .u32 (IntKind.u32.wrap ((BitVec.ofInt 32 _|||BitVec.ofInt 32 _).toNat:Int)))=_;rw[ofInt32,ofInt32])⟩
theorem hold_and_u32{a b:BitVec 32}(hl:plainL ds.length 6 v=true)(hx:er ds x=U a)(hy:er ds y=U b)(hv:er ds v=U (a&&&b)):Fact.Holds P ds (.bin .and t x y v):=
 ⟨hl,by
  show runV P (binOp .and t (er ds x) (er ds y))=some (er ds v)
  rw[hx,hy,hv]
  exact bits_u32 (show Op.intBits .and .u32 _ _=_ by simp only[Op.intBits];show pure (Value.int .u32 (IntKind.u32.wrap ((BitVec.ofInt 32 _&&&BitVec.ofInt 32 _).toNat:Int)))=_;rw[ofInt32,ofInt32])⟩
theorem hold_andNot_u32{a b:BitVec 32}(hl:plainL ds.length 6 v=true)(hx:er ds x=U a)(hy:er ds y=U b)(hv:er ds v=U (a&&& ~~~b)):Fact.Holds P ds (.bin .andNot t x y v):=
 ⟨hl,by
  show runV P (binOp .andNot t (er ds x) (er ds y))=some (er ds v)
  rw[hx,hy,hv]
  exact bits_u32 (show Op.intBits .andNot .u32 _ _=_ by simp only[Op.intBits];show pure (Value.int .u32 (IntKind.u32.wrap ((BitVec.ofInt 32 _&&& ~~~(BitVec.ofInt 32 _)).toNat:Int)))=_;rw[ofInt32,ofInt32])⟩
theorem wrap_u32(n:Int):IntKind.u32.wrap n=n % 4294967296:=by
 simp[IntKind.wrap,IntKind.signed,IntKind.bits]
theorem hold_shr_u32{a:BitVec 32}{yk:IntKind}{b:Int}(hl:plainL ds.length 6 v=true)(hx:er ds x=U a)(hy:er ds y= .int yk b)(hv:er ds v=U (a>>>b.toNat))(hb:0<=b):Fact.Holds P ds (.bin .shr t x y v):=
 ⟨hl,by
  show runV P (binOp .shr t (er ds x) (er ds y))=some (er ds v)
  rw[hx,hy,hv]
  show runV P (Op.shift .shr .u32 _ yk _)=_
  unfold Op.shift
  rw[if_neg (by omega)]
  show some (Value.int .u32 _)=_
  congr 2
  rw[BitVec.toNat_ushiftRight,Nat.shiftRight_eq_div_pow,Int.fdiv_eq_ediv_of_nonneg _ (Int.pow_nonneg (by decide))]
  have hlt:=a.isLt
  show(a.toNat:Int)/2 ^ (min b.toNat 32)=_
  rcases Nat.le_total b.toNat 32 with h|h
  ·rw[Nat.min_eq_left h]
   norm_cast
  ·rw[Nat.min_eq_right h]
   have h1:a.toNat/2 ^ b.toNat=0:=Nat.div_eq_of_lt (lL hlt (Nat.pow_le_pow_right (by decide) h))
   rw[h1]
   omega⟩
theorem hold_shl_u32{a:BitVec 32}{yk:IntKind}{b:Int}(hl:plainL ds.length 6 v=true)(hx:er ds x=U a)(hy:er ds y= .int yk b)(hv:er ds v=U (a<<<b.toNat))(hb:0<=b):Fact.Holds P ds (.bin .shl t x y v):=
 ⟨hl,by
  show runV P (binOp .shl t (er ds x) (er ds y))=some (er ds v)
  rw[hx,hy,hv]
  show runV P (Op.shift .shl .u32 _ yk _)=_
  unfold Op.shift
  rw[if_neg (by omega)]
  show some (Value.int .u32 _)=_
  congr 2
  rw[BitVec.toNat_shiftLeft,Nat.shiftLeft_eq,wrap_u32]
  show(a.toNat:Int)*2 ^ (min b.toNat 32) % 4294967296=_
  rcases Nat.le_total b.toNat 32 with h|h
  ·rw[Nat.min_eq_left h]
   rw[Int.natCast_emod,Int.natCast_mul,Int.natCast_pow]
   rfl
  ·rw[Nat.min_eq_right h]
   have h1:a.toNat*2 ^ b.toNat % 2 ^ 32=0:=by
    obtain⟨k,hk⟩:=Nat.le.dest h
    rw[<-hk,Nat.pow_add,<-Nat.mul_assoc,Nat.mul_right_comm]
    exact Nat.mul_mod_left _ _
   rw[h1]
   omega⟩
end
end Go.Ab
namespace Go.Ab
noncomputable section
section
variable{P:Program}{σ σ':Sig}{n0:Nat}
abbrev R:=Option (Out×Mem)
end
section
variable{P:Program}{E:Env}{n0:Nat}
structure Inst where
 tk:Task
 m:Mem
 v:Value
 m':Mem
def Inst.Ok(P:Program)(c:Inst):Prop:=Grow c.m c.m'∧match c.tk with
 | .call f args=>CallOk Sig.none P f args c.m c.v c.m'
 | .round l args=>RoundOk Sig.none P l args c.m c.v c.m'
 | .code .. =>False
open Classical in
def tab:List Inst->Self
 |[],_,_=>none
 |c::L,tk,m=>if tk=c.tk∧m=c.m then some (.val c.v,c.m') else tab L tk m
def Good(P:Program)(L:List Inst):Prop:=(∀c∈L,c.Ok P)∧∀c∈L,∀d∈L,c.tk=d.tk->c.m=d.m->c.v=d.v∧c.m'=d.m'
theorem tab_mem:∀{L:List Inst} {tk:Task} {m m':Mem} {o:Out},tab L tk m=some (o,m')->∃c∈L,tk=c.tk∧m=c.m∧o= .val c.v∧m'=c.m'
 |[],_,_,_,_,h=>by cases h
 |c::L,tk,m,m',o,h=>by
  unfold tab at h
  split at h
  ·rename_i hc
   cases h
   exact⟨c,by simp,hc.1,hc.2,rfl,rfl⟩
  ·obtain⟨d,h1,h2⟩:=tab_mem h
   exact⟨d,by simp[h1],h2⟩
theorem tab_at:∀{L:List Inst},(∀c∈L,∀d∈L,c.tk=d.tk->c.m=d.m->c.v=d.v∧c.m'=d.m')->∀c∈L,tab L c.tk c.m=some (.val c.v,c.m')
 |[],_,c,h=>by cases h
 |d::L,hg,c,h=>by
  unfold tab
  by_cases e:c.tk=d.tk∧c.m=d.m
  ·rw[if_pos e]
   obtain⟨h1,h2⟩:=hg c h d (by simp) e.1 e.2
   rw[h1,h2]
  ·rw[if_neg e]
   rcases List.mem_cons.1 h with rfl|h
   ·exact absurd ⟨rfl,rfl⟩ e
   ·exact tab_at (λa ha b hb=>hg a (by simp[ha]) b (by simp[hb])) c h
theorem tab_ok{L:List Inst}(h:Good P L):SelfOk Sig.none P (tab L):=by
 refine⟨λf args m v m' hr=>?_,λl args m v m' hr=>?_,λrd c t m x t' m' hr=>?_⟩
 ·obtain⟨c,hc,h1,rfl,h3,rfl⟩:=tab_mem hr
  have:=(h.1 c hc).2
  rw[<-h1] at this
  cases h3
  exact this
 ·obtain⟨c,hc,h1,rfl,h3,rfl⟩:=tab_mem hr
  have:=(h.1 c hc).2
  rw[<-h1] at this
  cases h3
  exact this
 ·obtain⟨c,hc,h1,rfl,h3,rfl⟩:=tab_mem hr
  cases h3
theorem tab_grow{L:List Inst}(h:Good P L):∀tk m o m',tab L tk m=some (o,m')->Grow m m':=by
 intro tk m o m' hr
 obtain⟨c,hc,h1,rfl,h3,rfl⟩:=tab_mem hr
 exact(h.1 c hc).1
def runX(E:Env)(self:Self)(base:Nat):List (Nat×SOp)->List Value->Mem->Option (List Value×Mem)
 |[],t,m=>some (t,m)
 |(i,o)::rest,t,m=>match stepOp E self (base+i) o t m with
  |some (t',m')=>runX E self base rest t' m'
  |none=>none
def reqA(P:Program)(o:SOp)(r:Operand->Value)(m:Mem):Option (Task×Mem):=match cls o.op with
 | .eff=>match effA P 0 o r m with
   |some (.call f args,m1)=>some (.call f args,m1)
   |some (.round l args,m1)=>some (.round l args,m1)
   |_=>none
 |_=>none
abbrev noSelf:Self:=λ_ _=>none
def StepX(E:Env)(L:List Inst)(id:Nat)(o:SOp)(t:List Value)(m:Mem)(K:List Inst->Value->Mem->Prop):Prop:=
 (∃v m',opA E noSelf id o t m=some (v,m')∧K L v m')∨
 (∃tk m1 v m2,reqA E.P o (ev · t) m=some (tk,m1)∧(⟨tk,m1,v,m2⟩:Inst).Ok E.P∧(∀c∈L,c.tk=tk->c.m=m1->c.v=v∧c.m'=m2)∧K (⟨tk,m1,v,m2⟩::L) v m2)
def XW(E:Env)(base:Nat):List (Nat×SOp)->List Inst->List Value->Mem->(List Inst->List Value->Mem->Prop)->Prop
 |[],L,t,m,Q=>Q L t m
 |(i,o)::rest,L,t,m,Q=>gOk o.guard t=true∧
  ((wanted o.guard t=true∧StepX E L (base+i) o t m λL' v m'=>XW E base rest L' (putT o.dst v t) m' Q)∨(wanted o.guard t=false∧XW E base rest L (putT o.dst undef t) m Q))
theorem opA_self{self:Self}{id:Nat}{o:SOp}{t:List Value}{m:Mem}{r:Value×Mem}(h:opA E noSelf id o t m=some r):opA E self id o t m=some r:=by
 unfold opA at h⊢
 split at h
 ·exact h
 ·exact h
 ·exact h
 ·split at h
  ·exact h
  ·cases h
  ·cases h
  ·cases h
theorem effA_id{id:Nat}{o:SOp}{r:Operand->Value}{m m1:Mem}{q:Req}(hq:∀v,q≠ .val v)(h:effA P 0 o r m=some (q,m1)):effA P id o r m=some (q,m1):=by
 unfold effA at h⊢
 split at h<;>first|exact h|skip
 split at h<;>first|exact h|skip
 split at h<;>first|exact h|skip
 rename_i s x _ _
 cases hap:appendA P 0 _ (r s) (r x) m with
 |none=>rw[hap] at h;cases h
 |some q'=>rw[hap] at h;cases h;exact absurd rfl (hq _)
theorem opA_req{L:List Inst}{id:Nat}{o:SOp}{t:List Value}{m m1:Mem}{tk:Task}{v:Value}{m2:Mem}(h:reqA E.P o (ev · t) m=some (tk,m1))(hl:tab L tk m1=some (.val v,m2)):opA E (tab L) id o t m=some (v,m2):=by
 unfold reqA at h
 split at h
 ·rename_i hc
  unfold opA
  rw[hc]
  simp only
  split at h
  ·rename_i f args m1' he
   cases h
   rw[effA_id (id:=id) (λv=>by simp) he]
   simp only[hl]
  ·rename_i l args m1' he
   cases h
   rw[effA_id (id:=id) (λv=>by simp) he]
   simp only[hl]
  ·cases h
 ·cases h
theorem Good.cons{L:List Inst}{c:Inst}(h:Good P L)(hc:c.Ok P)(hk:∀d∈L,d.tk=c.tk->d.m=c.m->d.v=c.v∧d.m'=c.m'):Good P (c::L):=by
 refine⟨λd hd=>?_,λa ha b hb e1 e2=>?_⟩
 ·rcases List.mem_cons.1 hd with rfl|hd
  ·exact hc
  ·exact h.1 d hd
 ·rcases List.mem_cons.1 ha with ia|ia<;>rcases List.mem_cons.1 hb with ib|ib
  ·subst ia;subst ib;exact⟨rfl,rfl⟩
  ·subst ia
   obtain⟨h1,h2⟩:=hk b ib e1.symm e2.symm
   exact⟨h1.symm,h2.symm⟩
  ·subst ib;exact hk a ia e1 e2
  ·exact h.2 a ia b ib e1 e2
theorem XW.run{base:Nat}{Q:List Inst->List Value->Mem->Prop}:∀{xs:List (Nat×SOp)} {L:List Inst} {t:List Value} {m:Mem},Good E.P L->XW E base xs L t m Q->
  ∃L' t' m',(∀c∈L,c∈L')∧Good E.P L'∧runX E (tab L') base xs t m=some (t',m')∧Q L' t' m'
 |[],L,t,m,hL,h=>⟨L,t,m,λ_ h=>h,hL,rfl,h⟩
 |(i,o)::rest,L,t,m,hL,h=>by
  obtain⟨hg,⟨hw,hs⟩|⟨hw,hs⟩⟩:=h
  ·rcases hs with⟨v,m',ho,hk⟩|⟨tk,m1,v,m2,hr,hok,hc,hk⟩
   ·obtain⟨L',t',m'',h1,h2,h3,h4⟩:=XW.run hL hk
    refine⟨L',t',m'',h1,h2,?_,h4⟩
    unfold runX stepOp
    rw[if_neg (by simp[hg]),if_pos hw,opA_self ho]
    exact h3
   ·obtain⟨L',t',m'',h1,h2,h3,h4⟩:=XW.run (hL.cons hok hc) hk
    refine⟨L',t',m'',λc hc=>h1 c (by simp[hc]),h2,?_,h4⟩
    unfold runX stepOp
    rw[if_neg (by simp[hg]),if_pos hw,opA_req hr (tab_at h2.2 ⟨tk,m1,v,m2⟩ (h1 _ (List.mem_cons_self)))]
    exact h3
  ·obtain⟨L',t',m'',h1,h2,h3,h4⟩:=XW.run hL hs
   refine⟨L',t',m'',h1,h2,?_,h4⟩
   unfold runX stepOp
   rw[if_neg (by simp[hg]),if_neg (by simp[hw])]
   exact h3
def enumF:Nat->List SOp->List (Nat×SOp)
 |_,[]=> []
 |i,o::l=>(i,o)::enumF (i+1) l
theorem seq_runX{self:Self}:∀{ops:List SOp} {base i:Nat} {t:List Value} {m:Mem},seqOps E self (base+i) ops t m=runX E self base (enumF i ops) t m
 |[],_,_,_,_=>rfl
 |o::l,base,i,t,m=>by
  unfold seqOps enumF runX
  cases stepOp E self (base+i) o t m with
  |none=>rfl
  |some q=>exact seq_runX (i:=i+1)
def pickX(ops:List SOp):List (Nat×List Nat)->Option (List (Nat×SOp))
 |[]=>some []
 |(i,re)::l=>match ops[i]?,pickX ops l with
  |some o,some xs=>if re.isEmpty then some ((i,o)::xs) else none
  |_,_=>none
theorem dr_runX{self:Self}{base:Nat}{ops:List SOp}:∀{ord:List (Nat×List Nat)} {xs:List (Nat×SOp)} {hist:List (Nat×Mem)} {t:List Value} {m:Mem},pickX ops ord=some xs->drOps E self base ops ord hist t m=runX E self base xs t m
 |[],xs,hist,t,m,h=>by cases h;rfl
 |(i,re)::l,xs,hist,t,m,h=>by
  unfold pickX at h
  split at h
  ·rename_i o xs' ho hx
   split at h
   ·rename_i he
    cases h
    have he:re=[]:=by simpa using he
    subst he
    unfold drOps runX
    simp only[ho]
    rw[if_pos (.inr rfl)]
    cases stepOp E self (base+i) o t m with
    |none=>rfl
    |some q=>exact dr_runX hx
   ·cases h
  ·cases h
def lookK:List (Nat×Option Mem)->Nat->Option Mem
 |[],_=>none
 |(i,x)::l,k=>if i=k then x else lookK l k
def reP(E:Env)(o:SOp)(t:List Value)(m:Mem)(h:List (Nat×Option Mem)):List Nat->Prop
 |[]=>True
 |e::l=>(∃v,readE E o (ev · t) m=some v∧∃me,lookK h e=some me∧∃u,readE E o (ev · t) me=some u∧E.eqv v u=true)∧reP E o t m h l
def ReW(E:Env)(o:SOp)(t:List Value)(m:Mem)(h:List (Nat×Option Mem)):List Nat->Prop
 |[]=>True
 |e::l=>gOk o.guard t=true∧(wanted o.guard t=true->reP E o t m h (e::l))
def keepM:Bool->Mem->Option Mem
 |true,m=>some m
 |false,_=>none
def YW(E:Env)(base:Nat):List (Nat×SOp×List Nat×Bool)->List (Nat×Option Mem)->List Inst->List Value->Mem->(List Inst->List Value->Mem->Prop)->Prop
 |[],_,L,t,m,Q=>Q L t m
 |(i,o,re,keep)::rest,h,L,t,m,Q=>ReW E o t m h re∧XW E base [(i,o)] L t m λL' t' m'=>YW E base rest ((i,keepM keep m)::h) L' t' m' Q
def drY(E:Env)(self:Self)(base:Nat):List (Nat×SOp×List Nat×Bool)->List (Nat×Mem)->List Value->Mem->Option (List Value×Mem)
 |[],_,t,m=>some (t,m)
 |(i,o,re,_)::rest,H,t,m=>if wanted o.guard t=false∨reOk E o t m H re=true then match stepOp E self (base+i) o t m with
  |some (t',m')=>drY E self base rest ((i,m)::H) t' m'
  |none=>none
  else none
def HistOk:List (Nat×Option Mem)->List (Nat×Mem)->Prop
 |[],[]=>True
 |(i,x)::h,(j,m)::H=>i=j∧(x=none∨x=some m)∧HistOk h H
 |_,_=>False
theorem HistOk.look:∀{h:List (Nat×Option Mem)} {H:List (Nat×Mem)} {k:Nat} {m:Mem},HistOk h H->lookK h k=some m->lookH H k=some m
 |[],[],_,_,_,h=>by cases h
 |[],_::_,_,_,hh,_=>hh.elim
 |_::_,[],_,_,hh,_=>by unfold HistOk at hh;exact hh.elim
 |(i,x)::h,(j,y)::H,k,m,hh,hk=>by
  obtain⟨rfl,h2,h3⟩:=hh
  unfold lookK at hk
  unfold lookH
  split at hk
  ·rw[if_pos (by assumption)]
   rcases h2 with rfl|rfl
   ·cases hk
   ·exact hk
  ·rw[if_neg (by assumption)]
   exact h3.look hk
theorem reP.ok{o:SOp}{t:List Value}{m:Mem}{h:List (Nat×Option Mem)}{H:List (Nat×Mem)}(hh:HistOk h H):∀{re:List Nat},reP E o t m h re->reOk E o t m H re=true
 |[],_=>rfl
 |e::l,hr=>by
  obtain⟨⟨v,h1,me,h2,u,h3,h4⟩,h5⟩:=hr
  have:=reP.ok hh h5
  unfold reOk at this⊢
  rw[List.all_cons,this,Bool.and_true]
  simp only[hh.look h2,h1,h3,h4]
theorem ReW.ok{o:SOp}{t:List Value}{m:Mem}{h:List (Nat×Option Mem)}{H:List (Nat×Mem)}(hh:HistOk h H){re:List Nat}(hr:ReW E o t m h re):wanted o.guard t=false∨reOk E o t m H re=true:=by
 cases re with
 |nil=>exact .inr rfl
 |cons e l=>
  cases hw:wanted o.guard t with
  |false=>exact .inl rfl
  |true=>exact .inr (reP.ok hh (hr.2 hw))
theorem keep_ok(k:Bool)(m:Mem):keepM k m=none∨keepM k m=some m:=by cases k<;>simp[keepM]
theorem HistOk.cons{i:Nat}{k:Bool}{m:Mem}{h:List (Nat×Option Mem)}{H:List (Nat×Mem)}(hh:HistOk h H):HistOk ((i,keepM k m)::h) ((i,m)::H):=by
 unfold HistOk
 exact⟨rfl,keep_ok k m,hh⟩
theorem YW.run{base:Nat}{Q:List Inst->List Value->Mem->Prop}:∀{ys:List (Nat×SOp×List Nat×Bool)} {h:List (Nat×Option Mem)} {H:List (Nat×Mem)} {L:List Inst} {t:List Value} {m:Mem},Good E.P L->HistOk h H->YW E base ys h L t m Q->
  ∃L' t' m',(∀c∈L,c∈L')∧Good E.P L'∧drY E (tab L') base ys H t m=some (t',m')∧Q L' t' m'
 |[],h,H,L,t,m,hL,_,hh=>⟨L,t,m,λ_ h=>h,hL,rfl,hh⟩
 |(i,o,re,k)::rest,h,H,L,t,m,hL,hH,hh=>by
  obtain⟨hre,hg,⟨hw,hs⟩|⟨hw,hs⟩⟩:=hh
  ·rcases hs with⟨v,m',ho,hk⟩|⟨tk,m1,v,m2,hr,hok,hc,hk⟩
   ·obtain⟨L',t',m'',h1,h2,h3,h4⟩:=YW.run (H:=(i,m)::H) hL hH.cons hk
    refine⟨L',t',m'',h1,h2,?_,h4⟩
    unfold drY stepOp
    rw[if_pos (hre.ok hH),if_neg (by simp[hg]),if_pos hw,opA_self ho]
    exact h3
   ·obtain⟨L',t',m'',h1,h2,h3,h4⟩:=YW.run (H:=(i,m)::H) (hL.cons hok hc) hH.cons hk
    refine⟨L',t',m'',λc hc=>h1 c (by simp[hc]),h2,?_,h4⟩
    unfold drY stepOp
    rw[if_pos (hre.ok hH),if_neg (by simp[hg]),if_pos hw,opA_req hr (tab_at h2.2 ⟨tk,m1,v,m2⟩ (h1 _ (List.mem_cons_self)))]
    exact h3
  ·obtain⟨L',t',m'',h1,h2,h3,h4⟩:=YW.run (H:=(i,m)::H) hL hH.cons hs
   refine⟨L',t',m'',h1,h2,?_,h4⟩
   unfold drY stepOp
   rw[if_pos (hre.ok hH),if_neg (by simp[hg]),if_neg (by simp[hw])]
   exact h3
def pickY(ops:List SOp):List (Nat×List Nat)->Option (List (Nat×SOp×List Nat×Bool))
 |[]=>some []
 |(i,re)::l=>match ops[i]?,pickY ops l with
  |some o,some ys=>some ((i,o,re,l.any λp=>p.2.contains i)::ys)
  |_,_=>none
theorem dr_runY{self:Self}{base:Nat}{ops:List SOp}:∀{ord:List (Nat×List Nat)} {ys:List (Nat×SOp×List Nat×Bool)} {hist:List (Nat×Mem)} {t:List Value} {m:Mem},pickY ops ord=some ys->drOps E self base ops ord hist t m=drY E self base ys hist t m
 |[],ys,hist,t,m,h=>by cases h;rfl
 |(i,re)::l,ys,hist,t,m,h=>by
  unfold pickY at h
  split at h
  ·rename_i o ys' ho hx
   cases h
   unfold drOps drY
   simp only[ho]
   split
   ·cases stepOp E self (base+i) o t m with
    |none=>rfl
    |some q=>exact dr_runY hx
   ·rfl
  ·cases h
def bump(m:Mem)(n:Nat):Mem:=m.bump n
def LW(n0:Nat)(rd:Option Nat)(B:List Value->Mem->(Exit->List Value->Mem->Prop)->Prop):Nat->List Value->Mem->(Exit->List Value->Mem->Prop)->Prop
 |0,_,_,_=>False
 |N+1,t,m,Q=>∃t1 m1,View Sig.none Sig.none n0 rd t m t1 m1∧B t1 m1 λx t' m'=>match x with
  | .normal=>LW n0 rd B N t' m' Q
  |x=>∃t2 m2,View Sig.none Sig.none n0 rd t' m' t2 m2∧Q x t2 m2
def WX(E:Env)(n0:Nat)(rd:Option Nat):SCode->List Value->Mem->(Exit->List Value->Mem->Prop)->Prop
 | .skip,t,m,Q=>Q .normal t m
 | .exit i,t,m,Q=>Q (.exit i) t m
 | .ret,t,m,Q=>Q .ret t m
 | .seq a b,t,m,Q=>WX E n0 rd a t m λx t' m'=>match x with
   | .normal=>WX E n0 rd b t' m' Q
   |x=>Q x t' m'
 | .cond c a b,t,m,Q=>match ev c t with
   | .bool v=>(v=true->WX E n0 rd a t m Q)∧(v=false->WX E n0 rd b t m Q)
   |_=>False
 | .block i b,t,m,Q=>WX E n0 rd b t m λx t' m'=>Q (match x with| .exit k=>if k=i then .normal else .exit k|x=>x) t' m'
 | .loop b,t,m,Q=>∃N,LW n0 rd (WX E n0 rd b) N t m Q
 | .reg ops,t,m,Q=>n0<=m.next∧XW E m.next (enumF 0 ops) [] t (m.bump ops.length) λ_=>Q .normal
 | .dreg ops ord,t,m,Q=>n0<=m.next∧match pickX ops ord with
   |some xs=>XW E m.next xs [] t (m.bump ops.length) λ_=>Q .normal
   |none=>match pickY ops ord with
    |some ys=>YW E m.next ys [] [] t (m.bump ops.length) λ_=>Q .normal
    |none=>False
 | .scope b,t,m,Q=>WX E n0 rd b t m λx t' m'=>(∀l,x≠ .goto l)∧Q x t' m'
 | .label _,t,m,Q=>Q .normal t m
 | .rfn f ps sa sb,t,m,Q=>∃x t' m',TOk Sig.none Sig.none E.P n0 rd (.rfn f ps sa sb) t m x t' m'∧Q x t' m'
 |_,_,_,_=>False
structure EnvOk(E:Env):Prop where
 eqv:∀v u,E.eqv v u=true->v=u
 sym:SymOk Sig.none E
 mixed:E.P.follows .mixedOrders=true
theorem TRounds_of{b:SCode}{rd:Option Nat}{Q:Exit->List Value->Mem->Prop}(hB:∀{t:List Value} {m:Mem} {Q:Exit->List Value->Mem->Prop},WX E n0 rd b t m Q->∃x t' m',TOk Sig.none Sig.none E.P n0 rd b t m x t' m'∧Q x t' m'):
  ∀{N:Nat} {t:List Value} {m:Mem},LW n0 rd (WX E n0 rd b) N t m Q->∃K x t' m',TRounds Sig.none Sig.none E.P n0 rd b K t m x t' m'∧Q x t' m'
 |0,_,_,h=>h.elim
 |N+1,t,m,h=>by
  obtain⟨t1,m1,hv,hb⟩:=h
  obtain⟨x,t2,m2,h1,h2⟩:=hB hb
  by_cases hx:x= .normal
  ·subst hx
   obtain⟨K,x,t3,m3,h3,h4⟩:=TRounds_of hB h2
   exact⟨K+1,x,t3,m3,TRounds.pre hv (TRounds.more h1 h3),h4⟩
  ·have h2:∃t3 m3,View Sig.none Sig.none n0 rd t2 m2 t3 m3∧Q x t3 m3:=by
    cases x<;>first|exact absurd rfl hx|exact h2
   obtain⟨t3,m3,h3,h4⟩:=h2
   exact⟨1,x,t3,m3,TRounds.pre hv (TRounds.last (TOk.view h1 h3) hx),h4⟩
theorem WX.ok(hE:EnvOk E){rd:Option Nat}:∀{c:SCode} {t:List Value} {m:Mem} {Q:Exit->List Value->Mem->Prop},WX E n0 rd c t m Q->∃x t' m',TOk Sig.none Sig.none E.P n0 rd c t m x t' m'∧Q x t' m':=by
 intro c
 induction c with
 |skip=>
  intro t m Q h
  refine⟨.normal,t,m,?_,h⟩
  intro k ρ w a l lo h1 h2 h3 h4 h5 h6
  rw[comp_skip h1]
  exact wpIn_skip ⟨rfl,rfl,ρ,h3,h4,(Post.refl h2).fpost,h6,λ_ _=>rfl⟩
 |exit i=>
  intro t m Q h
  refine⟨.exit i,t,m,?_,h⟩
  intro k ρ w a l lo h1 h2 h3 h4 h5 h6
  rw[comp_exit h1]
  exact wpIn_exit ⟨rfl,rfl,ρ,h3,h4,(Post.refl h2).fpost,h6,λ_ _=>rfl⟩
 |ret=>
  intro t m Q h
  refine⟨.ret,t,m,?_,h⟩
  intro k ρ w a l lo h1 h2 h3 h4 h5 h6
  rw[comp_ret h1]
  exact wpIn_ret ⟨rfl,rfl,ρ,h3,h4,(Post.refl h2).fpost,h6,λ_ _=>rfl⟩
 |seq a b iha ihb=>
  intro t m Q h
  obtain⟨x,t1,m1,h1,h2⟩:=iha h
  by_cases hx:x= .normal
  ·subst hx
   obtain⟨x,t2,m2,h3,h4⟩:=ihb h2
   exact⟨x,t2,m2,TOk.seq h1 h3,h4⟩
  ·refine⟨x,t1,m1,TOk.seq_out h1 hx,?_⟩
   cases x<;>first|exact absurd rfl hx|exact h2
 |cond c a b iha ihb=>
  intro t m Q h
  simp only[WX] at h
  split at h
  ·rename_i v hv
   cases v with
   |true=>
    obtain⟨x,t1,m1,h1,h2⟩:=iha (h.1 rfl)
    exact⟨x,t1,m1,TOk.cond true hv h1,h2⟩
   |false=>
    obtain⟨x,t1,m1,h1,h2⟩:=ihb (h.2 rfl)
    exact⟨x,t1,m1,TOk.cond false hv h1,h2⟩
  ·exact h.elim
 |block i b ih=>
  intro t m Q h
  obtain⟨x,t1,m1,h1,h2⟩:=ih h
  refine⟨_,t1,m1,TOk.block h1,?_⟩
  cases x<;>exact h2
 |loop b ih=>
  intro t m Q h
  obtain⟨N,h⟩:=h
  obtain⟨K,x,t1,m1,h1,h2⟩:=TRounds_of (λh=>ih h) h
  exact⟨x,t1,m1,TOk.loop h1,h2⟩
 |reg ops=>
  intro t m Q h
  obtain⟨hn,h⟩:=h
  obtain⟨L,t',m',_,h2,h3,h4⟩:=XW.run ⟨by simp,by simp⟩ h
  refine⟨.normal,t',m',TOk.of_code hn ?_,h4⟩
  intro k ρ w a l lo k1 k2 k3 k4 k5 k6
  obtain⟨n,ops',rfl,hst⟩:=comp_reg k1
  refine reg_ok rfl hE.sym (tab_ok h2) hst k2 k3 k4 ?_ (rd:=rd)
  have:=seq_runX (E:=E) (self:=tab L) (ops:=ops) (base:=m.next) (i:=0) (t:=t) (m:=m.bump ops.length)
  rw[h3] at this
  simp only[stepCode]
  rw[show m.next=m.next+0 from rfl,this]
 |dreg ops ord=>
  intro t m Q h
  obtain⟨hn,h⟩:=h
  split at h
  ·rename_i xs hx
   obtain⟨L,t',m',_,h2,h3,h4⟩:=XW.run ⟨by simp,by simp⟩ h
   refine⟨.normal,t',m',TOk.of_code hn ?_,h4⟩
   intro k ρ w a l lo k1 k2 k3 k4 k5 k6
   obtain⟨n,ops',rfl,hst,ho⟩:=comp_dreg k1
   refine dreg_ok (E:=E) (self:=tab L) hE.sym (tab_ok h2) (tab_grow h2) hE.eqv hE.mixed hst ho k2 k3 k4 ?_ (rd:=rd)
   simp only[stepCode]
   rw[dr_runX hx,h3]
  ·split at h
   ·rename_i ys hx
    obtain⟨L',t',m',_,h2,h3,h4⟩:=YW.run (H:=[]) ⟨by simp,by simp⟩ (by unfold HistOk;trivial) h
    refine⟨.normal,t',m',TOk.of_code hn ?_,h4⟩
    intro k ρ w a l lo k1 k2 k3 k4 k5 k6
    obtain⟨n,ops',rfl,hst,ho⟩:=comp_dreg k1
    refine dreg_ok (E:=E) (self:=tab L') hE.sym (tab_ok h2) (tab_grow h2) hE.eqv hE.mixed hst ho k2 k3 k4 ?_ (rd:=rd)
    simp only[stepCode]
    rw[dr_runY hx,h3]
   ·exact h.elim
 |scope b ih=>
  intro t m Q h
  obtain⟨x,t1,m1,h1,h2,h3⟩:=ih h
  exact⟨x,t1,m1,TOk.scope h1 h2,h3⟩
 |label i=>
  intro t m Q h
  refine⟨.normal,t,m,?_,h⟩
  intro k ρ w a l lo h1 h2 h3 h4 h5 h6
  obtain rfl:=comp_label h1
  exact wpIn_label ⟨rfl,rfl,ρ,h3,h4,(Post.refl h2).fpost,h6,λ_ _=>rfl⟩
 |goto=>intro t m Q h;exact h.elim
 |again=>intro t m Q h;exact h.elim
 |rfn f ps sa sb=>intro t m Q h;exact h
end
end
end Go.Ab
