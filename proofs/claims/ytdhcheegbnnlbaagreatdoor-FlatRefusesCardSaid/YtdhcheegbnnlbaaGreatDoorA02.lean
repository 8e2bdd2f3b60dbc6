/- Part. -/
import Derived.Test.YtdhcheegbnnlbaaGreatDoorA01
import Derived.LaidEqlPtr
set_option linter.all false
open Go.Ab.Mem renaming get_put → gP
open List renaming getD_eq_getElem?_getD → gD', getElem?_map → gM'
open Option.some renaming injEq → sI
open Prod.mk renaming injEq → pI
open Nat renaming lt_of_lt_of_le → lL, le_refl → lR', le_trans → lT
open Option renaming map_eq_some_iff → mE
open Bool renaming and_eq_true → bT
namespace Go.Ab
section
variable{P:Program}
def GrowBut(id:Nat)(m m':Mem):Prop:=m.next<=m'.next∧∀b,b<m.next->b≠id->m.get b=none->m'.get b=none
def GrowLo(lo:Nat)(m m':Mem):Prop:=m.next<=m'.next∧∀b,b<m.next->b<lo->m.get b=none->m'.get b=none
def Grow(m m':Mem):Prop:=m.next<=m'.next∧∀b,b<m.next->m.get b=none->m'.get b=none
theorem Grow.refl(m:Mem):Grow m m:=⟨lR' _,λ_ _ h=>h⟩
theorem Grow.trans{a b c:Mem}(h:Grow a b)(k:Grow b c):Grow a c:=⟨lT h.1 k.1,λx hx e=>k.2 x (lL hx h.1) (h.2 x hx e)⟩
theorem Grow.but{m m':Mem}(h:Grow m m')(id:Nat):GrowBut id m m':=⟨h.1,λb hb _ e=>h.2 b hb e⟩
theorem GrowBut.lo{id lo:Nat}{m m':Mem}(h:GrowBut id m m')(hl:lo<=id):GrowLo lo m m':=⟨h.1,λb hb hlo e=>h.2 b hb (by omega) e⟩
theorem GrowLo.refl(lo:Nat)(m:Mem):GrowLo lo m m:=⟨lR' _,λ_ _ _ h=>h⟩
theorem GrowLo.trans{lo:Nat}{a b c:Mem}(h:GrowLo lo a b)(k:GrowLo lo b c):GrowLo lo a c:=⟨lT h.1 k.1,λx hx hlo e=>k.2 x (lL hx h.1) hlo (h.2 x hx hlo e)⟩
theorem GrowLo.bumped{m m':Mem}{n:Nat}(h:GrowLo m.next (m.bump n) m'):Grow m m':=⟨by have:=h.1;simp at this;omega,λb hb e=>h.2 b (by simp;omega) hb e⟩
theorem Grow.put{m:Mem}{b:Nat}{o o':AObj}(h:m.get b=some o):Grow m (m.put b o'):=⟨lR' _,λc _ e=>by
 rw[gP]
 split
 ·rename_i hc
  rw[hc,h] at e
  cases e
 ·exact e⟩
theorem GrowBut.put(m:Mem)(id:Nat)(o:AObj):GrowBut id m (m.put id o):=⟨lR' _,λc _ hc e=>by
 rw[gP,if_neg hc]
 exact e⟩
theorem Grow.kill(m:Mem)(b:Nat):Grow m (m.kill b):=⟨lR' _,λc _ e=>by
 rw[Mem.get_kill]
 split
 ·rfl
 ·exact e⟩
theorem Grow.then{m m1 m':Mem}{id:Nat}(h:Grow m m1)(k:GrowBut id m1 m'):GrowBut id m m':=⟨lT h.1 k.1,λc hc hi e=>k.2 c (lL hc h.1) hi (h.2 c hc e)⟩
theorem storeA_grow{t:TypeId}{a v:Value}{m m':Mem}(h:storeA P t a v m=some m'):Grow m m':=by
 unfold storeA at h
 repeat' split at h
 all_goals first
  |(cases h;done)
  |(cases h;apply Grow.put;assumption)
theorem mapSetA_grow{t:TypeId}{mp k v:Value}{m m':Mem}(h:mapSetA P t mp k v m=some m'):Grow m m':=by
 unfold mapSetA at h
 repeat' split at h
 all_goals first
  |(cases h;done)
  |(simp only[mE] at h;obtain⟨_,_,rfl⟩:=h;apply Grow.put;assumption)
theorem deleteA_grow{at_:Array TypeId}{mp k:Value}{m m':Mem}(h:deleteA P at_ mp k m=some m'):Grow m m':=by
 unfold deleteA at h
 repeat' split at h
 all_goals first
  |(cases h;done)
  |(simp only[mE] at h;obtain⟨_,_,rfl⟩:=h;first|exact Grow.refl _|(apply Grow.put;assumption))
theorem clearA_grow{at_:Array TypeId}{x:Value}{m m':Mem}(h:clearA P at_ x m=some m'):Grow m m':=by
 unfold clearA at h
 repeat' split at h
 all_goals first
  |(cases h;done)
  |(simp only[sI] at h;subst h;first|exact Grow.refl _|(apply Grow.put;assumption))
theorem copyA_grow{at_:Array TypeId}{d x v:Value}{m m':Mem}(h:copyA P at_ d x m=some (v,m')):Grow m m':=by
 unfold copyA at h
 simp only at h
 repeat' split at h
 all_goals first
  |(cases h;done)
  |(simp only[sI,pI] at h;obtain⟨_,rfl⟩:=h;first|exact Grow.refl _|(apply Grow.put;assumption))
theorem appendA_grow{id:Nat}{at_:Array TypeId}{s x v:Value}{m m':Mem}(h:appendA P id at_ s x m=some (v,m')):GrowBut id m m':=by
 unfold appendA at h
 repeat' split at h
 all_goals first
  |(cases h;done)
  |(simp only[sI,pI] at h;obtain⟨_,rfl⟩:=h
    first
    |exact(Grow.refl _).but _
    |exact GrowBut.put _ _ _
    |exact(Grow.kill _ _).then (GrowBut.put _ _ _)
    |(refine Grow.but ?_ _;apply Grow.put;assumption))
theorem nextA_grow{it v:Value}{m m':Mem}(h:nextA it m=some (v,m')):Grow m m':=by
 unfold nextA at h
 repeat' split at h
 all_goals first
  |(cases h;done)
  |(rename_i hm _
    simp only[sI,pI] at h
    obtain⟨_,rfl⟩:=h
    first
     |exact Grow.put hm
     |exact Grow.refl _)
theorem effA_grow{id:Nat}{o:SOp}{r:Operand->Value}{m m':Mem}{q:Req}(h:effA P id o r m=some (q,m')):GrowBut id m m':=by
 unfold effA at h
 repeat' split at h
 all_goals first
  |(cases h;done)
  |(simp only[mE,pI] at h
    obtain⟨z,hz,_,rfl⟩:=h
    first
    |exact(storeA_grow hz).but _
    |exact(mapSetA_grow hz).but _
    |exact(deleteA_grow hz).but _
    |exact(clearA_grow hz).but _
    |exact appendA_grow (v:=z.1) hz
    |exact(copyA_grow (v:=z.1) hz).but _
    |exact(nextA_grow (v:=z.1) hz).but _)
  |(simp only[sI,pI] at h;obtain⟨_,rfl⟩:=h;exact(Grow.refl _).but _)
variable{E:Env}{self:Self}
theorem opA_grow(hs:∀tk m o m',self tk m=some (o,m')->Grow m m'){id:Nat}{o:SOp}{t:List Value}{m m':Mem}{v:Value}(h:opA E self id o t m=some (v,m')):GrowBut id m m':=by
 unfold opA at h
 split at h
 ·split at h
  ·simp only[sI,pI] at h;obtain⟨_,rfl⟩:=h;exact(Grow.refl _).but _
  ·cases h
 ·split at h
  ·simp only[sI,pI] at h;obtain⟨_,rfl⟩:=h;exact(Grow.refl _).but _
  ·cases h
 ·split at h
  ·simp only[sI,pI] at h;obtain⟨_,rfl⟩:=h;exact GrowBut.put _ _ _
  ·cases h
 ·split at h
  ·rename_i he;simp only[sI,pI] at h;obtain⟨_,rfl⟩:=h;exact effA_grow he
  ·rename_i he
   split at h
   ·rename_i hc
    simp only[sI,pI] at h;obtain⟨_,rfl⟩:=h
    have h1:=effA_grow he
    have h2:=hs _ _ _ _ hc
    exact⟨lT h1.1 h2.1,λb hb hi e=>h2.2 b (lL hb h1.1) (h1.2 b hb hi e)⟩
   ·cases h
  ·rename_i he
   split at h
   ·rename_i hc
    simp only[sI,pI] at h;obtain⟨_,rfl⟩:=h
    have h1:=effA_grow he
    have h2:=hs _ _ _ _ hc
    exact⟨lT h1.1 h2.1,λb hb hi e=>h2.2 b (lL hb h1.1) (h1.2 b hb hi e)⟩
   ·cases h
  ·cases h
theorem stepOp_grow(hs:∀tk m o m',self tk m=some (o,m')->Grow m m'){id:Nat}{o:SOp}{t t':List Value}{m m':Mem}(h:stepOp E self id o t m=some (t',m')):GrowBut id m m':=by
 unfold stepOp at h
 split at h
 ·cases h
 split at h
 ·split at h
  ·rename_i ho
   simp only[sI,pI] at h;obtain⟨_,rfl⟩:=h
   exact opA_grow hs ho
  ·cases h
 ·simp only[sI,pI] at h;obtain⟨_,rfl⟩:=h;exact(Grow.refl _).but _
theorem seqOps_grow(hs:∀tk m o m',self tk m=some (o,m')->Grow m m'){lo:Nat}:∀{l:List SOp} {id:Nat} {t t':List Value} {m m':Mem},lo<=id->seqOps E self id l t m=some (t',m')->GrowLo lo m m'
 |[],id,t,t',m,m',_,h=>by
  simp only[seqOps,sI,pI] at h;obtain⟨_,rfl⟩:=h;exact GrowLo.refl _ _
 |o::l,id,t,t',m,m',hl,h=>by
  simp only[seqOps] at h
  split at h
  ·rename_i h1
   exact((stepOp_grow hs h1).lo hl).trans (seqOps_grow hs (by omega) h)
  ·cases h
theorem drOps_grow(hs:∀tk m o m',self tk m=some (o,m')->Grow m m'){base:Nat}{ops:List SOp}:∀{l:List (Nat×List Nat)} {hist:List (Nat×Mem)} {t t':List Value} {m m':Mem},drOps E self base ops l hist t m=some (t',m')->GrowLo base m m'
 |[],hist,t,t',m,m',h=>by
  simp only[drOps,sI,pI] at h;obtain⟨_,rfl⟩:=h;exact GrowLo.refl _ _
 |(i,re)::l,hist,t,t',m,m',h=>by
  simp only[drOps] at h
  split at h
  ·cases h
  ·split at h
   ·split at h
    ·rename_i h1
     exact((stepOp_grow hs h1).lo (by omega)).trans (drOps_grow hs h)
    ·cases h
   ·cases h
theorem stepCode_grow(hs:∀tk m o m',self tk m=some (o,m')->Grow m m'){rd:Option Nat}{c:SCode}{t:List Value}{m m':Mem}{o:Out}(h:stepCode E self rd c t m=some (o,m')):Grow m m':=by
 cases c with
 |skip=>simp only[stepCode,sI,pI] at h;obtain⟨_,rfl⟩:=h;exact Grow.refl _
 |exit=>simp only[stepCode,sI,pI] at h;obtain⟨_,rfl⟩:=h;exact Grow.refl _
 |ret=>simp only[stepCode,sI,pI] at h;obtain⟨_,rfl⟩:=h;exact Grow.refl _
 |seq a b=>
  simp only[stepCode] at h
  split at h
  ·rename_i h1;exact(hs _ _ _ _ h1).trans (hs _ _ _ _ h)
  ·exact hs _ _ _ _ h
 |cond=>
  simp only[stepCode] at h
  split at h
  ·exact hs _ _ _ _ h
  ·exact hs _ _ _ _ h
  ·cases h
 |block=>
  simp only[stepCode] at h
  split at h
  ·rename_i h1
   simp only[sI,pI] at h;obtain⟨_,rfl⟩:=h
   exact hs _ _ _ _ h1
  ·exact hs _ _ _ _ h
 |loop=>
  simp only[stepCode] at h
  split at h
  ·rename_i h1;exact(hs _ _ _ _ h1).trans (hs _ _ _ _ h)
  ·exact hs _ _ _ _ h
 |label=>simp only[stepCode,sI,pI] at h;obtain⟨_,rfl⟩:=h;exact Grow.refl _
 |goto=>simp only[stepCode,sI,pI] at h;obtain⟨_,rfl⟩:=h;exact Grow.refl _
 |scope b=>
  simp only[stepCode] at h
  split at h
  ·rename_i h1
   split at h
   ·exact(hs _ _ _ _ h1).trans (hs _ _ _ _ h)
   ·simp only[sI,pI] at h;obtain⟨_,rfl⟩:=h;exact hs _ _ _ _ h1
  ·exact hs _ _ _ _ h
 |again b r=>
  simp only[stepCode] at h
  split at h
  ·rename_i h1
   split at h
   ·exact(hs _ _ _ _ h1).trans (hs _ _ _ _ h)
   ·simp only[sI,pI] at h;obtain⟨_,rfl⟩:=h;exact hs _ _ _ _ h1
  ·exact hs _ _ _ _ h
 |reg=>
  simp only[stepCode] at h
  split at h
  ·rename_i h1
   simp only[sI,pI] at h;obtain⟨_,rfl⟩:=h
   exact(seqOps_grow hs (lR' _) h1).bumped
  ·cases h
 |dreg=>
  simp only[stepCode] at h
  split at h
  ·rename_i h1
   simp only[sI,pI] at h;obtain⟨_,rfl⟩:=h
   exact(drOps_grow hs h1).bumped
  ·cases h
 |rfn f ps as bd=>
  simp only[stepCode] at h
  split at h
  ·rename_i g first cap hev
   generalize(callable E.P g&&_)=bb at h
   cases bb with
   |true=>
    simp only[if_true] at h
    split at h
    ·rename_i h1
     have g1:=hs _ _ _ _ h1
     have g0:∀o,Grow m ((m.bump 1).put m.next o):=λo=>⟨by simp,λb hb e=>by rw[gP,if_neg (by omega)];exact e⟩
     split at h
     ·rename_i hr
      split at h
      ·cases h
      ·split at h
       ·simp only[sI,pI] at h;obtain⟨_,rfl⟩:=h
        exact((g0 _).trans g1).trans (Grow.put hr)
       ·split at h
        ·simp only[sI,pI] at h;obtain⟨_,rfl⟩:=h
         exact((g0 _).trans g1).trans (Grow.put hr)
        ·cases h
     ·cases h
    ·cases h
   |false=>simp at h
  ·cases h
theorem step_grow(hs:∀tk m o m',self tk m=some (o,m')->Grow m m')(hp:∀f p args m v m',E.prim f=some p->p args m=some (v,m')->Grow m m'){tk:Task}{m m':Mem}{o:Out}(h:step E self tk m=some (o,m')):Grow m m':=by
 cases tk with
 |code rd c t=>exact stepCode_grow hs h
 |call f args=>
  simp only[step] at h
  split at h
  ·rename_i p hpr
   split at h
   ·rename_i h1
    simp only[sI,pI] at h;obtain⟨_,rfl⟩:=h
    exact hp _ _ _ _ _ _ hpr h1
   ·cases h
  ·split at h
   ·cases h
   ·split at h
    ·rename_i x t' m2 h1
     have g1:=hs _ _ _ _ h1
     have:m'=m2:=by
      cases hr:resA E.P t' m2 (by assumption:SFunc).results with
      |none=>rw[hr] at h;cases x<;>simp at h
      |some vs=>rw[hr] at h;cases x<;>simp at h<;>exact h.2.symm
     exact this▸g1
    ·cases h
 |round l args=>
  simp only[step] at h
  split at h
  ·split at h
   ·split at h
    ·rename_i h1
     have g1:=hs _ _ _ _ h1
     split at h
     ·rename_i hr1
      split at h
      ·split at h
       ·rename_i h2
        have g2:=hs _ _ _ _ h2
        split at h
        ·rename_i hr3
         have g3:∀o,Grow m _:=λo=>((g1.trans (Grow.put hr1)).trans g2).trans (Grow.put (o':=o) hr3)
         split at h<;>first|(cases h;done)|(simp only[sI,pI] at h;obtain⟨_,rfl⟩:=h;exact g3 _)
        ·cases h
       ·cases h
      ·cases h
     ·cases h
    ·cases h
   ·cases h
  ·cases h
theorem run_grow(hp:∀f p args m v m',E.prim f=some p->p args m=some (v,m')->Grow m m'):∀(n:Nat) tk m o m',run E n tk m=some (o,m')->Grow m m'
 |0,_,_,_,_,h=>by cases h
 |n+1,_,_,_,_,h=>step_grow (run_grow hp n) hp h
end
section
variable{σ:Sig}{P:Program}{ρ:Rho}{r r':Operand->Value}
theorem runP_run{α:Type}(s:Sem α):∀{a:α},runP P s=some a->∀w,s.run P w= .ok a w:=by
 induction s with
 |pure x=>intro a h w;simp only[runP,sI] at h;subst h;rfl
 |program k ih=>intro a h w;exact ih P h w
 |mark m k ih=>intro a h w;exact ih h w
 |_=>intro a h w;simp[runP] at h
theorem runV_run{s:Sem Value}{v:Value}(h:runV P s=some v):VRel σ ρ v v∧∀w,s.run P w= .ok v w:=by
 unfold runV at h
 cases hs:runP P s with
 |none=>rw[hs] at h;cases h
 |some u=>
  simp only[hs] at h
  split at h
  ·rename_i hp
   simp only[sI] at h
   subst h
   exact⟨plain_refl (σ:=σ) ρ hp,runP_run s hs⟩
  ·cases h
theorem und_run{t:TypeId}{d:TypeDesc}(h:P.underlying t=some d)(w:World):(underlying t).run P w= .ok d w:=by
 simp[underlying,h]
theorem info_run{t:TypeId}{i:TypeInfo}(h:P.info? t=some i)(w:World):(typeInfo t).run P w= .ok i w:=by
 simp[typeInfo,h]
theorem sz_run{t:TypeId}{n:Nat}(h:szOf P t=some n)(w:World):(sizeOf t).run P w= .ok n w:=by
 unfold szOf at h
 cases hi:P.info? t with
 |none=>rw[hi] at h;cases h
 |some i=>rw[hi] at h;simp at h;subst h;simp[sizeOf,info_run hi]
theorem zero_run{t:TypeId}{z:Value}(h:zeroOf P t=some z)(w:World):(zeroValue t).run P w= .ok z w:=by
 unfold zeroOf at h
 cases hi:P.info? t with
 |none=>rw[hi] at h;cases h
 |some i=>rw[hi] at h;simp at h;simp[zeroValue,info_run hi,h]
def aggB:TypeDesc->Bool
 | .struct _=>true
 | .array _ _=>true
 |_=>false
theorem isAgg_run{t:TypeId}{d:TypeDesc}(h:P.underlying t=some d)(w:World):(isAgg t).run P w= .ok (aggB d) w:=by
 unfold isAgg
 simp only[Sem.run_bind,und_run h,Result.andThen_ok]
 cases d<;>rfl
theorem lay_eq{t:TypeId}{d:TypeDesc}(h:P.underlying t=some d):lay P t=if aggB d then(szOf P t).map some else some none:=by
 unfold lay
 rw[h]
 cases d<;>simp[aggB]
theorem lay_one{t:TypeId}(h:lay P t=some none):∃d,P.underlying t=some d∧∀w,(isAgg t).run P w= .ok false w:=by
 cases hu:P.underlying t with
 |none=>unfold lay at h;rw[hu] at h;cases h
 |some d=>
  rw[lay_eq hu] at h
  refine⟨d,rfl,λw=>?_⟩
  rw[isAgg_run hu]
  cases hb:aggB d with
  |false=>rfl
  |true=>rw[hb] at h;simp at h
theorem lay_many{t:TypeId}{n:Nat}(h:lay P t=some (some n)):szOf P t=some n∧∀w,(isAgg t).run P w= .ok true w:=by
 cases hu:P.underlying t with
 |none=>unfold lay at h;rw[hu] at h;cases h
 |some d=>
  rw[lay_eq hu] at h
  cases hb:aggB d with
  |false=>rw[hb] at h;simp at h
  |true=>
   rw[hb] at h
   exact⟨by simpa using h,λw=>by rw[isAgg_run hu,hb]⟩
theorem part_sound{t:TypeId}{cs cs':Array Value}{off:Nat}{v:Value}(hc:LRel σ ρ cs.toList cs'.toList)(h:partA P t cs off=some v):
  ∃v',VRel σ ρ v v'∧∀w,(part t cs' off).run P w= .ok v' w:=by
 unfold partA at h
 cases hl:lay P t with
 |none=>rw[hl] at h;cases h
 |some q=>
  rw[hl] at h
  cases q with
  |none=>
   obtain⟨d,_,ha⟩:=lay_one hl
   obtain⟨v',h1,h2⟩:=hc.get? (i:=off) (v:=v) (by simpa using h)
   refine⟨v',h2,λw=>?_⟩
   have:cs'[off]? =some v':=by simpa using h1
   simp[part,ha,this]
  |some n=>
   obtain⟨hs,ha⟩:=lay_many hl
   simp only[sI] at h
   subst h
   refine⟨.agg (cs'.extract off (off+n)),LRel.agg ?_,λw=>by simp[part,ha,sz_run hs]⟩
   have:=(hc.drop off).take n
   simpa [Array.toList_extract,List.extract_eq_take_drop] using this
theorem addr_add(a:Addr)(h:a.spot=none)(n:Nat):a.add n=⟨a.block,a.off+n,none⟩:=by
 unfold Addr.add
 cases a
 simp only at h
 subst h
 split
 ·rename_i e;subst e;rfl
 ·rfl
def Gives(σ:Sig)(P:Program)(ρ:Rho)(o':Oper)(r':Operand->Value)(w:World)(v:Value):Prop:=
 ∃v',VRel σ ρ v v'∧(execOp r' o').run P w= .ok (.value v') w
theorem map_rel{xs:Array Operand}(h:∀x∈xs.toList,VRel σ ρ (r x) (r' x)):LRel σ ρ (xs.map r).toList (xs.map r').toList:=by
 rw[Array.toList_map,Array.toList_map]
 generalize xs.toList=l at h
 induction l with
 |nil=>exact LRel.nil ρ
 |cons x l ih=>exact LRel.cons (h x (by simp)) (ih λy hy=>h y (by simp[hy]))
theorem VRel.func_of{f:Fn}(hy:∀l,f≠ .yield l)(hm:∀n,f≠ .method n){fs fs' cp cp':Array Value}(h1:LRel σ ρ fs.toList fs'.toList)(h2:LRel σ ρ cp.toList cp'.toList):VRel σ ρ (.func f fs cp) (.func f fs' cp'):=
 .func hy hm (by simpa using h1.1) (λi hi=>by rw[getD_toList,getD_toList];exact h1.2 i (by simpa using hi)) (by simpa using h2.1)
  (λi hi=>by rw[getD_toList,getD_toList];exact h2.2 i (by simpa using hi))
theorem plain_map{xs:Array Operand}(h:∀x∈xs.toList,VRel σ ρ (r x) (r' x))(hp:(xs.map r).toList.all plain=true):xs.map r=xs.map r':=by
 apply Array.toList_inj.1
 have hl:=map_rel h
 refine list_ext_getD hl.1 λi hi=>plain_eq (all_getD hp hi) (hl.2 i hi)
theorem bnd_sound{v v':Option Value}{top dflt n:Nat}{code:BoundsCode}(hv:∀x,v=some x->∃x',v'=some x'∧VRel σ ρ x x')(hn:v=none->v'=none)(h:bndA v top dflt=some n){top':Nat}(ht:top<=top')(w:World):
  (v=none∧v'=none∧n=dflt)∨(∃x',v'=some x'∧n<=top∧(Instr.sliceBound x' top' code).run P w= .ok n w):=by
 cases v with
 |none=>exact .inl ⟨rfl,hn rfl,by simpa [bndA] using h.symm⟩
 |some x=>
  obtain⟨x',hx',hr⟩:=hv x rfl
  right
  cases x with
  |int k i=>
   cases hr
   simp only[bndA] at h
   split at h
   ·rename_i hb
    simp only[sI] at h
    subst h
    refine⟨_,hx',by omega,?_⟩
    have:0<=i∧i<=(top':Int):=⟨hb.1,by omega⟩
    simp[Instr.sliceBound,asIntOf,this]
   ·cases h
  |_=>simp[bndA] at h
theorem pick_sound{o':Oper}{c a b:Operand}{v:Value}{w:World}(ho:o'.op= .pick c a b)(hr:∀x∈o'.op.operands.toList,VRel σ ρ (r x) (r' x))
  (h:(match r c with| .bool t=>some (if t then r a else r b)|_=>none)=some v):Gives σ P ρ o' r' w v:=by
 rw[ho] at hr
 have hc:=hr c (by simp[Op.operands])
 have ha:=hr a (by simp[Op.operands])
 have hb:=hr b (by simp[Op.operands])
 revert h
 cases hrc:r c with
 |bool t=>
  intro h
  rw[hrc] at hc
  generalize hcc:r' c=cc at hc
  cases hc
  simp only[sI] at h
  subst h
  cases t
  ·exact⟨r' b,by simpa using hb,by simp[execOp,ho,hcc,asBool]⟩
  ·exact⟨r' a,by simpa using ha,by simp[execOp,ho,hcc,asBool]⟩
 |_=>intro h;simp at h
theorem nilAhead_run{t:TypeId}{v:Value}{name:String}{f:FuncId}{n:Nat}{w:World}(h:methodA P t name=some f):(nilAhead (n+1) t v name).run P w= .ok (some false) w:=by
 unfold methodA at h
 split at h
 ·rename_i i hi
  split at h
  ·rename_i m hm
   split at h
   ·rename_i hp
    have hpath:m.path.toList=[]:=List.isEmpty_iff.1 hp
    split at h
    ·rename_i g e hf hu
     simp[nilAhead,info_run hi,hm,hpath,followBlind,hf]
    ·cases h
    ·rename_i g d hne hf hu
     cases d<;>first|exact absurd rfl (hne _)|simp[nilAhead,info_run hi,hm,hpath,followBlind,hf,und_run hu]
    ·cases h
   ·cases h
  ·cases h
 ·cases h
theorem nilCheck_sound{o':Oper}{x:Operand}{v:Value}{w:World}(ho:o'.op= .nilCheck x)(hr:∀x∈o'.op.operands.toList,VRel σ ρ (r x) (r' x))
  (h:(match r x with| .pointer (some a)=>some (.pointer (some a))| .func (.func f) a c=>some (.func (.func f) a c)| .func (.yield l) a c=>some (.func (.yield l) a c)| .func (.methodOf ty nm) a c=>if(methodA P ty nm).isSome then some (.func (.methodOf ty nm) a c) else none|_=>none)=some v):Gives σ P ρ o' r' w v:=by
 rw[ho] at hr
 have hx:=hr x (by simp[Op.operands])
 have hv:r x=v:=by
  split at h
  ·rename_i e;rw[e];simpa using h
  ·rename_i e;rw[e];simpa using h
  ·rename_i e;rw[e];simpa using h
  ·rename_i e
   split at h
   ·rw[e];simpa using h
   ·cases h
  ·cases h
 refine⟨r' x,hv▸hx,?_⟩
 rw[hv] at hx h
 generalize hcc:r' x=cc at hx
 cases hx with
 |ptr hb=>simp[execOp,ho,hcc]
 |meth hm=>
  rename_i t nm u u'
  have hs:(methodA P t nm).isSome=true:=by
   simp only at h
   split at h
   ·assumption
   ·cases h
  obtain⟨f,hf⟩:=Option.isSome_iff_exists.1 hs
  obtain⟨n,hn⟩:∃n,P.types.size+Made.depth=n+1:=⟨P.types.size+Made.depth-1,by unfold Made.depth;omega⟩
  simp[execOp,ho,hcc,hn,nilAhead_run hf]
 |func hy hm h1 h2 h3 h4=>
  rename_i f fs fs' cp cp'
  cases f with
  |func g=>simp[execOp,ho,hcc]
  |methodOf ty nm=>simp[execOp,ho,hcc]
  |yield l=>exact absurd rfl (hy l)
  |_=>simp at h
 |yield hb=>simp[execOp,ho,hcc]
 |_=>simp at h
theorem unOp_sound{o':Oper}{op:UnOp}{t:TypeId}{x:Operand}{v:Value}{w:World}(ho:o'.op= .unOp op t x)(hr:∀x∈o'.op.operands.toList,VRel σ ρ (r x) (r' x))
  (h:(if plain (r x) then runV P (Op.unary op (r x)) else none)=some v):Gives σ P ρ o' r' w v:=by
 rw[ho] at hr
 have hx:=hr x (by simp[Op.operands])
 split at h
 ·rename_i hp
  have e:=plain_eq hp hx
  obtain⟨hv,hrun⟩:=runV_run (σ:=σ) (ρ:=ρ) h
  refine⟨v,hv,?_⟩
  have:=hrun w
  rw[e] at this
  simp[execOp,ho,this]
 ·cases h
theorem binOp_sound{o':Oper}{op:BinOp}{t u:TypeId}{x y:Operand}{v:Value}{w:World}(ho:o'.op= .binOp op t x y u)(hc:cls o'.op= .pure)(hr:∀x∈o'.op.operands.toList,VRel σ ρ (r x) (r' x))
  (h:(if plain (r x)&&plain (r y) then runV P (binOp op t (r x) (r y)) else none)=some v):Gives σ P ρ o' r' w v:=by
 rw[ho] at hr hc
 have hx:=hr x (by simp[Op.operands])
 have hy:=hr y (by simp[Op.operands])
 split at h
 ·rename_i hp
  simp only[bT] at hp
  have e1:=plain_eq hp.1 hx
  have e2:=plain_eq hp.2 hy
  obtain⟨hv,hrun⟩:=runV_run (σ:=σ) (ρ:=ρ) h
  refine⟨v,hv,?_⟩
  have:=hrun w
  rw[e1,e2] at this
  have hg:(eqGuard op t x y (r' x) (r' y)).run P w= .ok () w:=by
   cases op<;>first|rfl|(simp[cls] at hc)
  simp[execOp,ho,this,hg]
 ·cases h
theorem makeInterface_sound{o':Oper}{t:TypeId}{x:Operand}{v:Value}{w:World}(ho:o'.op= .makeInterface t x)(hr:∀x∈o'.op.operands.toList,VRel σ ρ (r x) (r' x))
  (h:(match P.underlying t with|some (.interface _)=>none|some _=>some (.iface t (r x))|none=>none)=some v):Gives σ P ρ o' r' w v:=by
 rw[ho] at hr
 have hx:=hr x (by simp[Op.operands])
 cases hu:P.underlying t with
 |none=>rw[hu] at h;simp at h
 |some d=>
  rw[hu] at h
  have hd:(some (.iface t (r x)):Option Value)=some v∧∀w,(Instr.makeInterface t (r' x)).run P w= .ok (.iface t (r' x)) w:=by
   cases d<;>first|(simp at h;done)|exact⟨h,λw=>by simp[Instr.makeInterface,und_run hu]⟩
  obtain⟨h,hd⟩:=hd
  simp only[sI] at h
  subst h
  exact⟨.iface t (r' x), .iface t hx,by simp[execOp,ho,hd]⟩
theorem makeFunc_sound{o':Oper}{fn:Fn}{fs cp:Array Operand}{v:Value}{w:World}(ho:o'.op= .makeFunc fn fs cp)(hr:∀x∈o'.op.operands.toList,VRel σ ρ (r x) (r' x))
  (hy:∀l,fn≠ .yield l) (hm:∀n,fn≠ .method n) (hv:v= .func fn (fs.map r) (cp.map r)):Gives σ P ρ o' r' w v:=by
 rw[ho] at hr
 have h1:=map_rel (r:=r) (r':=r') (xs:=fs) λx hx=>hr x (by simp only[Op.operands,Array.toList_append,List.mem_append];exact .inl hx)
 have h2:=map_rel (r:=r) (r':=r') (xs:=cp) λx hx=>hr x (by simp only[Op.operands,Array.toList_append,List.mem_append];exact .inr hx)
 subst hv
 exact⟨.func fn (fs.map r') (cp.map r'),VRel.func_of hy hm h1 h2,by simp[execOp,ho,Instr.makeFunc]⟩
theorem makeMeth_sound{o':Oper}{nm:String}{fs cp:Array Operand}{v:Value}{w:World}(ho:o'.op= .makeFunc (.method nm) fs cp)(hr:∀x∈o'.op.operands.toList,VRel σ ρ (r x) (r' x))
  (h:methV nm (fs.map r).toList (cp.map r).toList=some v):Gives σ P ρ o' r' w v:=by
 rw[ho] at hr
 have h1:=map_rel (r:=r) (r':=r') (xs:=fs) λx hx=>hr x (by simp only[Op.operands,Array.toList_append,List.mem_append];exact .inl hx)
 have h2:=map_rel (r:=r) (r':=r') (xs:=cp) λx hx=>hr x (by simp only[Op.operands,Array.toList_append,List.mem_append];exact .inr hx)
 unfold methV at h
 split at h
 ·rename_i t u e1 e2
  cases h
  rw[e1] at h1
  rw[e2] at h2
  have l1:=h1.1
  have l2:=h2.1
  obtain⟨y,hy⟩:∃y,(fs.map r').toList=[y]:=by
   match hl:(fs.map r').toList with
   |[y]=>exact⟨y,rfl⟩
   |[]=>rw[hl] at l1;cases l1
   |_::_::_=>rw[hl] at l1;simp at l1
  have hz:(cp.map r').toList=[]:=List.eq_nil_of_length_eq_zero (by rw[<-l2];rfl)
  rw[hy] at h1
  have hh:=h1.2 0 (by simp)
  simp only[List.getD_cons_zero] at hh
  cases hh with
  |iface _ hu=>
   rename_i u'
   have a1:fs.map r'= #[.iface t u']:=by rw[<-Array.toArray_toList (xs:=fs.map r'),hy]
   have a2:cp.map r'= #[]:=by rw[<-Array.toArray_toList (xs:=cp.map r'),hz]
   exact⟨_, .meth hu,by simp[execOp,ho,Instr.makeFunc,a1,a2]⟩
 ·cases h
theorem fieldAddr_sound{o':Oper}{s:TypeId}{x:Operand}{f:Nat}{v:Value}{w:World}(ho:o'.op= .fieldAddr s x f)(hr:∀x∈o'.op.operands.toList,VRel σ ρ (r x) (r' x))
  (h:(match P.underlying s,r x with
  |some (.struct fs), .pointer (some ⟨b,o,none⟩)=>match fs[f]? with
   |some fl=>match szOf P fl.type with
    |some (_+1)=>some (ptr b (o+fl.offset))
    |_=>none
   |none=>none
  |_,_=>none)=some v):Gives σ P ρ o' r' w v:=by
 rw[ho] at hr
 have hx:=hr x (by simp[Op.operands])
 split at h
 ·rename_i fs b o hu hrx
  split at h
  ·rename_i fl hf
   split at h
   ·rename_i k hs
    simp only[sI] at h
    subst h
    rw[hrx] at hx
    generalize hcc:r' x=cc at hx
    cases hx with
    |ptr hb=>
     rename_i b' off sl
     refine⟨ptr b' (off+(o+fl.offset)), .ptr hb,?_⟩
     have hz:(sizeOf fl.type).run P w= .ok (k+1) w:=sz_run hs w
     simp[execOp,ho,hcc,Instr.fieldAt,und_run hu,hf,Instr.sureAddr,fieldPlace,hz,addr_add,ptr,Nat.add_assoc]
   ·cases h
  ·cases h
 ·cases h
theorem field_sound{o':Oper}{t:TypeId}{x:Operand}{f:Nat}{v:Value}{w:World}(ho:o'.op= .field t x f)(hr:∀x∈o'.op.operands.toList,VRel σ ρ (r x) (r' x))
  (h:(match P.underlying t,r x with
  |some (.struct fs), .agg cs=>match fs[f]? with
   |some fl=>partA P fl.type cs fl.offset
   |none=>none
  |_,_=>none)=some v):Gives σ P ρ o' r' w v:=by
 rw[ho] at hr
 have hx:=hr x (by simp[Op.operands])
 split at h
 ·rename_i fs cs hu hrx
  split at h
  ·rename_i fl hf
   rw[hrx] at hx
   obtain⟨cs',hcc,hl⟩:=hx.agg_inv
   obtain⟨v',hv,hrun⟩:=part_sound hl h
   exact⟨v',hv,by simp[execOp,ho,hcc,Instr.field,und_run hu,hf,asAgg,hrun]⟩
  ·cases h
 ·cases h
theorem extract_sound{o':Oper}{x:Operand}{i:Nat}{v:Value}{w:World}(ho:o'.op= .extract x i)(hr:∀x∈o'.op.operands.toList,VRel σ ρ (r x) (r' x))
  (h:(match r x with| .tuple vs=>vs[i]? |_=>none)=some v):Gives σ P ρ o' r' w v:=by
 rw[ho] at hr
 have hx:=hr x (by simp[Op.operands])
 split at h
 ·rename_i vs hrx
  rw[hrx] at hx
  obtain⟨cs',hcc,hl⟩:=hx.tuple_inv
  obtain⟨v',h1,h2⟩:=hl.get? (i:=i) (v:=v) (by simpa using h)
  have h1':cs'[i]? =some v':=by simpa using h1
  exact⟨v',h2,by simp[execOp,ho,hcc,Instr.extract,h1']⟩
 ·cases h
theorem VRel.int_inv{k:IntKind}{n:Int}{v:Value}(h:VRel σ ρ (.int k n) v):v= .int k n:=by cases h;rfl
theorem VRel.string_inv{s:ByteArray}{v:Value}(h:VRel σ ρ (.string s) v):v= .string s:=by cases h;rfl
theorem VRel.bool_inv{b:Bool}{v:Value}(h:VRel σ ρ (.bool b) v):v= .bool b:=by cases h;rfl
theorem VRel.ptr_inv{b o:Nat}{v:Value}(h:VRel σ ρ (.pointer (some ⟨b,o,none⟩)) v):∃b' off sl,ρ b=some (b',off,sl)∧v= .pointer (some ⟨b',off+o,none⟩):=by
 cases h with
 |ptr h=>exact⟨_,_,_,h,rfl⟩
theorem VRel.slice_inv{b o n c:Nat}{v:Value}(h:VRel σ ρ (.slice (some ⟨b,o,none⟩) n c) v):
  ∃b' off sl c',ρ b=some (b',off,sl)∧v= .slice (some ⟨b',off+o,none⟩) n c'∧(c'=c∨c'=c+sl)∧n<=c:=by
 cases h with
 |slice h hc hn=>exact⟨_,_,_,_,h,rfl,hc,hn⟩
theorem index_sound{o':Oper}{t:TypeId}{x i:Operand}{v:Value}{w:World}(ho:o'.op= .index t x i)(hr:∀x∈o'.op.operands.toList,VRel σ ρ (r x) (r' x))
  (h:(match P.underlying t,r x,r i with
  |some (.array len e), .agg cs, .int _ n=>if 0<=n∧n<len then match szOf P e with
    |some s=>partA P e cs (n.toNat*s)
    |none=>none
   else none
  |some .string, .string s, .int _ n=>if 0<=n then match s[n.toNat]? with
    |some b=>some (.int .u8 b.toNat)
    |none=>none
   else none
  |_,_,_=>none)=some v):Gives σ P ρ o' r' w v:=by
 rw[ho] at hr
 have hx:=hr x (by simp[Op.operands])
 have hi:=hr i (by simp[Op.operands])
 split at h
 ·rename_i len e cs k n hu hrx hri
  split at h
  ·rename_i hb
   split at h
   ·rename_i s hs
    rw[hrx] at hx
    rw[hri] at hi
    obtain⟨cs',hcc,hl⟩:=hx.agg_inv
    have hii:=hi.int_inv
    obtain⟨v',hv,hrun⟩:=part_sound hl h
    exact⟨v',hv,by simp[execOp,ho,hcc,hii,Instr.index,asIntOf,und_run hu,hb,sz_run hs,hrun]⟩
   ·cases h
  ·cases h
 ·rename_i s k n hu hrx hri
  split at h
  ·rename_i hb
   split at h
   ·rename_i b hs
    rw[hrx] at hx
    rw[hri] at hi
    simp only[sI] at h
    subst h
    refine⟨_, .int _ _,?_⟩
    simp[execOp,ho,hx.string_inv,hi.int_inv,Instr.index,asIntOf,und_run hu,hb,hs]
   ·cases h
  ·cases h
 ·cases h
theorem indexAddr_sound{o':Oper}{t:TypeId}{x i:Operand}{v:Value}{w:World}(ho:o'.op= .indexAddr t x i)(hr:∀x∈o'.op.operands.toList,VRel σ ρ (r x) (r' x))
  (h:(match P.underlying t,r x,r i with
  |some (.array len e), .pointer (some ⟨b,o,none⟩), .int _ n=>if 0<=n∧n<len then match szOf P e with
    |some s=>some (ptr b (o+n.toNat*s))
    |none=>none
   else none
  |some (.slice e), .slice (some ⟨b,o,none⟩) len _, .int _ n=>if 0<=n∧n<len then match szOf P e with
    |some s=>some (ptr b (o+n.toNat*s))
    |none=>none
   else none
  |_,_,_=>none)=some v):Gives σ P ρ o' r' w v:=by
 rw[ho] at hr
 have hx:=hr x (by simp[Op.operands])
 have hi:=hr i (by simp[Op.operands])
 split at h
 ·rename_i len e b o k n hu hrx hri
  split at h
  ·rename_i hb
   split at h
   ·rename_i s hs
    rw[hrx] at hx
    rw[hri] at hi
    simp only[sI] at h
    subst h
    obtain⟨b',off,sl,hρ,hcc⟩:=hx.ptr_inv
    refine⟨ptr b' (off+(o+n.toNat*s)), .ptr hρ,?_⟩
    simp[execOp,ho,hcc,hi.int_inv,Instr.indexAt,asIntOf,und_run hu,hb,sz_run hs,Instr.sureAddr,addr_add,ptr,Nat.add_assoc]
   ·cases h
  ·cases h
 ·rename_i e b o len c k n hu hrx hri
  split at h
  ·rename_i hb
   split at h
   ·rename_i s hs
    rw[hrx] at hx
    rw[hri] at hi
    simp only[sI] at h
    subst h
    obtain⟨b',off,sl,c',hρ,hcc,_,_⟩:=hx.slice_inv
    refine⟨ptr b' (off+(o+n.toNat*s)), .ptr hρ,?_⟩
    simp[execOp,ho,hcc,hi.int_inv,Instr.indexAt,asIntOf,und_run hu,hb,sz_run hs,addr_add,ptr,Nat.add_assoc]
   ·cases h
  ·cases h
 ·cases h
theorem splice_rel{cs cs' new new':List Value}(h:LRel σ ρ cs cs')(hn:LRel σ ρ new new')(o:Nat):LRel σ ρ (splice cs o new) (splice cs' o new'):=by
 unfold splice
 rw[<-hn.1]
 exact((h.take o).append hn).append (h.drop _)
theorem splice_cons(cs:List Value)(o:Nat)(x:Value)(new:List Value)(h:o<cs.length):splice (cs.set o x) (o+1) new=splice cs o (x::new):=by
 unfold splice
 have e1:(cs.set o x).take (o+1)=cs.take o++ [x]:=by
  rw[List.take_succ_eq_append_getElem (by simpa using h)]
  simp[List.take_set_of_le]
 have e2:(cs.set o x).drop (o+1+new.length)=cs.drop (o+(x::new).length):=by
  rw[List.drop_set_of_lt (by omega)]
  congr 1
  simp only[List.length_cons]
  omega
 rw[e1,e2]
 simp
theorem foldl_splice(new:List Value):∀(cs:Array Value) (o k:Nat),o+k+new.length<=cs.size->
  ((new.zipIdx k).foldl (λ(cs:Array Value) (p:Value×Nat)=>cs.setIfInBounds (o+p.2) p.1) cs).toList=splice cs.toList (o+k) new:=by
 induction new with
 |nil=>intro cs o k _;simp[splice]
 |cons x new ih=>
  intro cs o k h
  simp only[List.length_cons] at h
  rw[List.zipIdx_cons,List.foldl_cons,ih _ _ _ (by simp;omega)]
  rw[Array.toList_setIfInBounds]
  have:=splice_cons cs.toList (o+k) x new (by simp;omega)
  rw[<-this]
  rfl
theorem fill_sound{place place':Nat->Option (Nat×Nat)}:∀{parts parts':List (Nat×Value)} {cs cs':List Value} {out:List Value},LRel σ ρ cs cs'->
  (∀i p,place i=some p->place' i=some p)->parts.length=parts'.length->(∀(i:Nat) (p:Nat×Value),parts[i]? =some p->∃v',parts'[i]? =some (p.1,v')∧VRel σ ρ p.2 v')->
  fillA place cs parts=some out->∃out':Array Value,LRel σ ρ out out'.toList∧Instr.fill place' cs'.toArray parts'=some out':=by
 intro parts
 induction parts with
 |nil=>
  intro parts' cs cs' out hc hp hlen _ h
  cases parts' with
  |nil=>
   simp only[fillA,sI] at h
   subst h
   exact⟨cs'.toArray,by simpa using hc,rfl⟩
  |cons=>simp at hlen
 |cons p parts ih=>
  intro parts' cs cs' out hc hp hlen hr h
  cases parts' with
  |nil=>simp at hlen
  |cons p' parts'=>
   obtain⟨v',hv',hvr⟩:=hr 0 p (by simp)
   simp only[List.getElem?_cons_zero,sI] at hv'
   subst hv'
   obtain⟨i,v⟩:=p
   simp only[fillA] at h
   cases hpl:place i with
   |none=>rw[hpl] at h;cases h
   |some q=>
    obtain⟨off,size⟩:=q
    rw[hpl] at h
    simp only at h
    split at h
    ·rename_i hb
     have hcl:=hvr.cells hb.2.2
     have hsz:v.cells.size=v'.cells.size:=by simpa using hcl.1
     have hlen':=hc.1
     have hsp:=splice_rel hc hcl off
     obtain⟨out',ho,hf⟩:=ih (parts':=parts') hsp hp (by simpa using hlen) (λj p hj=>by simpa using hr (j+1) p (by simpa using hj)) h
     refine⟨out',ho,?_⟩
     simp only[Instr.fill,hp i _ hpl]
     have hno:¬(v'.cells.size≠size∨off+v'.cells.size>cs'.toArray.size):=by
      rintro(hh|hh)
      ·exact hh (by rw[<-hsz];exact hb.1)
      ·simp at hh;omega
     have hno':(decide (v'.cells.size≠size)||decide (off+v'.cells.size>cs'.toArray.size))=false:=by simpa using hno
     have hfold:=foldl_splice v'.cells.toList cs'.toArray off 0 (by simp;omega)
     rw[if_neg (by simpa using hno)]
     have harr:((v'.cells.zipIdx).foldl (λ(cs:Array Value) (x:Value×Nat)=>cs.setIfInBounds (off+x.2) x.1) cs'.toArray)=(splice cs' off v'.cells.toList).toArray:=by
      apply Array.toList_inj.1
      rw[<-Array.foldl_toList]
      simpa using hfold
     rw[<-hf,<-harr]
    ·cases h
end
section
variable{σ:Sig}{P:Program}{ρ:Rho}{r r':Operand->Value}
def ORelV(σ:Sig)(ρ:Rho)(v v':Option Value):Prop:=(v=none->v'=none)∧∀x,v=some x->∃x',v'=some x'∧VRel σ ρ x x'
theorem bounds_sound{b:Bool}{lo lo' hi hi':Option Value}{n c c' h l:Nat}(hlo:ORelV σ ρ lo lo')(hhi:ORelV σ ρ hi hi')(hn:n<=c)(hc:c<=c')
  (h1:bndA hi c n=some h) (h2:bndA lo h 0=some l) (w:World):l<=h∧h<=c∧(Instr.sliceBounds b n c' lo' hi' none).run P w= .ok (l,h,c') w:=by
 rcases bnd_sound (P:=P) (code:=if b then .sliceAcap else .sliceAlen) hhi.2 hhi.1 h1 hc w with⟨_,g2,g3⟩|⟨x',g2,g3,g4⟩
 ·subst g2 g3
  rcases bnd_sound (P:=P) (code:= .sliceB) hlo.2 hlo.1 h2 (lR' h) w with⟨_,k2,k3⟩|⟨y',k2,k3,k4⟩
  ·subst k2 k3
   exact⟨Nat.zero_le _,hn,by simp[Instr.sliceBounds]⟩
  ·subst k2
   exact⟨k3,hn,by simp[Instr.sliceBounds,k4]⟩
 ·subst g2
  rcases bnd_sound (P:=P) (code:= .sliceB) hlo.2 hlo.1 h2 (lR' h) w with⟨_,k2,k3⟩|⟨y',k2,k3,k4⟩
  ·subst k2 k3
   exact⟨Nat.zero_le _,g3,by simp[Instr.sliceBounds,g4]⟩
  ·subst k2
   exact⟨k3,g3,by simp[Instr.sliceBounds,g4,k4]⟩
theorem ORelV.of{x:Option Operand}(h:∀y,x=some y->VRel σ ρ (r y) (r' y)):ORelV σ ρ (x.map r) (x.map r'):=by
 cases x with
 |none=>exact⟨λ_=>rfl,λ_ h=>(nomatch h)⟩
 |some y=>exact⟨λh=>(nomatch h),λz hz=>⟨_,rfl,by simp only[Option.map_some,sI] at hz;subst hz;exact h y rfl⟩⟩
theorem slice_run{t:TypeId}{d:TypeDesc}(hu:P.underlying t=some d)(hd:∀n e,d≠ .array n e)(x:Value)(lo hi:Option Value)(w:World)(mx:Option Value:=none):
  (Instr.sliceAt t x lo hi mx).run P w=(Instr.slice t x lo hi mx).run P w:=by
 unfold Instr.sliceAt
 simp only[Sem.run_bind,und_run hu,Result.andThen_ok]
theorem sliceA_sound{t:TypeId}{x x':Value}{lo lo' hi hi':Option Value}{v:Value}(hx:VRel σ ρ x x')(hlo:ORelV σ ρ lo lo')(hhi:ORelV σ ρ hi hi')(h:sliceA P t x lo hi=some v)(w:World):
  ∃v',VRel σ ρ v v'∧(Instr.sliceAt t x' lo' hi' none).run P w= .ok v' w:=by
 unfold sliceA at h
 split at h
 ·rename_i s hu
  split at h
  ·cases h
  ·rename_i hh h1
   split at h
   ·cases h
   ·rename_i l h2
    simp only[sI] at h
    subst h
    obtain rfl:=hx.string_inv
    obtain⟨_,_,hb⟩:=bounds_sound (P:=P) (b:=false) hlo hhi (lR' _) (lR' _) h1 h2 w
    refine⟨_, .string _,?_⟩
    rw[slice_run hu (λ_ _ e=>by cases e)]
    simp[Instr.slice,und_run hu,hb]
 ·rename_i e a n c hu
  split at h
  ·cases h
  ·rename_i hh h1
   split at h
   ·cases h
   ·rename_i l h2
    rw[slice_run hu (λ_ _ e=>by cases e)]
    split at h
    ·rename_i sz hs
     simp only[sI] at h
     subst h
     cases hx with
     |nilSlice=>
      obtain⟨g1,g2,hb⟩:=bounds_sound (P:=P) (b:=true) hlo hhi (lR' _) (lR' _) h1 h2 w
      obtain rfl:hh=0:=by omega
      obtain rfl:l=0:=by omega
      exact⟨_, .nilSlice,by simp[Instr.slice,und_run hu,hb,sz_run hs]⟩
    ·rename_i sz b o hs
     cases hx with
     |slice hρ hc hn=>
      rename_i b' off sl c'
      obtain⟨g1,g2,hb⟩:=bounds_sound (P:=P) (b:=true) hlo hhi hn (show c<=c' by omega) h1 h2 w
      have hrun:(Instr.slice t (.slice (some ⟨b',off+o,none⟩) n c') lo' hi' none).run P w=
        .ok (.slice (if c'=l then some ⟨b',off+o,none⟩ else some ⟨b',off+o+l*sz,none⟩) (hh-l) (c'-l)) w:=by
       simp[Instr.slice,und_run hu,hb,sz_run hs,addr_add]
      split at h
      ·rename_i hl
       subst hl
       simp only[sI] at h
       subst h
       refine⟨_, .slice hρ hc g2,?_⟩
       rw[hrun]
       split<;>simp
      ·split at h
       ·rename_i hl
        simp only[sI] at h
        subst h
        refine⟨.slice (some ⟨b',off+(o+l*sz),none⟩) (hh-l) (c'-l), .slice hρ (by omega) (by omega),?_⟩
        rw[hrun,if_neg (by omega),Nat.add_assoc]
       ·split at h
        ·rename_i hl
         simp only[sI] at h
         subst h
         subst hl
         refine⟨_, .lost (if c'=hh then⟨b',off+o,none⟩ else⟨b',off+o+hh*sz,none⟩) (c'-hh),?_⟩
         rw[hrun]
         split<;>simp
        ·cases h
    ·rename_i sz b o q hs
     split at h
     ·rename_i hl
      subst hl
      simp only[sI] at h
      subst h
      cases hx with
      |lost a c'=>
       obtain⟨g1,g2,hb⟩:=bounds_sound (P:=P) (b:=true) hlo hhi (lR' 0) (Nat.zero_le c') h1 h2 w
       obtain rfl:hh=0:=by omega
       refine⟨_, .lost a c',?_⟩
       simp[Instr.slice,und_run hu,hb,sz_run hs,Addr.add]
     ·cases h
    ·cases h
 ·rename_i n e b o hu
  split at h
  ·cases h
  ·rename_i hh h1
   split at h
   ·cases h
   ·rename_i l h2
    split at h
    ·cases h
    ·rename_i sz hs
     simp only[sI] at h
     subst h
     obtain⟨b',off,sl,hρ,rfl⟩:=hx.ptr_inv
     obtain⟨g1,g2,hb⟩:=bounds_sound (P:=P) (b:=false) hlo hhi (lR' n) (lR' n) h1 h2 w
     have hrun:(Instr.sliceAt t (.pointer (some ⟨b',off+o,none⟩)) lo' hi' none).run P w=
       .ok (.slice (some (if n=l then⟨b',off+o,none⟩ else⟨b',off+o+l*sz,none⟩)) (hh-l) (n-l)) w:=by
      simp[Instr.sliceAt,und_run hu,hb,sz_run hs,Instr.sureAddr,addr_add]
     by_cases hl:n=l
     ·rw[if_pos hl]
      refine⟨.slice (some ⟨b',off+o,none⟩) (hh-l) (n-l), .slice hρ (.inl rfl) (by omega),?_⟩
      rw[hrun,if_pos hl]
     ·rw[if_neg hl]
      refine⟨.slice (some ⟨b',off+(o+l*sz),none⟩) (hh-l) (n-l), .slice hρ (.inl rfl) (by omega),?_⟩
      rw[hrun,if_neg hl,Nat.add_assoc]
 ·cases h
theorem slice3A_sound{t:TypeId}{x x' hi hi' mx mx':Value}{lo lo':Option Value}{v:Value}(hx:VRel σ ρ x x')(hlo:ORelV σ ρ lo lo')(hhi:VRel σ ρ hi hi')(hmx:VRel σ ρ mx mx')(h:slice3A P t x lo hi mx=some v)(w:World):
  ∃v',VRel σ ρ v v'∧(Instr.sliceAt t x' lo' (some hi') (some mx')).run P w= .ok v' w:=by
 have one:∀{y y':Value},VRel σ ρ y y'->∀x,some y=some x->∃x',some y'=some x'∧VRel σ ρ x x':=λhy x e=>by cases e;exact⟨_,rfl,hy⟩
 unfold slice3A at h
 split at h
 ·rename_i e a n c hu
  split at h
  ·cases h
  ·rename_i k h0
   split at h
   ·cases h
   ·rename_i hh h1
    split at h
    ·cases h
    ·rename_i l h2
     rw[slice_run hu (λ_ _ e=>by cases e) (mx:=some mx')]
     have bounds:∀c',c<=c'->k<=c∧hh<=k∧l<=hh∧(Instr.sliceBounds true n c' lo' (some hi') (some mx')).run P w= .ok (l,hh,k) w:=by
      intro c' hc
      rcases bnd_sound (P:=P) (code:= .slice3Acap) (v':=some mx') (one hmx) (λe=>by cases e) h0 hc w with⟨e,_⟩|⟨y,e1,g1,g2⟩
      ·cases e
      ·cases e1
       rcases bnd_sound (P:=P) (code:= .slice3B) (v':=some hi') (one hhi) (λe=>by cases e) h1 (lR' k) w with⟨e,_⟩|⟨y,e1,g3,g4⟩
       ·cases e
       ·cases e1
        rcases bnd_sound (P:=P) (code:= .slice3C) hlo.2 hlo.1 h2 (lR' hh) w with⟨_,k2,k3⟩|⟨y',k2,k3,k4⟩
        ·subst k2 k3
         exact⟨g1,g3,Nat.zero_le _,by simp[Instr.sliceBounds,g2,g4]⟩
        ·subst k2
         exact⟨g1,g3,k3,by simp[Instr.sliceBounds,g2,g4,k4]⟩
     split at h
     ·rename_i sz hs
      simp only[sI] at h
      subst h
      cases hx with
      |nilSlice=>
       obtain⟨g1,g2,g3,hb⟩:=bounds 0 (lR' 0)
       obtain rfl:k=0:=by omega
       obtain rfl:hh=0:=by omega
       obtain rfl:l=0:=by omega
       exact⟨_, .nilSlice,by simp[Instr.slice,und_run hu,hb,sz_run hs]⟩
     ·rename_i sz b o hs
      simp only[sI] at h
      subst h
      cases hx with
      |slice hρ hc hn=>
       rename_i b' off sl c'
       obtain⟨g1,g2,g3,hb⟩:=bounds c' (by omega)
       by_cases hl:k=l
       ·subst hl
        refine⟨.slice (some ⟨b',off+o,none⟩) (hh-k) (k-k),?_,?_⟩
        ·rw[if_pos rfl]
         exact .slice hρ (.inl rfl) (by omega)
        ·simp[Instr.slice,und_run hu,hb,sz_run hs]
       ·refine⟨.slice (some ⟨b',off+(o+l*sz),none⟩) (hh-l) (k-l),?_,?_⟩
        ·rw[if_neg hl]
         exact .slice hρ (.inl rfl) (by omega)
        ·simp[Instr.slice,und_run hu,hb,sz_run hs,addr_add,hl,Nat.add_assoc]
     ·cases h
 ·cases h
theorem slice3_sound{o':Oper}{t:TypeId}{x hi mx:Operand}{lo:Option Operand}{v:Value}{w:World}(ho:o'.op= .slice t x lo (some hi) (some mx))(hr:∀x∈o'.op.operands.toList,VRel σ ρ (r x) (r' x))
  (h:slice3A P t (r x) (lo.map r) (r hi) (r mx)=some v):Gives σ P ρ o' r' w v:=by
 rw[ho] at hr
 have hx:=hr x (by simp[Op.operands])
 have h1:ORelV σ ρ (lo.map r) (lo.map r'):= .of λy hy=>hr y (by subst hy;simp[Op.operands])
 obtain⟨v',hv,hrun⟩:=slice3A_sound hx h1 (hr hi (by simp[Op.operands])) (hr mx (by simp[Op.operands])) h w
 exact⟨v',hv,by simp[execOp,ho,hrun]⟩
theorem slice_sound{o':Oper}{t:TypeId}{x:Operand}{lo hi:Option Operand}{v:Value}{w:World}(ho:o'.op= .slice t x lo hi none)(hr:∀x∈o'.op.operands.toList,VRel σ ρ (r x) (r' x))
  (h:sliceA P t (r x) (lo.map r) (hi.map r)=some v):Gives σ P ρ o' r' w v:=by
 rw[ho] at hr
 have hx:=hr x (by simp[Op.operands])
 have h1:ORelV σ ρ (lo.map r) (lo.map r'):= .of λy hy=>hr y (by subst hy;simp[Op.operands])
 have h2:ORelV σ ρ (hi.map r) (hi.map r'):= .of λy hy=>hr y (by subst hy;simp[Op.operands])
 obtain⟨v',hv,hrun⟩:=sliceA_sound hx h1 h2 h w
 exact⟨v',hv,by simp[execOp,ho,hrun]⟩
theorem parts_rel{parts:Array (Nat×Operand)}(h:∀p∈parts.toList,VRel σ ρ (r p.2) (r' p.2)):
  (partsOf r parts).length=(parts.map λp=>(p.1,r' p.2)).toList.length∧
  ∀(i:Nat) (p:Nat×Value),(partsOf r parts)[i]? =some p->∃v',(parts.map λp=>(p.1,r' p.2)).toList[i]? =some (p.1,v')∧VRel σ ρ p.2 v':=by
 rw[Array.toList_map]
 unfold partsOf
 refine⟨by simp,λi p hp=>?_⟩
 rw[gM'] at hp⊢
 cases hq:parts.toList[i]? with
 |none=>rw[hq] at hp;cases hp
 |some q=>
  rw[hq] at hp
  simp only[Option.map_some,sI] at hp
  subst hp
  exact⟨r' q.2,rfl,h q (List.mem_of_getElem? hq)⟩
theorem places_run(w:World):∀(l:List Field),(l.map λf=>(szOf P f.type).map λs=>(f.offset,s)).all (·.isSome)=true->
  ∃ps:List (Nat×Nat),(l.mapM λf=>Prod.mk f.offset<$>sizeOf f.type).run P w= .ok ps w∧(l.map λf=>(szOf P f.type).map λs=>(f.offset,s))=ps.map some:=by
 intro l
 induction l with
 |nil=>intro _;exact⟨[],rfl,rfl⟩
 |cons f l ih=>
  intro h
  simp only[List.map_cons,List.all_cons,bT] at h
  cases hs:szOf P f.type with
  |none=>rw[hs] at h;simp at h
  |some s=>
   obtain⟨ps,h1,h2⟩:=ih h.2
   exact⟨(f.offset,s)::ps,by simp[List.mapM_cons,sz_run hs,h1],by simp[hs,h2]⟩
theorem places_at{fs:Array Field}(w:World)(h:(structPlaces P fs).all (·.isSome)=true):
  ∃ps:List (Nat×Nat),(fs.toList.mapM λf=>Prod.mk f.offset<$>sizeOf f.type).run P w= .ok ps w∧∀(i:Nat) (p:Nat×Nat),((structPlaces P fs)[i]?).join=some p->ps.toArray[i]? =some p:=by
 obtain⟨ps,h1,h2⟩:=places_run w fs.toList h
 refine⟨ps,h1,λi p hp=>?_⟩
 have:structPlaces P fs=ps.map some:=h2
 rw[this,gM'] at hp
 cases hq:ps[i]? with
 |none=>rw[hq] at hp;cases hp
 |some q=>rw[hq] at hp;simpa [hq] using hp
theorem build_sound{o':Oper}{t:TypeId}{parts:Array (Nat×Operand)}{v:Value}{w:World}(ho:o'.op= .build t parts)(hr:∀x∈o'.op.operands.toList,VRel σ ρ (r x) (r' x))
  (h:buildA P t (partsOf r parts)=some v):Gives σ P ρ o' r' w v:=by
 rw[ho] at hr
 obtain⟨hl1,hl2⟩:=parts_rel (r:=r) (r':=r') (parts:=parts) λp hp=>hr p.2 (by simp only[Op.operands];exact List.mem_map.2 ⟨p,hp,rfl⟩)
 unfold buildA at h
 split at h
 ·rename_i z fs hz hu
  split at h
  ·rename_i hc
   simp only[bT] at hc
   obtain⟨ps,hps,hpp⟩:=places_at w hc.2
   simp only[mE] at h
   obtain⟨out,hf,rfl⟩:=h
   have hzr:=(plain_refl (σ:=σ) ρ hc.1).cells (plain_noJunk hc.1)
   obtain⟨out',ho',hf'⟩:=fill_sound (place':=(ps.toArray[·]?)) hzr (λi p hp=>hpp i p hp) hl1 hl2 hf
   refine⟨.agg out',LRel.agg (by simpa using ho'),?_⟩
   simp only[Array.toArray_toList,Array.toList_map] at hf'
   simp only[List.getElem?_toArray] at hf'
   simp[execOp,ho,Instr.build,zero_run hz,und_run hu,Array.mapM_eq_mapM_toList,hps,hf']
  ·cases h
 ·rename_i z n e hz hu
  split at h
  ·rename_i s hs
   split at h
   ·rename_i hc
    simp only[mE] at h
    obtain⟨out,hf,rfl⟩:=h
    have hzr:=(plain_refl (σ:=σ) ρ hc).cells (plain_noJunk hc)
    obtain⟨out',ho',hf'⟩:=fill_sound (place':=λi=>some (i*s,s)) hzr (λi p hp=>hp) hl1 hl2 hf
    refine⟨.agg out',LRel.agg (by simpa using ho'),?_⟩
    simp only[Array.toArray_toList,Array.toList_map] at hf'
    simp[execOp,ho,Instr.build,zero_run hz,und_run hu,sz_run hs,hf']
   ·cases h
  ·cases h
 ·cases h
end
section
variable{σ:Sig}{P:Program}{ρ:Rho}{r r':Operand->Value}
theorem resolve_builtin{o':Oper}{c:Call}{b:Builtin}{s:Sem Value}{v:Value}{w:World}(ho:o'.op= .call c)(hc:c.callee= .builtin b)
  (hb:∀cs,builtin b c.argTypes o'.type cs (c.args.map r')=(do pure (.value (<-s)))) (hs:s.run P w= .ok v w):(execOp r' o').run P w= .ok (.value v) w:=by
 simp[execOp,ho,resolve,hc,invoke,hb,hs]
theorem pure_sound{o:SOp}{o':Oper}{v:Value}(h1:o'.op=o.op)(h2:o'.type=o.type)(hc:cls o.op= .pure)(hr:∀x∈o.op.operands.toList,VRel σ ρ (r x) (r' x))(h:pureA P o r=some v)(w:World):
  Gives σ P ρ o' r' w v:=by
 rw[<-h1] at hr hc
 cases hop:o.op with
 |move x=>
  rw[hop] at h1
  simp only[pureA,hop,sI] at h
  subst h
  exact⟨r' x,hr x (by simp[h1,Op.operands]),by simp[execOp,h1]⟩
 |assign x=>
  rw[hop] at h1
  simp only[pureA,hop,sI] at h
  subst h
  exact⟨r' x,hr x (by simp[h1,Op.operands]),by simp[execOp,h1]⟩
 |pick c a b=>exact pick_sound (h1.trans hop) hr (by simp only[pureA,hop] at h;exact h)
 |nilCheck x=>exact nilCheck_sound (h1.trans hop) hr (by simp only[pureA,hop] at h;exact h)
 |unOp op t x=>exact unOp_sound (h1.trans hop) hr (by simp only[pureA,hop] at h;exact h)
 |binOp op t x y u=>exact binOp_sound (h1.trans hop) hc hr (by simp only[pureA,hop] at h;exact h)
 |makeInterface t x=>exact makeInterface_sound (h1.trans hop) hr (by simp only[pureA,hop] at h;exact h)
 |makeFunc fn fs cp=>
  simp only[pureA,hop] at h
  by_cases hme:∃nm,fn= .method nm
  ·obtain⟨nm,rfl⟩:=hme
   exact makeMeth_sound (h1.trans hop) hr h
  have hd:(∀l,fn≠ .yield l)∧(∀n,fn≠ .method n)∧v= .func fn (fs.map r) (cp.map r):=by
   cases fn<;>first|(simp at h;done)|exact absurd ⟨_,rfl⟩ hme|exact⟨λl e=>(by cases e),λl e=>(by cases e),by simpa using h.symm⟩
  exact makeFunc_sound (h1.trans hop) hr hd.1 hd.2.1 hd.2.2
 |fieldAddr s x f=>exact fieldAddr_sound (h1.trans hop) hr (by simp only[pureA,hop] at h;exact h)
 |field t x f=>exact field_sound (h1.trans hop) hr (by simp only[pureA,hop] at h;exact h)
 |index t x i=>exact index_sound (h1.trans hop) hr (by simp only[pureA,hop] at h;exact h)
 |indexAddr t x i=>exact indexAddr_sound (h1.trans hop) hr (by simp only[pureA,hop] at h;exact h)
 |build t parts=>exact build_sound (h1.trans hop) hr (by simp only[pureA,hop] at h;exact h)
 |extract x i=>exact extract_sound (h1.trans hop) hr (by simp only[pureA,hop] at h;exact h)
 |slice t x lo hi mx=>
  simp only[pureA,hop] at h
  cases mx with
  |some m=>cases hi with
   |none=>simp at h
   |some z=>exact slice3_sound (h1.trans hop) hr (by simpa using h)
  |none=>exact slice_sound (h1.trans hop) hr (by simpa using h)
 |call c=>
  rw[hop] at h1
  simp only[pureA,hop] at h
  cases hb:c.callee with
  |builtin b=>
   simp only[hb] at h
   split at h
   ·rename_i hp
    have he:c.args.map r=c.args.map r':=plain_map (ρ:=ρ) (λx hx=>hr x (by rw[h1];simpa [Op.operands,Call.operands,hb] using hx)) hp
    rw[he] at h
    cases b<;>first
     |(simp at h;done)
     |(obtain⟨hv,hrun⟩:=runV_run (σ:=σ) (ρ:=ρ) h
       exact⟨v,hv,resolve_builtin h1 hb (λcs=>rfl) (by rw[h2];exact hrun w)⟩)
   ·cases h
  |_=>simp[hb] at h
 |_=>simp[pureA,hop] at h
theorem CellsRel.list{w:World}{x:Nat×Nat×Nat}{cs:List Value}{rw_:Bool}{sz:Nat}(h:CellsRel σ ρ w x cs rw_ sz):
  ∃cs':List Value,LRel σ ρ cs cs'∧∀(i:Nat) (v:Value),cs'[i]? =some v->w.cell? ⟨x.1,x.2.1+i,none⟩=some v:=by
 obtain⟨ca,t,fz,h1,h2,h3,h4⟩:=h
 refine⟨(ca.toList.drop x.2.1).take cs.length,⟨by simp;omega,λi hi=>?_⟩,λi v hv=>?_⟩
 ·have:=h4 i hi
  rw[getD_toList] at this
  rw[gD' (l:=List.take _ _),List.getElem?_take_of_lt hi,List.getElem?_drop,<-gD']
  exact this
 ·rw[List.getElem?_take] at hv
  split at hv
  ·rw[List.getElem?_drop] at hv
   simp only[World.cell?,h1]
   simpa using hv
  ·cases hv
theorem loadCells_run{a:Addr}{w:World}:∀(l:List Value) (i:Nat) (acc:Array Value),(∀(j:Nat) (v:Value),l[j]? =some v->w.cell? (a.add (i+j))=some v)->
  (loadCellsFrom a i l.length acc).run P w= .ok (acc++l.toArray) w:=by
 intro l
 induction l with
 |nil=>intro i acc _;simp[loadCellsFrom]
 |cons x l ih=>
  intro i acc h
  have h0:=h 0 x (by simp)
  simp only[Nat.add_zero] at h0
  simp only[List.length_cons,loadCellsFrom,Sem.run_bind]
  have hl:(load (a.add i)).run P w= .ok x w:=by simp[load,Sem.run,h0]
  rw[hl]
  simp only[Result.andThen_ok]
  rw[ih (i+1) (acc.push x) (λj v hj=>by have:=h (j+1) v (by simpa using hj);rwa[show i+(j+1)=i+1+j from by omega] at this)]
  simp
theorem sub_rel{cs cs' out:List Value}{o n:Nat}(h:LRel σ ρ cs cs')(hs:sub cs o n=some out):
  ∃out',LRel σ ρ out out'∧out'.length=n∧∀(j:Nat) (v:Value),out'[j]? =some v->cs'[o+j]? =some v:=by
 unfold sub at hs
 split at hs
 ·rename_i hb
  simp only[sI] at hs
  subst hs
  refine⟨(cs'.drop o).take n,(h.drop o).take n,by simp;have:=h.1;omega,λj v hj=>?_⟩
  rw[List.getElem?_take] at hj
  split at hj
  ·rwa[List.getElem?_drop] at hj
  ·cases hj
 ·cases hs
theorem load_sound{t:TypeId}{a a' v:Value}{m:Mem}{w:World}(hR:Rel σ ρ m w)(ha:VRel σ ρ a a')(h:loadA P t a m=some v):
  ∃v',VRel σ ρ v v'∧(Instr.loadAt t a').run P w= .ok v' w:=by
 unfold loadA at h
 split at h
 ·rename_i b o
  obtain⟨b',off,sl,hρ,rfl⟩:=ha.ptr_inv
  split at h
  ·rename_i cs rw_ sz hm
   obtain⟨cs',hl,hcell⟩:=(hR.obj b _ _ hm hρ:CellsRel σ ρ w (b',off,sl) cs.list rw_ sz).list
   split at h
   ·cases h
   ·rename_i hlay
    obtain⟨d,hu,hagg⟩:=lay_one hlay
    rw[Cells.nth_eq] at h
    obtain⟨v',h1,h2⟩:=hl.get? h
    refine⟨v',h2,?_⟩
    have hc:=hcell o v' h1
    simp only at hc
    simp[Instr.loadAt,Instr.sureAddr,loadVar,hagg,load,Sem.run,hc]
   ·rename_i n hlay
    obtain⟨hs,hagg⟩:=lay_many hlay
    split at h
    ·rename_i l hsub
     simp only[sI] at h
     subst h
     rw[Cells.sub_eq] at hsub
     obtain⟨out',ho1,ho2,ho3⟩:=sub_rel hl hsub
     refine⟨.agg out'.toArray,LRel.agg (by simpa using ho1),?_⟩
     have hrun:=loadCells_run (P:=P) (a:=⟨b',off+o,none⟩) (w:=w) out' 0 #[] (λj v hj=>by
      rw[addr_add _ rfl]
      have:=hcell (o+j) v (ho3 j v hj)
      simpa [Nat.add_assoc] using this)
     rw[ho2] at hrun
     simp[Instr.loadAt,Instr.sureAddr,loadVar,hagg,sz_run hs,loadCells,hrun]
    ·cases h
  ·cases h
 ·cases h
end
section
variable{σ:Sig}{P:Program}{ρ:Rho}{r r':Operand->Value}
theorem keyKind_inv{k:TypeId}{x:Value}{kd:TypeDesc}(h:keyKind P k x=some kd):P.underlying k=some kd∧(∀x',VRel σ ρ x x'->x'=x)∧
  ∀(e:Bool) (w:World),(Instr.checkKey e 10000 k x).run P w= .ok () w:=by
 unfold keyKind at h
 split at h
 ·rename_i q j n hu
  simp only[sI] at h;subst h
  have h:∀d e w,(Instr.checkKey e (d+1) k (.int j n)).run P w= .ok () w:=λd e w=>by simp[Instr.checkKey,und_run hu]
  exact⟨hu,λx' hx=>hx.int_inv,h 9999⟩
 ·rename_i s hu
  simp only[sI] at h;subst h
  have h:∀n e w,(Instr.checkKey e (n+1) k (.string s)).run P w= .ok () w:=λn e w=>by simp[Instr.checkKey,und_run hu]
  exact⟨hu,λx' hx=>hx.string_inv,h 9999⟩
 ·rename_i b hu
  simp only[sI] at h;subst h
  have h:∀n e w,(Instr.checkKey e (n+1) k (.bool b)).run P w= .ok () w:=λn e w=>by simp[Instr.checkKey,und_run hu]
  exact⟨hu,λx' hx=>hx.bool_inv,h 9999⟩
 ·cases h
theorem sameNow_rel{kd:TypeDesc}{x y y':Value}{b:Bool}(hy:VRel σ ρ y y')(h:Instr.sameNow kd x y=some b):Instr.sameNow kd x y'=some b:=by
 cases hy with
 |int=>exact h
 |string=>exact h
 |bool=>exact h
 |_=>cases kd<;>cases x<;>simp[Instr.sameNow] at h
def ERel(σ:Sig)(ρ:Rho)(es:List (Value×Value))(es':List MapEntry):Prop:=
 es.length=es'.length∧∀(i:Nat) (e:Value×Value),es[i]? =some e->∃e':MapEntry,es'[i]? =some e'∧VRel σ ρ e.1 e'.key∧VRel σ ρ e.2 e'.val
theorem ERel.cons_inv{e:Value×Value}{es:List (Value×Value)}{es':List MapEntry}(h:ERel σ ρ (e::es) es'):
  ∃e' l,es'=e'::l∧VRel σ ρ e.1 e'.key∧VRel σ ρ e.2 e'.val∧ERel σ ρ es l:=by
 cases es' with
 |nil=>exact absurd h.1 (by simp)
 |cons e' l=>
  obtain⟨e'',h1,h2,h3⟩:=h.2 0 e (by simp)
  simp only[List.getElem?_cons_zero,sI] at h1
  subst h1
  exact⟨e',l,rfl,h2,h3,by simpa using h.1,λi e he=>by simpa using h.2 (i+1) e (by simpa using he)⟩
theorem ERel.nil_inv{es':List MapEntry}(h:ERel σ ρ [] es'):es'=[]:=by
 cases es' with
 |nil=>rfl
 |cons=>exact absurd h.1 (by simp)
theorem ERel.cons{e:Value×Value}{e':MapEntry}{es:List (Value×Value)}{es':List MapEntry}(h1:VRel σ ρ e.1 e'.key)(h2:VRel σ ρ e.2 e'.val)(h:ERel σ ρ es es'):ERel σ ρ (e::es) (e'::es'):=
 ⟨by simp[h.1],λi x hx=>by
  cases i with
  |zero=>simp only[List.getElem?_cons_zero,sI] at hx;subst hx;exact⟨e',by simp,h1,h2⟩
  |succ i=>simpa using h.2 i x (by simpa using hx)⟩
theorem ERel.nil:ERel σ ρ [] []:=⟨rfl,λi e h=>by simp at h⟩
theorem find_sound{kd:TypeDesc}{x:Value}:∀{es:List (Value×Value)} {es':List MapEntry} {f:Option Value} (n:Nat),ERel σ ρ es es'->findA kd x es=some f->
  (f=none∧Instr.findNow kd x es' n=some none)∨(∃v v' i,f=some v∧VRel σ ρ v v'∧Instr.findNow kd x es' n=some (some (n+i,v'))∧(es'[i]?).map (·.val)=some v'):=by
 intro es
 induction es with
 |nil=>
  intro es' f n he h
  rw[he.nil_inv]
  simp only[findA,sI] at h
  subst h
  exact .inl ⟨rfl,rfl⟩
 |cons e es ih=>
  intro es' f n he h
  obtain⟨e',l,rfl,h1,h2,h3⟩:=he.cons_inv
  obtain⟨y,u⟩:=e
  simp only[findA] at h
  cases hs:Instr.sameNow kd x y with
  |none=>rw[hs] at h;cases h
  |some b=>
   rw[hs] at h
   have hs':=sameNow_rel h1 hs
   cases b with
   |true=>
    simp only[sI] at h
    subst h
    exact .inr ⟨u,e'.val,0,rfl,h2,by simp[Instr.findNow,hs'],by simp⟩
   |false=>
    rcases ih (n+1) h3 h with⟨g1,g2⟩|⟨v,v',i,g1,g2,g3,g4⟩
    ·exact .inl ⟨g1,by simp[Instr.findNow,hs',g2]⟩
    ·exact .inr ⟨v,v',i+1,g1,g2,by simp only[Instr.findNow,hs',g3];congr 3;omega,by simpa using g4⟩
theorem findKey_run{k:TypeId}{kd:TypeDesc}{x:Value}{es':List MapEntry}{f:Option (Nat×Value)}(hu:P.underlying k=some kd)(h:Instr.findNow kd x es' 0=some f)(w:World):
  (Instr.findKey k x es').run P w= .ok f w:=by
 unfold Instr.findKey
 simp[und_run hu,h]
theorem keyS_inv{k:TypeId}{x:Value}(h:keyS P k x=true):(∃fs,P.underlying k=some (.struct fs))∧(∀x',VRel σ ρ x x'->x'=x)∧
  ∀(e:Bool) (w:World),(Instr.checkKey e 10000 k x).run P w= .ok () w:=by
 unfold keyS at h
 split at h
 ·rename_i fs cs hu
  simp only[bT] at h
  obtain⟨⟨h1,h2⟩,h3⟩:=h
  refine⟨⟨_,hu⟩,λx' hx=>(plain_eq h1 hx).symm,λe w=>?_⟩
  obtain⟨u,hu1⟩:=Option.isSome_iff_exists.1 h2
  obtain⟨v,hu2⟩:=Option.isSome_iff_exists.1 h3
  cases e
  ·exact runP_run _ hu2 w
  ·exact runP_run _ hu1 w
 ·cases h
theorem findS_sound{k:TypeId}{x:Value}:∀{es:List (Value×Value)} {es':List MapEntry} {f:Option Value} (n:Nat),ERel σ ρ es es'->findS P k x es=some f->∀w:World,
  (f=none∧(Instr.findAsking k x es' n).run P w= .ok none w)∨(∃v v' i,f=some v∧VRel σ ρ v v'∧(Instr.findAsking k x es' n).run P w= .ok (some (n+i,v')) w∧(es'[i]?).map (·.val)=some v'):=by
 intro es
 induction es with
 |nil=>
  intro es' f n he h w
  rw[he.nil_inv]
  simp only[findS,sI] at h
  subst h
  exact .inl ⟨rfl,rfl⟩
 |cons e es ih=>
  intro es' f n he h w
  obtain⟨e',l,rfl,h1,h2,h3⟩:=he.cons_inv
  obtain⟨y,u⟩:=e
  simp only[findS] at h
  cases hs:sameS P k x y with
  |none=>rw[hs] at h;cases h
  |some b=>
   rw[hs] at h
   unfold sameS at hs
   split at hs
   ·rename_i hp
    obtain rfl:=plain_eq hp h1
    have hr:=runP_run _ hs w
    cases b with
    |true=>
     simp only[sI] at h
     subst h
     exact .inr ⟨u,e'.val,0,rfl,h2,by simp[Instr.findAsking,hr],by simp⟩
    |false=>
     rcases ih (n+1) h3 h w with⟨g1,g2⟩|⟨v,v',i,g1,g2,g3,g4⟩
     ·exact .inl ⟨g1,by simp[Instr.findAsking,hr,g2]⟩
     ·exact .inr ⟨v,v',i+1,g1,g2,by simp[Instr.findAsking,hr,g3];omega,by simpa using g4⟩
   ·cases hs
theorem findKeyS_run{k:TypeId}{x:Value}{fs:Array Field}{es':List MapEntry}{f:Option (Nat×Value)}(hu:P.underlying k=some (.struct fs)){w:World}(h:(Instr.findAsking k x es').run P w= .ok f w):
  (Instr.findKey k x es').run P w= .ok f w:=by
 unfold Instr.findKey
 cases es' with
 |nil=>simp[und_run hu,Instr.findNow];simpa [Instr.findAsking] using h
 |cons e l=>simp[und_run hu,Instr.findNow,Instr.sameNow,h]
theorem map_obj'{m:Mem}{w:World}(hR:Rel σ ρ m w){b:Nat}{x:Nat×Nat×Nat}{es:List (Value×Value)}{rw_:Bool}(hm:m.get b=some (.map es rw_))(hρ:ρ b=some x):
  ∃es' clock,w.heap[x.1]? =some (.map es' clock)∧ERel σ ρ es es'.toList∧MapKept.Stamped es' clock:=by
 obtain⟨es',c,h1,hst,h2,h3⟩:=(hR.obj b _ _ hm hρ:ORel σ ρ w x (.map es rw_))
 exact⟨es',c,h1,⟨by simpa using h2,λi e he=>by simpa using h3 i e he⟩,hst⟩
theorem map_obj{m:Mem}{w:World}(hR:Rel σ ρ m w){b:Nat}{x:Nat×Nat×Nat}{es:List (Value×Value)}{rw_:Bool}(hm:m.get b=some (.map es rw_))(hρ:ρ b=some x):
  ∃es' clock,w.heap[x.1]? =some (.map es' clock)∧ERel σ ρ es es'.toList:=by
 obtain⟨es',c,h1,h2,_⟩:=map_obj' hR hm hρ
 exact⟨es',c,h1,h2⟩
theorem lookup_sound{t:TypeId}{mp mp' k k' v:Value}{ok:Bool}{m:Mem}{w:World}(hR:Rel σ ρ m w)(hm:VRel σ ρ mp mp')(hk:VRel σ ρ k k')(h:lookupA P t mp k ok m=some v):
  ∃v',VRel σ ρ v v'∧(Instr.lookup t mp' k' ok).run P w= .ok v' w:=by
 unfold lookupA at h
 split at h
 ·rename_i kt et hu
  split at h
  ·rename_i kd z hkd hz
   obtain⟨hku,hkx,hck⟩:=keyKind_inv (ρ:=ρ) hkd
   obtain rfl:=hkx k' hk
   split at h
   ·rename_i hp
    have hzz:=zero_run hz w
    have key:∀(es:List (Value×Value)) (es':Array MapEntry),ERel σ ρ es es'.toList->(match findA kd k' es with|none=>none|some f=>some (if ok then .tuple #[f.getD z, .bool f.isSome] else f.getD z):Option Value)=some v->
      ∃v',VRel σ ρ v v'∧∃f,(Instr.findKey kt k' es'.toList).run P w= .ok f w∧((match f with|some (_,u)=>pure (u,true)|none=>do pure (<-zeroValue et,false):Sem (Value×Bool)).run P w).andThen (λa w=> .ok (if ok then .tuple #[a.1, .bool a.2] else a.1) w)= .ok v' w:=by
     intro es es' he hf
     cases hff:findA kd k' es with
     |none=>rw[hff] at hf;cases hf
     |some f=>
      rw[hff] at hf
      simp only[sI] at hf
      subst hf
      rcases find_sound 0 he hff with⟨g1,g2⟩|⟨u,u',i,g1,g2,g3,_⟩
      ·subst g1
       refine⟨if ok then .tuple #[z, .bool false] else z,?_,none,findKey_run hku g2 w,by simp[hzz]⟩
       cases ok
       ·exact plain_refl (σ:=σ) ρ hp
       ·exact LRel.tuple (LRel.cons (plain_refl (σ:=σ) ρ hp) (LRel.cons (.bool _) (LRel.nil ρ)))
      ·subst g1
       refine⟨if ok then .tuple #[u', .bool true] else u',?_,some (0+i,u'),findKey_run hku g3 w,by simp⟩
       cases ok
       ·exact g2
       ·exact LRel.tuple (LRel.cons g2 (LRel.cons (.bool _) (LRel.nil ρ)))
    cases mp with
    |map q=>
     cases q with
     |none=>
      simp only at h
      obtain⟨v',hv,f,g1,g2⟩:=key [] #[] (by simpa using ERel.nil) h
      cases hm
      refine⟨v',hv,?_⟩
      simp only at g1
      simp[Instr.lookup,und_run hu,hck,g1]
      cases f with
      |none=>simpa [hzz] using g2
      |some p=>simpa using g2
     |some b=>
      cases hm with
      |map hρ=>
       cases hmb:m.get b with
       |none=>simp[hmb] at h
       |some ob=>
        cases ob with
        |map es rw_=>
         simp only[hmb] at h
         obtain⟨es',clock,g0,he⟩:=map_obj hR hmb hρ
         obtain⟨v',hv,f,g1,g2⟩:=key es es' he h
         refine⟨v',hv,?_⟩
         simp only at g0
         have hget:∀b',w.heap[b']? =some (Obj.map es' clock)->(getObj b').run P w= .ok (.map es' clock) w:=λb' hb=>by simp[getObj,Sem.run,hb]
         simp[Instr.lookup,und_run hu,hget _ g0,hck,g1]
         cases f with
         |none=>simpa [hzz] using g2
         |some p=>simpa using g2
        |_=>simp[hmb] at h
    |_=>simp at h
   ·cases h
  ·rename_i z hkd hz
   split at h
   ·rename_i hpk
    simp only[bT] at hpk
    obtain⟨hp,hks⟩:=hpk
    obtain⟨⟨fs,hku⟩,hkx,hck⟩:=keyS_inv (ρ:=ρ) hks
    obtain rfl:=hkx k' hk
    have hzz:=zero_run hz w
    have key:∀(es:List (Value×Value)) (es':Array MapEntry),ERel σ ρ es es'.toList->(match findS P kt k' es with|none=>none|some f=>some (if ok then .tuple #[f.getD z, .bool f.isSome] else f.getD z):Option Value)=some v->
      ∃v',VRel σ ρ v v'∧∃f,(Instr.findKey kt k' es'.toList).run P w= .ok f w∧((match f with|some (_,u)=>pure (u,true)|none=>do pure (<-zeroValue et,false):Sem (Value×Bool)).run P w).andThen (λa w=> .ok (if ok then .tuple #[a.1, .bool a.2] else a.1) w)= .ok v' w:=by
     intro es es' he hf
     cases hff:findS P kt k' es with
     |none=>rw[hff] at hf;cases hf
     |some f=>
      rw[hff] at hf
      simp only[sI] at hf
      subst hf
      rcases findS_sound 0 he hff w with⟨g1,g2⟩|⟨u,u',i,g1,g2,g3,_⟩
      ·subst g1
       refine⟨if ok then .tuple #[z, .bool false] else z,?_,none,findKeyS_run hku g2,by simp[hzz]⟩
       cases ok
       ·exact plain_refl (σ:=σ) ρ hp
       ·exact LRel.tuple (LRel.cons (plain_refl (σ:=σ) ρ hp) (LRel.cons (.bool _) (LRel.nil ρ)))
      ·subst g1
       refine⟨if ok then .tuple #[u', .bool true] else u',?_,some (0+i,u'),findKeyS_run hku g3,by simp⟩
       cases ok
       ·exact g2
       ·exact LRel.tuple (LRel.cons g2 (LRel.cons (.bool _) (LRel.nil ρ)))
    cases mp with
    |map q=>
     cases q with
     |none=>
      simp only at h
      obtain⟨v',hv,f,g1,g2⟩:=key [] #[] (by simpa using ERel.nil) h
      cases hm
      refine⟨v',hv,?_⟩
      simp only at g1
      simp[Instr.lookup,und_run hu,hck,g1]
      cases f with
      |none=>simpa [hzz] using g2
      |some p=>simpa using g2
     |some b=>
      cases hm with
      |map hρ=>
       cases hmb:m.get b with
       |none=>simp[hmb] at h
       |some ob=>
        cases ob with
        |map es rw_=>
         simp only[hmb] at h
         obtain⟨es',clock,g0,he⟩:=map_obj hR hmb hρ
         obtain⟨v',hv,f,g1,g2⟩:=key es es' he h
         refine⟨v',hv,?_⟩
         simp only at g0
         have hget:∀b',w.heap[b']? =some (Obj.map es' clock)->(getObj b').run P w= .ok (.map es' clock) w:=λb' hb=>by simp[getObj,Sem.run,hb]
         simp[Instr.lookup,und_run hu,hget _ g0,hck,g1]
         cases f with
         |none=>simpa [hzz] using g2
         |some p=>simpa using g2
        |_=>simp[hmb] at h
    |_=>simp at h
   ·cases h
  ·cases h
 ·cases h
theorem len_sound{t:TypeId}{x x' v:Value}{m:Mem}{w:World}{at_:Array TypeId}{ty:TypeId}(hat:at_[0]? =some t)(hR:Rel σ ρ m w)(hx:VRel σ ρ x x')(h:lenA P t x m=some v)(rest:Array Value)(hr:rest[0]? =some x'):
  VRel σ ρ v v∧(Builtin.len_ at_ ty rest).run P w= .ok v w:=by
 unfold lenA at h
 split at h
 ·rename_i s hu
  simp only[sI] at h;subst h
  obtain rfl:=hx.string_inv
  exact⟨.int _ _,by simp[Builtin.len_,hat,hr,und_run hu,goInt]⟩
 ·rename_i n e hu
  simp only[sI] at h;subst h
  exact⟨.int _ _,by simp[Builtin.len_,hat,hr,und_run hu,goInt]⟩
 ·rename_i e a n c hu
  simp only[sI] at h;subst h
  have:∃a' c',x'= .slice a' n c':=by cases hx<;>exact⟨_,_,rfl⟩
  obtain⟨a',c',rfl⟩:=this
  exact⟨.int _ _,by simp[Builtin.len_,hat,hr,und_run hu,goInt]⟩
 ·rename_i k e hu
  simp only[sI] at h;subst h
  cases hx
  exact⟨.int _ _,by simp[Builtin.len_,hat,hr,und_run hu,goInt]⟩
 ·rename_i k e b hu
  split at h
  ·rename_i es rw_ hm
   simp only[sI] at h;subst h
   cases hx with
   |map hρ=>
    obtain⟨es',clock,g0,he⟩:=map_obj hR hm hρ
    simp only at g0
    refine⟨.int _ _,?_⟩
    have hsz:es'.size=es.length:=by simpa using he.1.symm
    simp[Builtin.len_,hat,hr,und_run hu,goInt,getObj,Sem.run,g0,hsz]
  ·cases h
 ·cases h
end
end Go.Ab
