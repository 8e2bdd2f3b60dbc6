/- Part. -/
import Derived.Test.YtdhcheegbnnlbaaGreatDoorA04
import Derived.LoopNIn
set_option linter.all false
open Go.Ab.Mem renaming get_put → gP
open List renaming getD_eq_getElem?_getD → gD', getElem?_eq_getElem → gE'
open Option.some renaming injEq → sI
open Prod.mk renaming injEq → pI
open Nat renaming le_refl → lR', le_trans → lT
open Option renaming map_eq_some_iff → mE
open Bool renaming and_eq_true → bT
namespace Go.Ab
section
variable{σ:Sig}
variable{P:Program}
def InSc(F:Fence)(n:Nat)(P:Program)(c r:Code)(Q:Exit->Act->World->Prop)(a:Act)(w:World):Prop:=
 ∀(b:Frame) (k:List Item) (cs:List Frame),b.roundOf=F.round->F.fn b.fn->F.room (cs.length+1+n)->
  ∃e a' w',Q e a' w'∧ArrivesIn (Machine.fenced P F) P (lone (b.atR a (.code r:: .inScope c::k)) cs w) b k cs e a' w'
theorem inSc_of{F:Fence}{n:Nat}{Q Q1:Exit->Act->World->Prop}{a:Act}{w:World}{c r:Code}(h:r.wpIn F n P Q1 a w)(hok:∀e a w,Q1 e a w->okX e=true)
  (hg:∀l rest a1 w1,Q1 (.goto l) a1 w1->findLabel c l=some rest->InSc F n P c rest Q a1 w1)
  (hq:∀e a1 w1,Q1 e a1 w1->(∀l,e= .goto l->findLabel c l=none)->Q e a1 w1):InSc F n P c r Q a w:=by
 intro b k cs hro hb hr
 obtain⟨e,a₁,w₁,hQ,harr⟩:=h b (.inScope c::k) cs hro hb hr
 have hx:=hok _ _ _ hQ
 cases e with
 |normal=>
  exact⟨.normal,a₁,w₁,hq _ _ _ hQ (λl e=>by cases e),StepsIn.trans harr (.one (fenced_calm hb hr rfl) (step_lone_go (by simp[stepG,stepG.exec,Frame.atR])))⟩
 |exit id=>
  have hx:∀k,exitTo id (.inScope c::k)=exitTo id k:=λk=>by simp[exitTo]
  exact⟨.exit id,a₁,w₁,hq _ _ _ hQ (λl e=>by cases e),λk' hk=>harr.1 k' (by rw[hx];exact hk),
   λhr' hk=>harr.2 hr' (by rw[hx];exact hk)⟩
 |ret=>exact⟨_,a₁,w₁,hq _ _ _ hQ (λl e=>by cases e),harr⟩
 |goto l=>
  cases hf:findLabel c l with
  |some rest=>
   have hgo:gotoIn l (.inScope c::k)=some (.code rest:: .inScope c::k):=by simp[gotoIn,hf]
   obtain⟨e2,a₂,w₂,hQ2,harr2⟩:=hg l rest a₁ w₁ hQ hf b k cs hro hb hr
   exact⟨e2,a₂,w₂,hQ2, .of_steps (harr.1 _ hgo) harr2⟩
  |none=>
   have hgo:gotoIn l (.inScope c::k)=gotoIn l k:=by simp[gotoIn,hf]
   exact⟨.goto l,a₁,w₁,hq _ _ _ hQ (λl' e=>by cases e;exact hf),λk' hk=>harr.1 k' (by rw[hgo];exact hk),
    λhr' hk=>harr.2 hr' (by rw[hgo];exact hk)⟩
 |panic ch=>cases hx
 |outgrown=>cases hx
theorem InSc.mono{F:Fence}{n:Nat}{Q Q':Exit->Act->World->Prop}{a:Act}{w:World}{c r:Code}(h:InSc F n P c r Q a w)(hq:∀e a w,Q e a w->Q' e a w):InSc F n P c r Q' a w:=
 λb k cs h1 h2 h3=>let⟨e,a',w',g1,g2⟩:=h b k cs h1 h2 h3;⟨e,a',w',hq _ _ _ g1,g2⟩
theorem wpIn_scope{F:Fence}{n:Nat}{Q:Exit->Act->World->Prop}{a:Act}{w:World}{c:Code}(h:InSc F n P c c Q a w):(Code.scope c).wpIn F n P Q a w:=by
 intro b k cs hro hb hr
 have h0:(lone (b.atR a (.code (.scope c)::k)) cs w).fenced P F:=fenced_calm hb hr rfl
 have s0:Go.step P (lone (b.atR a (.code (.scope c)::k)) cs w)= .next (lone (b.atR a (.code c:: .inScope c::k)) cs w):=step_lone_go (by simp[stepG,stepG.exec,Frame.atR])
 obtain⟨e,a₁,w₁,hQ,harr⟩:=h b k cs hro hb hr
 exact⟨e,a₁,w₁,hQ, .of_steps (.one h0 s0) harr⟩
theorem roundsIn_mono{F:Fence}{n:Nat}{c:Code}{Q Q':Exit->Act->World->Prop}(hq:∀e a w,Q e a w->Q' e a w):∀(m:Nat) {a:Act} {w:World},Code.roundsIn F n P c Q m a w->Code.roundsIn F n P c Q' m a w
 |0,_,_,h=>h.elim
 |m+1,a,w,h=>by
  rw[roundsIn_succ] at h⊢
  refine wpIn_mono h λe a w hh=>?_
  cases e with
  |normal=>exact roundsIn_mono hq m hh
  |_=>exact hq _ _ _ hh
def wpx(N:Nat)(F:Fence)(P:Program)(k:Code)(Q:Exit->Act->World->Prop)(a:Act)(w:World):Prop:=match k with
 | .loop c=>c.roundsIn F 0 P Q N a w
 |k=>k.wpIn F 0 P Q a w
theorem wpx_wp{N:Nat}{F:Fence}{k:Code}{Q:Exit->Act->World->Prop}{a:Act}{w:World}(h:wpx N F P k Q a w):k.wpIn F 0 P Q a w:=by
 cases k<;>first|exact h|skip
 exact wpIn_loop_rounds N h
def CodeOk2(σ:Sig)(P:Program)(rd:Option Nat)(c:SCode)(t:List Value)(m:Mem)(x:Exit)(t':List Value)(m':Mem):Prop:=
 ∃N,∀(k:Code) ρ w (a:Act) l lo,comp k=some c->Rel σ ρ m w->LRel σ ρ t a.tmps.toList->Marks lo w a.defers->lo<=w.heap.size->RdRel ρ rd l->
  wpx N (Fr l) P k (CPost σ ρ m w lo x t' m') a w
structure SelfOk2(σ:Sig)(P:Program)(slf:Self):Prop extends SelfOk σ P slf where
 code2:∀rd c t m x t' m',slf (.code rd c t) m=some (.exit x t',m')->CodeOk2 σ P rd c t m x t' m'
def AgainOk(σ:Sig)(P:Program)(rd:Option Nat)(b r:SCode)(t:List Value)(m:Mem)(x:Exit)(t':List Value)(m':Mem):Prop:=
 ∀(kb kr:Code) ρ w (a:Act) l lo,comp kb=some b->comp kr=some r->Rel σ ρ m w->LRel σ ρ t a.tmps.toList->Marks lo w a.defers->lo<=w.heap.size->RdRel ρ rd l->
  InSc (Fr l) 0 P kb kr (CPost σ ρ m w lo x t' m') a w
structure SelfOk3(σ:Sig)(P:Program)(slf:Self):Prop extends SelfOk2 σ P slf where
 again:∀rd b r t m x t' m',slf (.code rd (.again b r) t) m=some (.exit x t',m')->AgainOk σ P rd b r t m x t' m'
theorem CodeOk2.one{rd:Option Nat}{c:SCode}{t:List Value}{m:Mem}{x:Exit}{t':List Value}{m':Mem}(h:CodeOk2 σ P rd c t m x t' m'):CodeOk σ P rd c t m x t' m':=by
 obtain⟨N,h⟩:=h
 exact λk ρ w a l lo h1 h2 h3 h4 h5 h6=>wpx_wp (h k ρ w a l lo h1 h2 h3 h4 h5 h6)
theorem CPost.trans{ρ ρ1:Rho}{m m1 m':Mem}{w w1 w':World}{lo:Nat}{x e:Exit}{t':List Value}{a':Act}(hp:Post σ ρ m w ρ1 m1 w1)(ho:Old m.next ρ ρ1)(h:CPost σ ρ1 m1 w1 lo x t' m' e a' w'):
  CPost σ ρ m w lo x t' m' e a' w':=by
 obtain⟨h1,h2,ρ',h3,h4,h5,h6⟩:=h
 exact⟨h1,h2,ρ',h3,h4,hp.trans h5,ho.trans h6 hp.next⟩
theorem CPost.here{ρ:Rho}{m:Mem}{w:World}{lo:Nat}{x:Exit}{t:List Value}{a:Act}(hx:okX x=true)(hR:Rel σ ρ m w)(ht:LRel σ ρ t a.tmps.toList)(hm:Marks lo w a.defers):CPost σ ρ m w lo x t m x a w:=
 ⟨rfl,hx,ρ,ht,hm,Post.refl hR,Old.refl _ _⟩
def resOne(tmps:Array Value)(r:ResultVar):Sem Value:=match r with
 | .tmp t=>pure (tmps.getD t undef)
 | .cell a t=>do loadVar t (<-asAddr (tmps.getD a undef))
theorem results_eq(fn:Func)(tmps:Array Value):results fn tmps=(do
  let vs<-fn.results.mapM (resOne tmps)
  pure (if h:vs.size=1 then vs[0] else .tuple vs)):=by
 unfold results
 congr 1
theorem results_ok{ρ:Rho}{m:Mem}{w:World}(hR:Rel σ ρ m w){t:List Value}{tmps:Array Value}(ht:LRel σ ρ t tmps.toList){fn:Func}{vs:List Value}(h:resA P t m fn.results.toList=some vs):
  ∃v',(results fn tmps).run P w= .ok v' w∧VRel σ ρ (oneOr vs) v':=by
 have key:∀(rs:List ResultVar) (vs:List Value),resA P t m rs=some vs->∃vs':List Value,LRel σ ρ vs vs'∧
   (rs.mapM (resOne tmps)).run P w= .ok vs' w:=by
  intro rs
  induction rs with
  |nil=>intro vs h;simp only[resA,sI] at h;subst h;exact⟨[],LRel.nil ρ,by simp⟩
  |cons r rs ih=>
   intro vs h
   have ht':∀k,VRel σ ρ (t.getD k undef) (tmps.getD k undef):=λk=>by rw[getD_toList];exact ht.at_ k
   cases r with
   |tmp k=>
    simp only[resA] at h
    split at h
    ·rename_i us hus
     simp only[sI] at h
     subst h
     obtain⟨vs',g1,g2⟩:=ih _ hus
     exact⟨_,LRel.cons (ht' k) g1,by simp only[List.mapM_cons,resOne,Sem.run_bind,Sem.run_pure,g2,Result.andThen]⟩
    ·cases h
   |cell k ty=>
    simp only[resA] at h
    split at h
    ·rename_i v us hv hus
     simp only[sI] at h
     subst h
     obtain⟨vs',g1,g2⟩:=ih _ hus
     obtain⟨v',g3,g4⟩:=load_sound (P:=P) hR (ht' k) hv
     refine⟨_,LRel.cons g3 g1,?_⟩
     have:(do loadVar ty (<-asAddr (tmps.getD k undef)):Sem Value).run P w= .ok v' w:=by
      have hk:=ht' k
      unfold loadA at hv
      split at hv
      ·rename_i b o e
       rw[e] at hk
       obtain⟨b',off,sl,_,e2⟩:=hk.ptr_inv
       rw[e2] at g4⊢
       simpa [Instr.loadAt,Instr.sureAddr,asAddr] using g4
      ·cases hv
     have this2:(resOne tmps (.cell k ty)).run P w= .ok v' w:=this
     simp only[List.mapM_cons,Sem.run_bind]
     rw[this2]
     simp only[g2,Result.andThen,Sem.run_pure]
    ·cases h
 obtain⟨vs',g1,g2⟩:=key _ _ h
 refine⟨if h:vs'.toArray.size=1 then vs'.toArray[0] else .tuple vs'.toArray,?_,?_⟩
 ·rw[results_eq,Array.mapM_eq_mapM_toList]
  simp only[Sem.run_bind,map_eq_pure_bind,g2,Result.andThen,Sem.run_pure]
 ·cases vs with
  |nil=>cases vs' with
   |nil=>exact LRel.tuple (LRel.nil ρ)
   |cons=>exact absurd g1.1 (by simp)
  |cons v vs=>cases vs' with
   |nil=>exact absurd g1.1 (by simp)
   |cons v' vs'=>
    cases vs with
    |nil=>cases vs' with
     |nil=>simpa [oneOr] using g1.head
     |cons=>exact absurd g1.1 (by simp)
    |cons u vs=>cases vs' with
     |nil=>exact absurd g1.1 (by simp)
     |cons u' vs'=>simpa [oneOr] using LRel.tuple (cs:=(v::u::vs).toArray) (cs':=(v'::u'::vs').toArray) g1
theorem Post.shut{ρ ρ':Rho}{m m':Mem}{w w':World}(h:Post σ ρ m w ρ' m' w'){r:Nat}(hr:w'.heap[r]? =some (.deferred (some [])))(hlo:w.heap.size<=r):Post σ ρ m w ρ' m' (w'.putObj r (.deferred none)):=by
 have hfar:∀k,k≠r->(w'.putObj r (.deferred none)).heap[k]? =w'.heap[k]? :=λk hk=>World.putObj_heap_other hk
 refine⟨⟨h.rel.dom,h.rel.glob,λb o x hb hx=>?_,h.rel.inj,h.rel.fresh⟩,h.ext,h.next,by simpa using h.size,h.os,h.tape,h.output,λk hk hf=>?_,h.img⟩
 ·have:=h.rel.obj b o x hb hx
  exact this.keep (Ext.refl _) (hfar _ λe=>this.not_deferred (e▸hr))
 ·rw[hfar k (by omega)]
  exact h.frame k hk hf
theorem leaves_ok{ρ ρ':Rho}{m m':Mem}{w:World}{fn:Func}{tmps:Array Value}{t vs:List Value}(ht:LRel σ ρ' t tmps.toList)(hold:Old m.next ρ ρ')(h:resA P t m' fn.results.toList=some vs):
  ∀(ds:List Deferred) (w':World),Marks w.heap.size w' ds->Post σ ρ m w ρ' m' w'->LeavesInM Fence.wide 0 P fn tmps (Ret σ ρ m w (oneOr vs) m') ds .returning w'
 |[],w',_,hp=>by
  obtain⟨v',g1,g2⟩:=results_ok hp.rel ht h
  exact⟨v',g1,v',ρ',rfl,g2,hp,hold⟩
 |d::ds,w',hm,hp=>by
  obtain⟨⟨r,h1,h2,h3,h4⟩,h5⟩:=hm
  refine⟨by simp, .inl ⟨r,_,h1,run_takeDeferred h3,?_⟩⟩
  refine leaves_ok ht hold h ds _ ?_ (hp.shut h3 h2)
  have:∀(l:List Deferred),(∀d'∈l,d'.target≠ .collected r)->Marks w.heap.size w' l->Marks w.heap.size (w'.putObj r (.deferred none)) l:=by
   intro l
   induction l with
   |nil=>exact λ_ _=>trivial
   |cons d' l ih=>
    rintro hne ⟨⟨r',k1,k2,k3,k4⟩,k5⟩
    have hrr:r'≠r:=λe=>hne d' (by simp) (e▸k1)
    exact⟨⟨r',k1,k2,(World.putObj_heap_other hrr).trans k3,k4⟩,ih (λd'' hd=>hne d'' (by simp[hd])) k5⟩
  exact this ds h4 h5
theorem call_ok{E:Env}{self:Self}(hE:E.P=P)(hs:SelfOk σ P self)(hprim:∀f p args m v m',E.prim f=some p->p args m=some (v,m')->CallOk σ P f args m v m'){f:FuncId}{args:List Value}{m m':Mem}{v:Value}
  (h:step E self (.call f args) m=some (.val v,m')):CallOk σ P f args m v m':=by
 subst hE
 simp only[step] at h
 split at h
 ·rename_i p hp
  split at h
  ·rename_i u m2 hu
   simp only[sI,pI,Out.val.injEq] at h
   obtain⟨rfl,rfl⟩:=h
   exact hprim _ _ _ _ _ _ hp hu
  ·cases h
 ·split at h
  ·cases h
  ·rename_i s hf
   split at h
   ·rename_i x t' m2 hb
    have key:(x= .normal∨x= .ret)∧∃vs,resA E.P t' m2 s.results=some vs∧oneOr vs=v∧m2=m':=by
     cases hr:resA E.P t' m2 s.results with
     |none=>rw[hr] at h;cases x<;>simp at h
     |some vs=>rw[hr] at h;cases x<;>simp at h<;>simp[h]
    obtain⟨hx,vs,hvs,rfl,rfl⟩:=key
    clear h
    unfold fnOf at hf
    split at hf
    ·rename_i fn hfn
     split at hf
     ·rename_i c hc
      split at hf
      ·rename_i sc hsc
       simp only[sI] at hf
       subst hf
       intro ρ w args' hR hargs
       refine callsIn_of_wp_marks hfn hc trivial ?_ rfl
       have hlen:args.length=args'.size:=by simpa using hargs.1
       refine wpIn_mono (hs.code _ _ _ _ _ _ _ hb c ρ w _ none w.heap.size hsc hR ?_ trivial (lR' _) trivial) ?_
       ·simp only[Array.toList_append,Array.toList_replicate]
        refine hargs.append ?_
        rw[hlen]
        exact LRel.replicate ρ (VRel.undef ρ) _
       ·rintro e a' w' ⟨rfl,hok,ρ',g1,g2,g3,g4⟩
        rcases hx with rfl|rfl
        ·exact leaves_ok g1 g4 hvs _ _ g2 g3
        ·exact leaves_ok g1 g4 hvs _ _ g2 g3
      ·cases hf
     ·cases hf
    ·cases hf
   ·cases h
theorem setAll_rel{ρ:Rho}:∀(ps:List Tmp) (as as':List Value) (t:List Value) (t':Array Value),LRel σ ρ as as'->LRel σ ρ t t'.toList->
  LRel σ ρ (setAll ps as t) ((ps.zip as').foldl (λtmps (p:Tmp×Value)=>tmps.setIfInBounds p.1 p.2) t').toList
 |[],as,as',t,t',_,ht=>by simpa [setAll] using ht
 |p::ps,[],as',t,t',ha,ht=>by
  cases as' with
  |nil=>simpa [setAll] using ht
  |cons=>exact absurd ha.1 (by simp)
 |p::ps,a::as,as',t,t',ha,ht=>by
  cases as' with
  |nil=>exact absurd ha.1 (by simp)
  |cons a' as'=>
   simp only[setAll,List.zip_cons_cons,List.foldl_cons]
   refine setAll_rel ps as as' _ _ ha.tail ?_
   rw[Array.toList_setIfInBounds]
   exact ht.set ha.head p
theorem round_ok{E:Env}{self:Self}(hs:SelfOk σ P self){l:Nat}{args:List Value}{m m':Mem}{v:Value}
  (h:step E self (.round l args) m=some (.val v,m')):RoundOk σ P l args m v m':=by
 intro ρ w args' l' off sl hR hl hargs
 simp only[step] at h
 split at h
 ·rename_i r hr
  split at h
  ·rename_i hrs
   obtain⟨hps,hst⟩:=hrs
   obtain⟨r',k1,k2,k3,k4,k5,k6,k7⟩:=hR.obj l _ _ hr hl
   have hsize:args'.size=r'.params.size:=by
    have h1:=hargs.1
    have h2:r'.params.toList.length=r.ps.length:=by rw[k5]
    simp at h1 h2
    omega
   refine⟨_,_,_,_,run_yield k1 hsize,?_⟩
   split at h
   ·rename_i t1 m1 hasg
    split at h
    ·rename_i r1 hr1
     split at h
     ·rename_i hready
      refine roundIn_of_wpIn trivial ?_
      have ht0:LRel σ ρ (setAll r.ps args r.tmps) ((r'.params.zip args').foldl (λtmps (p:Tmp×Value)=>tmps.setIfInBounds p.1 p.2) r'.tmps).toList:=by
       rw[<-Array.foldl_toList,Array.toList_zip,k5]
       exact setAll_rel _ _ _ _ _ hargs k4
      have hwp:=hs.code _ _ _ _ _ _ _ hasg r'.assign ρ w {tmps:=_,defers:=[]} (some l') w.heap.size k6 hR ht0 trivial (lR' _) ⟨off,sl,hl⟩
      refine wpIn_mono hwp ?_
      rintro e a1 w1 ⟨rfl,_,ρ1,g1,g2,g3,g4⟩
      have hl1:=g3.ext _ _ hl
      obtain⟨r1',q1,q2,q3,q4,q5,q6,q7⟩:=g3.rel.obj l _ _ hr1 hl1
      refine⟨_,run_beginRound q1 (q2.trans hready),?_⟩
      have hp1:=Post.turn g3.rel hr1 hl1 rfl (putObj_turned (o':= .loop {r1' with state:= .busy}) q1) (ob':= .loop {r1 with state:= .busy}) ⟨_,(putObj_turned q1).at_,rfl,q3,q4,q5,q6,q7⟩
      have hpp:=g3.trans hp1
      split at h
      ·rename_i x t3 m3 hbody
       split at h
       ·rename_i r3 hr3
        have hlo:w.heap.size<=(w1.putObj l' (.loop {r1' with state:= .busy})).heap.size:=hpp.size
        refine wpIn_mono (hs.code _ _ _ _ _ _ _ hbody r'.body ρ1 _ a1 (some l') w.heap.size k7 hpp.rel g1 (g2.post g3.rel hp1) hlo ⟨off,sl,hl1⟩) ?_
        rintro e a3 w3 ⟨rfl,hokx,ρ3,j1,j2,j3,j4⟩
        have hl3:=j3.ext _ _ hl1
        obtain⟨r3',i1,i2,i3,i4,i5,i6,i7⟩:=j3.rel.obj l _ _ hr3 hl3
        have old:Old m.next ρ ρ3:=g4.trans j4 hpp.next
        have fin:∀(jump:Option Code) (jp:Option Exit) (st:LoopState) (b:Bool),st=(if jump.isNone then .ready else .done)->b=jump.isNone->PendRel jp jump->
          some (Out.val (.bool b),m3.put l (.loop {r3 with state:=st,pend:=jp}))=some (Out.val v,m')->
          ∃v0 w',(Instr.endRound l' jump).run P w3= .ok v0 w'∧Ret σ ρ m w v m' (.returned v0) w':=by
         intro jump jp st b hst hb hj heq
         simp only[sI,pI,Out.val.injEq] at heq
         obtain⟨rfl,rfl⟩:=heq
         subst hb hst
         refine⟨_,_,run_endRound jump i1,_,ρ3,rfl, .bool _,?_,old⟩
         refine(hpp.trans j3).trans (Post.turn j3.rel hr3 hl3 rfl (putObj_turned i1) ⟨_,(putObj_turned i1).at_,rfl,hj,i4,i5,i6,i7⟩)
        split at h
        ·exact fin none none _ _ rfl rfl trivial h
        ·exact fin (some .ret) (some .ret) _ _ rfl rfl trivial h
        ·exact fin (some (.exit _)) (some (.exit _)) _ _ rfl rfl rfl h
        ·cases h
       ·cases h
      ·cases h
     ·cases h
    ·cases h
   ·cases h
  ·cases h
 ·cases h
theorem Post.far{ρ:Rho}{m:Mem}{w:World}(hR:Rel σ ρ m w)(co:Obj):Post σ ρ m w ρ m (w.alloc co):=by
 have hold:∀k,k<w.heap.size->(w.alloc co).heap[k]? =w.heap[k]? :=λk hk=>by
  show(w.heap.push co)[k]? =_
  rw[Array.getElem?_push,if_neg (by omega)]
 refine⟨⟨hR.dom,hR.glob,λb o x hb hx=>?_,hR.inj,hR.fresh⟩,Ext.refl _,lR' _,by simp,rfl,rfl,rfl,λk hk _=>hold k hk,λb o x hb hx _=>⟨b,o,x,hb,hx,rfl,id⟩⟩
 have:=hR.obj b o x hb hx
 exact this.keep (Ext.refl _) (hold _ this.lt)
theorem enter_ok{ρ:Rho}{m:Mem}{w:World}{lo:Nat}{a:Act}{t:List Value}{rd l:Option Nat}(fn:FuncId){ps:Array Tmp}{asg body:Code}{sa sb:SCode}(hR:Rel σ ρ m w)(ht:LRel σ ρ t a.tmps.toList)(hm:Marks lo w a.defers)(hlo:lo<=w.heap.size)
  (hloop:(match rd with|none=>true|some l0=>isLoop (m.get l0))=true) (hrd:RdRel ρ rd l) (h1:comp asg=some sa) (h2:comp body=some sb):
  ∃l' mark w1 ρ1,(Instr.enterLoop fn a.tmps ps asg body l).run P w= .ok (l',mark) w1∧ρ1 m.next=some (l',0,0)∧Old m.next ρ ρ1∧
   Post σ ρ m w ρ1 ((m.bump 1).put m.next (.loop {state:= .ready,pend:=none,tmps:=t,ps:=ps.toList,assign:=sa,body:=sb})) w1∧Marks lo w1 (mark++a.defers):=by
 have hid:ρ m.next=none:=hR.dom _ (lR' _)
 have mk:∀(w0:World) (d:Nat),Rel σ ρ m w0->∃ρ1,ρ1 m.next=some (w0.heap.size,0,0)∧Old m.next ρ ρ1∧
   Post σ ρ m w0 ρ1 ((m.bump 1).put m.next (.loop {state:= .ready,pend:=none,tmps:=t,ps:=ps.toList,assign:=sa,body:=sb})) (w0.alloc (.loop {state:= .ready,pending:=none,fn,tmps:=a.tmps,params:=ps,assign:=asg,body,defers:=d})):=by
  intro w0 d hR0
  refine⟨upd ρ m.next (w0.heap.size,0,0),upd_same _ _ _,λb hb e=>by simp[upd,Nat.ne_of_lt hb,e],(Post.bump hR0 1).trans ?_⟩
  refine Post.make (hR0.bump 1) hid (by simp) rfl ⟨_,World.alloc_heap_new _ _,rfl,trivial,ht.mono (upd_ext hid _),rfl,h1,h2⟩
 cases rd with
 |none=>
  cases l with
  |some l=>exact hrd.elim
  |none=>
   obtain⟨ρ1,g1,g2,g3⟩:=mk (w.alloc (.deferred (some []))) w.heap.size (Post.far hR _).rel
   refine⟨_,_,_,ρ1,run_enterLoop_outer fn a.tmps ps asg body,by simpa using g1,g2,(Post.far hR _).trans g3,?_⟩
   have hnew:(w.alloc (.deferred (some []))).heap[w.heap.size]? =some (.deferred (some [])):=World.alloc_heap_new _ _
   refine⟨⟨w.heap.size,rfl,hlo,g3.deferred (Post.far hR _).rel hnew,?_⟩,hm.post hR ((Post.far hR _).trans g3)⟩
   have:∀(ds:List Deferred),Marks lo w ds->∀d'∈ds,d'.target≠ .collected w.heap.size:=by
    intro ds
    induction ds with
    |nil=>intro _ d' hd;cases hd
    |cons d ds ih=>
     rintro⟨⟨r,k1,k2,k3,k4⟩,k5⟩ d' hd
     rcases List.mem_cons.1 hd with rfl|hd
     ·rw[k1]
      intro e
      injection e with e
      have:=(Array.getElem?_eq_some_iff.1 k3).1
      omega
     ·exact ih k5 d' hd
   exact this _ hm
 |some b=>
  cases l with
  |none=>exact hrd.elim
  |some l=>
   obtain⟨off,sl,hb⟩:=hrd
   simp only at hloop
   cases hg:m.get b with
   |none=>rw[hg] at hloop;cases hloop
   |some ob=>
    rw[hg] at hloop
    cases ob with
    |loop r=>
     obtain⟨r',k1,_⟩:=hR.obj b _ _ hg hb
     obtain⟨ρ1,g1,g2,g3⟩:=mk w r'.defers hR
     refine⟨w.heap.size,[],_,ρ1,?_,g1,g2,g3,hm.post hR g3⟩
     unfold Instr.enterLoop
     simp only[Sem.run_bind,run_getLoop k1,run_newObj_alloc,Result.andThen,Sem.run_pure]
    |_=>cases hloop
theorem rfn_ok{E:Env}{self:Self}(hE:E.P=P)(hs:SelfOk σ P self){f:Operand}{ps:Array Tmp}{asg body:Code}{sa sb:SCode}(hf:plainOpd f=true)(h1:comp asg=some sa)(h2:comp body=some sb){rd l:Option Nat}{lo:Nat}{ρ:Rho}{m m':Mem}{w:World}{a:Act}{t t':List Value}{x:Exit}
  (hR:Rel σ ρ m w) (ht:LRel σ ρ t a.tmps.toList) (hm:Marks lo w a.defers) (hlo:lo<=w.heap.size) (hrd:RdRel ρ rd l) (h:stepCode E self rd (.rfn f ps.toList sa sb) t m=some (.exit x t',m')):
  (Code.rangeFunc f ps asg body).wpIn (Fr l) 0 P (CPost σ ρ m w lo x t' m') a w:=by
 subst hE
 simp only[stepCode] at h
 split at h
 ·rename_i g first cap hev
  generalize hcond:(callable E.P g&&_)=bb at h
  cases bb with
  |true=>
   simp only[if_true] at h
   rw[bT] at hcond
   obtain⟨hcall,hloop⟩:=hcond
   split at h
   ·rename_i v m2 hc
    split at h
    ·rename_i r hr
     apply wpIn_rangeFunc
     intro fn _
     obtain⟨l',mark,w1,ρ1,g1,g2,g3,g4,g5⟩:=enter_ok (P:=E.P) fn hR ht hm hlo hloop hrd h1 h2 (ps:=ps)
     have hfv:=(ev_rel hR ht hf).mono g4.ext
     rw[hev] at hfv
     generalize hff:a.eval f=ff at hfv
     cases hfv with
     |func hy hm k1 k2 k3 k4=>
      rename_i fs' cp'
      refine⟨l',mark,w1,{target:= .fn (.func g) cp',args:=fs'++ #[.func (.yield l') #[] #[]]},w1,g,fs'++ #[.func (.yield l') #[] #[]]++cp',w1,g1,?_,λ_ _=>trivial,?_,λhd=>by simp[Fence.wide] at hd,?_⟩
      ·have hc0:∀v,a.eval (.const v)=v:=λ_=>rfl
       simp[resolve,hff,Deferred.ofValue,hc0]
      ·simp[invoke,callFunc_run hcall]
      ·have hargs:LRel σ ρ1 (first.toList++ [.func (.yield m.next) #[] #[]]++cap.toList) (fs'++ #[Value.func (.yield l') #[] #[]]++cp').toList:=by
        simp only[Array.toList_append]
        exact((lrel_of k1 k2).append (LRel.cons (.yield g2) (LRel.nil _))).append (lrel_of k3 k4)
       refine CallsIn.mono (hs.call _ _ _ _ _ hc ρ1 w1 _ g4.rel hargs) ?_
       rintro e w3 ⟨v',ρ3,rfl,j1,j2,j3⟩
       have hl3:=j2.ext _ _ g2
       obtain⟨r',i1,i2,i3,i4,i5,i6,i7⟩:=j2.rel.obj _ _ _ hr hl3
       have hturn:∀st,Post σ ρ3 m2 w3 ρ3 (m2.put m.next (.loop {r with state:=st})) (w3.putObj l' (.loop {r' with state:=st})):=λst=>
        Post.turn j2.rel hr hl3 rfl (putObj_turned i1) ⟨_,(putObj_turned i1).at_,rfl,i3,i4,i5,i6,i7⟩
       split at h
       ·cases h
       ·rename_i hbusy
        have hb':r'.state≠ .busy:=by rw[i2];exact hbusy
        have hp:=(g4.trans j2).trans (hturn .exhausted)
        have hold:Old m.next ρ ρ3:=g3.trans j3 g4.next
        have hmk:Marks lo (w3.putObj l' (.loop {r' with state:= .exhausted})) (mark++a.defers):=g5.post g4.rel (j2.trans (hturn .exhausted))
        have htt:LRel σ ρ3 t a.tmps.toList:=ht.mono (g4.ext.trans j2.ext)
        have base:∀x0,okX x0=true->CPost σ ρ m w lo x0 t (m2.put m.next (.loop {r with state:= .exhausted})) x0 {a with defers:=mark++a.defers} (w3.putObj l' (.loop {r' with state:= .exhausted})):=
         λx0 hx0=>⟨rfl,hx0,ρ3,htt,hmk,hp,hold⟩
        refine⟨r'.pending,_,run_endLoop i1 hb',?_⟩
        cases hpd:r.pend with
        |none=>
         rw[hpd] at h i3 base
         simp only[sI,pI,Out.exit.injEq] at h
         obtain⟨⟨rfl,rfl⟩,rfl⟩:=h
         cases hpp:r'.pending with
         |none=>rw[hpp] at base;exact base .normal rfl
         |some c=>rw[hpp] at i3;exact i3.elim
        |some y=>
         rw[hpd] at h i3 base
         simp only at h
         split at h
         ·simp only[sI,pI,Out.exit.injEq] at h
          obtain⟨⟨rfl,rfl⟩,rfl⟩:=h
          cases hpp:r'.pending with
          |none=>rw[hpp] at i3;cases y<;>exact i3.elim
          |some c=>
           rw[hpp] at i3 base
           cases y with
           |ret=>cases c<;>first|(exact i3.elim)|skip
                 exact wpIn_ret (base .ret rfl)
           |exit i=>cases c<;>first|(exact i3.elim)|skip
                    rename_i j
                    have:i=j:=i3
                    subst this
                    exact wpIn_exit (base (.exit _) rfl)
           |_=>cases c<;>exact i3.elim
         ·cases h
    ·cases h
   ·cases h
  |false=>simp at h
 ·cases h
theorem comp_skip{k:Code}(h1:comp k=some (.skip)):k= .skip:=by
 cases k<;>simp only[comp] at h1<;>(try split at h1)<;>(try split at h1)<;>(try split at h1)<;>(try cases h1)
 rfl
theorem comp_label{k:Code}{i:Nat}(h1:comp k=some (.label i)):k= .label i:=by
 cases k<;>simp only[comp] at h1<;>(try split at h1)<;>(try split at h1)<;>(try split at h1)<;>(try cases h1)
 rfl
theorem comp_goto{k:Code}{i:Nat}(h1:comp k=some (.goto i)):k= .goto i:=by
 cases k<;>simp only[comp] at h1<;>(try split at h1)<;>(try split at h1)<;>(try split at h1)<;>(try cases h1)
 rfl
theorem comp_again{k:Code}{b r:SCode}(h1:comp k=some (.again b r)):False:=by
 cases k<;>simp only[comp] at h1<;>(try split at h1)<;>(try split at h1)<;>(try split at h1)<;>(try cases h1)
theorem comp_exit{k:Code}{i:Nat}(h1:comp k=some (.exit i)):k= .exit i:=by
 cases k<;>simp only[comp] at h1<;>(try split at h1)<;>(try split at h1)<;>(try split at h1)<;>(try cases h1)
 rfl
theorem comp_ret{k:Code}(h1:comp k=some (.ret)):k= .ret:=by
 cases k<;>simp only[comp] at h1<;>(try split at h1)<;>(try split at h1)<;>(try split at h1)<;>(try cases h1)
 rfl
theorem comp_seq{k:Code}{a b:SCode}(h1:comp k=some (.seq a b)):∃ka kb,k= .seq ka kb∧comp ka=some a∧comp kb=some b:=by
 cases k<;>simp only[comp] at h1<;>(try split at h1)<;>(try split at h1)<;>(try split at h1)<;>(try cases h1)
 exact⟨_,_,rfl,by assumption,by assumption⟩
theorem comp_cond{k:Code}{o:Operand}{a b:SCode}(h1:comp k=some (.cond o a b)):∃ka kb,k= .cond o ka kb∧plainOpd o=true∧comp ka=some a∧comp kb=some b:=by
 cases k<;>simp only[comp] at h1<;>(try split at h1)<;>(try split at h1)<;>(try split at h1)<;>(try cases h1)
 exact⟨_,_,rfl,by assumption,by assumption,by assumption⟩
theorem comp_block{k:Code}{i:Nat}{b:SCode}(h1:comp k=some (.block i b)):∃kb,k= .block i kb∧comp kb=some b:=by
 cases k<;>simp only[comp] at h1<;>(try split at h1)<;>(try split at h1)<;>(try split at h1)<;>(try cases h1)
 exact⟨_,rfl,by assumption⟩
theorem comp_loop{k:Code}{b:SCode}(h1:comp k=some (.loop b)):∃kb,k= .loop kb∧comp kb=some b:=by
 cases k<;>simp only[comp] at h1<;>(try split at h1)<;>(try split at h1)<;>(try split at h1)<;>(try cases h1)
 exact⟨_,rfl,by assumption⟩
theorem comp_scope{k:Code}{b:SCode}(h1:comp k=some (.scope b)):∃kb,k= .scope kb∧comp kb=some b:=by
 cases k<;>simp only[comp] at h1<;>(try split at h1)<;>(try split at h1)<;>(try split at h1)<;>(try cases h1)
 exact⟨_,rfl,by assumption⟩
theorem comp_reg{k:Code}{sl:List SOp}(h1:comp k=some (.reg sl)):∃n ops,k= .region n ops false∧stripAll ops ops.toList=some sl:=by
 cases k<;>simp only[comp] at h1<;>(try split at h1)<;>(try split at h1)<;>(try split at h1)<;>(try cases h1)
 rename_i n ops draw _ hd hst
 cases draw
 ·exact⟨_,_,rfl,hst⟩
 ·exact absurd rfl hd
theorem comp_dreg{k:Code}{sl:List SOp}{ord:List (Nat×List Nat)}(h1:comp k=some (.dreg sl ord)):∃n ops,k= .region n ops true∧stripAll ops ops.toList=some sl∧orderOf ops sl=some ord:=by
 cases k<;>simp only[comp] at h1<;>(try split at h1)<;>(try split at h1)<;>(try split at h1)<;>(try cases h1)
 rename_i n ops draw _ hd _ hst ho
 exact⟨n,ops,by rw[hd],hst,ho⟩
theorem comp_rfn{k:Code}{f:Operand}{ps:List Tmp}{a b:SCode}(h1:comp k=some (.rfn f ps a b)):∃pa ka kb,k= .rangeFunc f pa ka kb∧pa.toList=ps∧plainOpd f=true∧comp ka=some a∧comp kb=some b:=by
 cases k<;>simp only[comp] at h1<;>(try split at h1)<;>(try split at h1)<;>(try split at h1)<;>(try cases h1)
 exact⟨_,_,_,rfl,rfl,by assumption,by assumption,by assumption⟩
theorem sFind_comp:∀{c:Code} {s:SCode} (l:Nat),comp c=some s->(findLabel c l=none∧sFind s l=none)∨∃rest r,findLabel c l=some rest∧sFind s l=some r∧comp rest=some r
 | .seq a b,s,l,h=>by
   simp only[comp] at h
   split at h
   ·rename_i x y hx hy
    simp only[sI] at h
    subst h
    rcases sFind_comp l hx with⟨g1,g2⟩|⟨rest,r,g1,g2,g3⟩
    ·rcases sFind_comp l hy with⟨k1,k2⟩|⟨rest,r,k1,k2,k3⟩
     ·exact .inl ⟨by simp[findLabel,g1,k1],by simp[sFind,g2,k2]⟩
     ·exact .inr ⟨rest,r,by simp[findLabel,g1,k1],by simp[sFind,g2,k2],k3⟩
    ·exact .inr ⟨.seq rest b, .seq r y,by simp[findLabel,g1],by simp[sFind,g2],by simp[comp,g3,hy]⟩
   ·cases h
 | .label k,s,l,h=>by
   simp only[comp,sI] at h
   subst h
   by_cases e:(k==l)=true
   ·exact .inr ⟨.skip, .skip,by simp only[findLabel,e,if_true],by simp only[sFind,e,if_true],rfl⟩
   ·exact .inl ⟨by simp[findLabel,e],by simp[sFind,e]⟩
 | .skip,s,l,h=>by simp only[comp,sI] at h;subst h;exact .inl ⟨rfl,rfl⟩
 | .exit _,s,l,h=>by simp only[comp,sI] at h;subst h;exact .inl ⟨rfl,rfl⟩
 | .ret,s,l,h=>by simp only[comp,sI] at h;subst h;exact .inl ⟨rfl,rfl⟩
 | .goto _,s,l,h=>by simp only[comp,sI] at h;subst h;exact .inl ⟨rfl,rfl⟩
 | .refuse _,s,l,h=>by simp[comp] at h
 | .cond _ _ _,s,l,h=>by
   simp only[comp] at h
   split at h
   ·split at h
    ·simp only[sI] at h;subst h;exact .inl ⟨rfl,rfl⟩
    ·cases h
   ·cases h
 | .block _ _,s,l,h=>by
   simp only[comp] at h
   split at h
   ·simp only[sI] at h;subst h;exact .inl ⟨rfl,rfl⟩
   ·cases h
 | .loop _,s,l,h=>by
   simp only[comp] at h
   split at h
   ·simp only[sI] at h;subst h;exact .inl ⟨rfl,rfl⟩
   ·cases h
 | .scope _,s,l,h=>by
   simp only[comp] at h
   split at h
   ·simp only[sI] at h;subst h;exact .inl ⟨rfl,rfl⟩
   ·cases h
 | .region _ _ _,s,l,h=>by
   simp only[comp] at h
   split at h
   ·cases h
   ·split at h
    ·split at h
     ·simp only[sI] at h;subst h;exact .inl ⟨rfl,rfl⟩
     ·cases h
    ·simp only[sI] at h;subst h;exact .inl ⟨rfl,rfl⟩
 | .rangeFunc _ _ _ _,s,l,h=>by
   simp only[comp] at h
   split at h
   ·split at h
    ·simp only[sI] at h;subst h;exact .inl ⟨rfl,rfl⟩
    ·cases h
   ·cases h
def DregOk(σ:Sig)(E:Env)(self:Self):Prop:=∀{ops:Array Oper} {sl:List SOp} {ord:List (Nat×List Nat)} {n:Nat},stripAll ops ops.toList=some sl->orderOf ops sl=some ord->
 ∀{rd l:Option Nat} {lo:Nat} {ρ:Rho} {m m':Mem} {w:World} {a:Act} {t t':List Value},Rel σ ρ m w->LRel σ ρ t a.tmps.toList->Marks lo w a.defers->
  stepCode E self rd (.dreg sl ord) t m=some (.exit .normal t',m')->(Code.region n ops true).wpIn (Fr l) 0 E.P (CPost σ ρ m w lo .normal t' m') a w
theorem CPost.okx{ρ:Rho}{m m':Mem}{w w':World}{lo:Nat}{x e:Exit}{t':List Value}{a':Act}(h:CPost σ ρ m w lo x t' m' e a' w'):okX e=true:=by
 obtain⟨rfl,h,_⟩:=h
 exact h
theorem again_ok{self:Self}(hs:SelfOk3 σ P self){rd:Option Nat}{b r:SCode}{t t':List Value}{m m':Mem}{x:Exit}
  (h:(match self (.code rd r t) m with
   |some (.exit (.goto l) t',m')=>match sFind b l with
    |some r=>self (.code rd (.again b r) t') m'
    |none=>some (.exit (.goto l) t',m')
   |r=>r)=some (.exit x t',m')):AgainOk σ P rd b r t m x t' m':=by
 intro kb kr ρ w a l lo hkb hkr h2 h3 h4 h5 h6
 split at h
 ·rename_i l1 t1 m1 hb
  have hw:=hs.code _ _ _ _ _ _ _ hb kr ρ w a l lo hkr h2 h3 h4 h5 h6
  rcases sFind_comp l1 hkb with⟨g1,g2⟩|⟨rest,r1,g1,g2,g3⟩
  ·rw[g2] at h
   simp only[sI,pI,Out.exit.injEq] at h
   obtain⟨⟨rfl,rfl⟩,rfl⟩:=h
   refine inSc_of hw (λe a w hc=>hc.okx) (λl2 rest a1 w1 hc hf=>?_) λe a1 w1 hc _=>hc
   obtain⟨e,_⟩:=hc
   cases e
   rw[g1] at hf
   cases hf
  ·rw[g2] at h
   refine inSc_of hw (λe a w hc=>hc.okx) (λl2 rest2 a1 w1 hc hf=>?_) λe a1 w1 hc hn=>?_
   ·obtain⟨e,_,ρ1,k1,k2,k3,k4⟩:=hc
    cases e
    rw[g1] at hf
    cases hf
    refine(hs.again _ _ _ _ _ _ _ _ h kb rest ρ1 w1 a1 l lo hkb g3 k3.rel k1 k2 (lT h5 k3.size) (h6.mono k3.ext)).mono ?_
    exact λe a w hc=>hc.trans k3 k4
   ·obtain⟨rfl,_⟩:=id hc
    have:=hn l1 rfl
    rw[g1] at this
    cases this
 ·rename_i hne
  have hw:=hs.code _ _ _ _ _ _ _ h kr ρ w a l lo hkr h2 h3 h4 h5 h6
  refine inSc_of hw (λe a w hc=>hc.okx) (λl2 rest a1 w1 hc hf=>?_) λe a1 w1 hc _=>hc
  obtain⟨e,_⟩:=hc
  subst e
  exact absurd h (hne _ _ _)
theorem code_ok{E:Env}{self:Self}(hE:E.P=P)(hS:SymOk σ E)(hs:SelfOk3 σ P self)(hd:DregOk σ E self){rd:Option Nat}{c:SCode}{t t':List Value}{m m':Mem}{x:Exit}
  (h:step E self (.code rd c t) m=some (.exit x t',m')):CodeOk2 σ P rd c t m x t' m':=by
 subst hE
 simp only[step] at h
 have one:(∀b,c≠ .loop b)->(∀(k:Code) ρ w (a:Act) l lo,comp k=some c->Rel σ ρ m w->LRel σ ρ t a.tmps.toList->Marks lo w a.defers->lo<=w.heap.size->RdRel ρ rd l->
  k.wpIn (Fr l) 0 E.P (CPost σ ρ m w lo x t' m') a w)->CodeOk2 σ E.P rd c t m x t' m':=by
  intro hn hk
  refine⟨0,λk ρ w a l lo h1 h2 h3 h4 h5 h6=>?_⟩
  have:=hk k ρ w a l lo h1 h2 h3 h4 h5 h6
  cases k<;>first|exact this|skip
  simp only[comp] at h1
  split at h1
  ·simp only[sI] at h1
   exact absurd h1.symm (hn _)
  ·cases h1
 cases c with
 |loop b=>
  simp only[stepCode] at h
  split at h
  ·rename_i t1 m1 hb
   obtain⟨N,hN⟩:=hs.code2 _ _ _ _ _ _ _ h
   refine⟨N+1,λk ρ w a l lo h1 h2 h3 h4 h5 h6=>?_⟩
   obtain⟨kb,rfl,hkb⟩:=comp_loop h1
   show Code.roundsIn (Fr l) 0 E.P kb _ (N+1) a w
   rw[roundsIn_succ]
   refine wpIn_mono (hs.code _ _ _ _ _ _ _ hb kb ρ w a l lo hkb h2 h3 h4 h5 h6) ?_
   rintro e a1 w1 ⟨rfl,_,ρ1,g1,g2,g3,g4⟩
   refine roundsIn_mono ?_ N (hN (.loop kb) ρ1 w1 a1 l lo (by simp only[comp,hkb]) g3.rel g1 g2 (lT h5 g3.size) (h6.mono g3.ext))
   exact λe a w hc=>hc.trans g3 g4
  ·rename_i hne
   refine⟨1,λk ρ w a l lo h1 h2 h3 h4 h5 h6=>?_⟩
   obtain⟨kb,rfl,hkb⟩:=comp_loop h1
   show Code.roundsIn (Fr l) 0 E.P kb _ 1 a w
   rw[roundsIn_succ]
   refine wpIn_mono (hs.code _ _ _ _ _ _ _ h kb ρ w a l lo hkb h2 h3 h4 h5 h6) ?_
   intro e a1 w1 hc
   obtain⟨rfl,_⟩:=id hc
   cases e with
   |normal=>exact absurd h (hne _ _)
   |_=>exact hc
 |skip=>
  refine one (λ_ e=>by cases e) λk ρ w a l lo h1 h2 h3 h4 h5 h6=>?_
  simp only[stepCode,sI,pI,Out.exit.injEq] at h
  obtain⟨⟨rfl,rfl⟩,rfl⟩:=h
  obtain rfl:=comp_skip h1
  exact wpIn_skip (.here rfl h2 h3 h4)
 |label i=>
  refine one (λ_ e=>by cases e) λk ρ w a l lo h1 h2 h3 h4 h5 h6=>?_
  simp only[stepCode,sI,pI,Out.exit.injEq] at h
  obtain⟨⟨rfl,rfl⟩,rfl⟩:=h
  obtain rfl:=comp_label h1
  exact wpIn_label (.here rfl h2 h3 h4)
 |goto i=>
  refine one (λ_ e=>by cases e) λk ρ w a l lo h1 h2 h3 h4 h5 h6=>?_
  simp only[stepCode,sI,pI,Out.exit.injEq] at h
  obtain⟨⟨rfl,rfl⟩,rfl⟩:=h
  obtain rfl:=comp_goto h1
  exact wpIn_goto (.here rfl h2 h3 h4)
 |again b r=>exact one (λ_ e=>by cases e) λk ρ w a l lo h1 _ _ _ _ _=>(comp_again h1).elim
 |exit i=>
  refine one (λ_ e=>by cases e) λk ρ w a l lo h1 h2 h3 h4 h5 h6=>?_
  simp only[stepCode,sI,pI,Out.exit.injEq] at h
  obtain⟨⟨rfl,rfl⟩,rfl⟩:=h
  obtain rfl:=comp_exit h1
  exact wpIn_exit (.here rfl h2 h3 h4)
 |ret=>
  refine one (λ_ e=>by cases e) λk ρ w a l lo h1 h2 h3 h4 h5 h6=>?_
  simp only[stepCode,sI,pI,Out.exit.injEq] at h
  obtain⟨⟨rfl,rfl⟩,rfl⟩:=h
  obtain rfl:=comp_ret h1
  exact wpIn_ret (.here rfl h2 h3 h4)
 |seq c1 c2=>
  refine one (λ_ e=>by cases e) λk ρ w a l lo h1 h2 h3 h4 h5 h6=>?_
  simp only[stepCode] at h
  obtain⟨k1,k2,rfl,hk1,hk2⟩:=comp_seq h1
  apply wpIn_seq
  split at h
  ·rename_i t1 m1 hb
   refine wpIn_mono (hs.code _ _ _ _ _ _ _ hb k1 ρ w a l lo hk1 h2 h3 h4 h5 h6) ?_
   rintro e a1 w1 ⟨rfl,_,ρ1,g1,g2,g3,g4⟩
   refine wpIn_mono (hs.code _ _ _ _ _ _ _ h k2 ρ1 w1 a1 l lo hk2 g3.rel g1 g2 (lT h5 g3.size) (h6.mono g3.ext)) ?_
   exact λe a w hc=>hc.trans g3 g4
  ·rename_i hne
   refine wpIn_mono (hs.code _ _ _ _ _ _ _ h k1 ρ w a l lo hk1 h2 h3 h4 h5 h6) ?_
   intro e a1 w1 hc
   obtain⟨rfl,_⟩:=id hc
   cases e with
   |normal=>exact absurd h (hne _ _)
   |_=>exact hc
 |cond o c1 c2=>
  refine one (λ_ e=>by cases e) λk ρ w a l lo h1 h2 h3 h4 h5 h6=>?_
  simp only[stepCode] at h
  obtain⟨k1,k2,rfl,hp,hk1,hk2⟩:=comp_cond h1
  have hv:=ev_rel h2 h3 hp
  split at h
  ·rename_i he
   rw[he] at hv
   exact wpIn_cond_true hv.bool_inv (hs.code _ _ _ _ _ _ _ h k1 ρ w a l lo hk1 h2 h3 h4 h5 h6)
  ·rename_i he
   rw[he] at hv
   exact wpIn_cond_false hv.bool_inv (hs.code _ _ _ _ _ _ _ h k2 ρ w a l lo hk2 h2 h3 h4 h5 h6)
  ·cases h
 |block i b=>
  refine one (λ_ e=>by cases e) λk ρ w a l lo h1 h2 h3 h4 h5 h6=>?_
  simp only[stepCode] at h
  obtain⟨kb,rfl,hkb⟩:=comp_block h1
  apply wpIn_block
  split at h
  ·rename_i j t1 m1 hb
   simp only[sI,pI,Out.exit.injEq] at h
   obtain⟨⟨rfl,rfl⟩,rfl⟩:=h
   refine wpIn_mono (hs.code _ _ _ _ _ _ _ hb kb ρ w a l lo hkb h2 h3 h4 h5 h6) ?_
   rintro e a1 w1 ⟨rfl,_,rest⟩
   simp only[Exit.inBlock]
   by_cases hj:j=i
   ·simp only[hj,if_true];exact⟨rfl,rfl,rest⟩
   ·simp only[hj,if_false];exact⟨rfl,rfl,rest⟩
  ·rename_i hne
   refine wpIn_mono (hs.code _ _ _ _ _ _ _ h kb ρ w a l lo hkb h2 h3 h4 h5 h6) ?_
   intro e a1 w1 hc
   obtain⟨rfl,_⟩:=id hc
   cases e with
   |exit j=>exact absurd h (hne _ _ _)
   |_=>exact hc
 |scope b=>
  refine one (λ_ e=>by cases e) λk ρ w a l lo h1 h2 h3 h4 h5 h6=>?_
  simp only[stepCode] at h
  obtain⟨kb,rfl,hkb⟩:=comp_scope h1
  exact wpIn_scope (again_ok hs h kb kb ρ w a l lo hkb hkb h2 h3 h4 h5 h6)
 |reg sl=>
  refine one (λ_ e=>by cases e) λk ρ w a l lo h1 h2 h3 h4 h5 h6=>?_
  have hx:x= .normal:=by
   simp only[stepCode] at h
   split at h
   ·simp only[sI,pI,Out.exit.injEq] at h
    exact h.1.1.symm
   ·cases h
  subst hx
  obtain⟨n,ops,rfl,hst⟩:=comp_reg h1
  exact reg_ok rfl hS hs.toSelfOk hst (rd:=rd) h2 h3 h4 h
 |dreg sl ord=>
  refine one (λ_ e=>by cases e) λk ρ w a l lo h1 h2 h3 h4 h5 h6=>?_
  have hx:x= .normal:=by
   simp only[stepCode] at h
   split at h
   ·simp only[sI,pI,Out.exit.injEq] at h
    exact h.1.1.symm
   ·cases h
  subst hx
  obtain⟨n,ops,rfl,hst,hord⟩:=comp_dreg h1
  exact hd hst hord h2 h3 h4 h
 |rfn f ps sa sb=>
  refine one (λ_ e=>by cases e) λk ρ w a l lo h1 h2 h3 h4 h5 h6=>?_
  obtain⟨pa,ka,kb,rfl,rfl,hp,hka,hkb⟩:=comp_rfn h1
  exact rfn_ok rfl hs.toSelfOk hp hka hkb h2 h3 h4 h5 h6 h
end
section
variable{σ:Sig}
variable{P:Program}
structure Trace(E:Env)(slf:Self)(base:Nat)(sl:List SOp)(ord:List (Nat×List Nat))(T:Nat->List Value)(M:Nat->Mem):Prop where
 step:∀(k i:Nat) re,ord[k]? =some (i,re)->∃o,sl[i]? =some o∧stepOp E slf (base+i) o (T k) (M k)=some (T (k+1),M (k+1))∧
  (wanted o.guard (T k)=true->∀e∈re,∃(k':Nat) (re':List Nat),k'<k∧ord[k']? =some (e,re')∧
   ∃v u,readE E o (ev · (T k)) (M k)=some v∧readE E o (ev · (T k)) (M k')=some u∧E.eqv v u=true)
theorem drOps_trace{E:Env}{self:Self}{base:Nat}{sl:List SOp}:∀{ord:List (Nat×List Nat)} {hist:List (Nat×Mem)} {t t':List Value} {m m':Mem},drOps E self base sl ord hist t m=some (t',m')->
  ∃(T:Nat->List Value) (M:Nat->Mem),T 0=t∧M 0=m∧T ord.length=t'∧M ord.length=m'∧
   ∀(k i:Nat) re,ord[k]? =some (i,re)->∃o,sl[i]? =some o∧stepOp E self (base+i) o (T k) (M k)=some (T (k+1),M (k+1))∧
    (wanted o.guard (T k)=true->∀e∈re,∃me,((∃(k':Nat) (re':List Nat),k'<k∧ord[k']? =some (e,re')∧me=M k')∨lookH hist e=some me)∧
     ∃v u,readE E o (ev · (T k)) (M k)=some v∧readE E o (ev · (T k)) me=some u∧E.eqv v u=true)
 |[],hist,t,t',m,m',h=>by
  simp only[drOps,sI,pI] at h
  obtain⟨rfl,rfl⟩:=h
  exact⟨λ_=>t,λ_=>m,rfl,rfl,rfl,rfl,λk i re hk=>by simp at hk⟩
 |(i0,re0)::ord,hist,t,t',m,m',h=>by
  simp only[drOps] at h
  split at h
  ·cases h
  ·rename_i o ho
   split at h
   ·rename_i hok
    split at h
    ·rename_i t1 m1 h1
     obtain⟨T,M,g1,g2,g3,g4,g5⟩:=drOps_trace h
     refine⟨λk=>match k with|0=>t|k+1=>T k,λk=>match k with|0=>m|k+1=>M k,rfl,rfl,by simpa using g3,by simpa using g4,λk i re hk=>?_⟩
     cases k with
     |zero=>
      simp only[List.getElem?_cons_zero,sI,pI] at hk
      obtain⟨rfl,rfl⟩:=hk
      refine⟨o,ho,by simp only[g1,g2];exact h1,λhw e he=>?_⟩
      rcases hok with hok|hok
      ·rw[hok] at hw;cases hw
      ·have:=List.all_eq_true.1 hok e he
       split at this
       ·rename_i me hme
        split at this
        ·rename_i v u hv hu
         exact⟨me, .inr hme,v,u,hv,hu,this⟩
        ·cases this
       ·cases this
     |succ k=>
      obtain⟨o',k1,k2,k3⟩:=g5 k i re (by simpa using hk)
      refine⟨o',k1,k2,λhw e he=>?_⟩
      obtain⟨me,h2,h3⟩:=k3 hw e he
      refine⟨me,?_,h3⟩
      rcases h2 with⟨k',re',q1,q2,q3⟩|h2
      ·exact .inl ⟨k'+1,re',by omega,by simpa using q2,q3⟩
      ·simp only[lookH] at h2
       split at h2
       ·rename_i hie
        simp only[sI] at h2
        subst h2 hie
        exact .inl ⟨0,re0,by omega,rfl,rfl⟩
       ·exact .inr h2
    ·cases h
   ·cases h
theorem stepOp_put{E:Env}{self:Self}{id:Nat}{o:SOp}{t t':List Value}{m m':Mem}(h:stepOp E self id o t m=some (t',m')):
  ∃v,t'=putT o.dst v t∧((wanted o.guard t=true∧opA E self id o t m=some (v,m'))∨(wanted o.guard t=false∧v=undef∧m'=m)):=by
 unfold stepOp at h
 split at h
 ·cases h
 split at h
 ·rename_i hw
  split at h
  ·rename_i v m1 ho
   simp only[sI,pI] at h
   obtain⟨rfl,rfl⟩:=h
   exact⟨v,rfl, .inl ⟨hw,ho⟩⟩
  ·cases h
 ·rename_i hw
  simp only[sI,pI] at h
  obtain⟨rfl,rfl⟩:=h
  exact⟨undef,rfl, .inr ⟨by simpa using hw,rfl,rfl⟩⟩
theorem stepOp_gOk{E:Env}{self:Self}{id:Nat}{o:SOp}{t:List Value}{m:Mem}{q:List Value×Mem}(h:stepOp E self id o t m=some q):gOk o.guard t=true:=by
 unfold stepOp at h
 split at h
 ·cases h
 ·rename_i hg
  simpa using hg
theorem Rel.sub{ρ:Rho}{m V:Mem}{w:World}(hR:Rel σ ρ V w)(hsub:∀b o,m.get b=some o->V.get b=some o)(hn:m.next=V.next):Rel σ ρ m w:=
 ⟨λb hb=>hR.dom b (hn▸hb),hR.glob,λb o x hb hx=>hR.obj b o x (hsub b o hb) hx,λb1 b2 o1 o2 x1 x2 hne h1 h2 g1 g2 hw=>hR.inj b1 b2 o1 o2 x1 x2 hne (hsub _ _ h1) (hsub _ _ h2) g1 g2 hw,
  λb hb=>by
   cases hm:m.get b with
   |none=>rfl
   |some o=>have h1:=hsub b o hm;rw[hR.fresh b (hn▸hb)] at h1;cases h1⟩
theorem Post.congr{ρ ρ':Rho}{m m1 m2:Mem}{w w':World}(h:Post σ ρ m w ρ' m1 w')(hg:∀b o,m2.get b=some o->m1.get b=some o)(hn:m2.next=m1.next):Post σ ρ m w ρ' m2 w':=
 ⟨h.rel.sub hg hn,h.ext,hn▸h.next,h.size,h.os,h.tape,h.output,h.frame,λb o x hb hx hlt=>h.img b o x (hg b o hb) hx hlt⟩
theorem Post.more{ρ ρ':Rho}{m m1 m2:Mem}{w w':World}(h:Post σ ρ m w ρ' m1 w')(hg:∀b o x,m2.get b=some o->ρ' b=some x->m1.get b=some o)(hn:m2.next=m1.next)(hf:∀b,m2.next<=b->m2.get b=none):Post σ ρ m w ρ' m2 w':=
 ⟨⟨λb hb=>h.rel.dom b (hn▸hb),h.rel.glob,λb o x hb hx=>h.rel.obj b o x (hg b o x hb hx) hx,λb1 b2 o1 o2 x1 x2 hne h1 h2 g1 g2 hw=>h.rel.inj b1 b2 o1 o2 x1 x2 hne (hg _ _ _ h1 g1) (hg _ _ _ h2 g2) g1 g2 hw,hf⟩,
  h.ext,hn▸h.next,h.size,h.os,h.tape,h.output,h.frame,λb o x hb hx hlt=>h.img b o x (hg b o x hb hx) hx hlt⟩
theorem Post.beside{ρ ρ':Rho}{M M' V V':Mem}{w w':World}{id:Nat}{D:Nat->AObj->Prop}(h:Post σ ρ M w ρ' M' w')(hR:Rel σ ρ V w)(hold:OldBut M.next id ρ ρ')
  (hV:∀b o,V.get b=some o↔(M.get b=some o∨D b o)) (hV':∀b o,V'.get b=some o↔(M'.get b=some o∨D b o)) (hn:V.next=M.next) (hn':V'.next=M'.next)
  (hD:∀b o,D b o->M.get b=none∧M'.get b=none∧wr o=true∧b≠id∧b<M.next):Post σ ρ V w ρ' V' w':=by
 have back:∀b o x,D b o->ρ' b=some x->ρ b=some x:=λb o x hd hx=>by
  obtain⟨_,_,_,h1,h2⟩:=hD b o hd
  cases hb:ρ b with
  |none=>rw[hold b h2 h1 hb] at hx;cases hx
  |some y=>rw[h.ext b y hb] at hx;exact hx▸rfl
 have apart:∀b1 o1 x1 b2 o2 x2,M'.get b1=some o1->ρ' b1=some x1->D b2 o2->ρ' b2=some x2->x1.1≠x2.1:=by
  intro b1 o1 x1 b2 o2 x2 h1 g1 h2 g2 e
  have g2':=back _ _ _ h2 g2
  have hv2:=(hV b2 o2).2 (.inr h2)
  have hlt:=(hR.obj b2 o2 x2 hv2 g2').lt
  obtain⟨b0,o0,x0,k1,k2,k3,_⟩:=h.img b1 o1 x1 h1 g1 (e▸hlt)
  have hne:b2≠b0:=λe0=>by
   have:=(hD b2 o2 h2).1
   rw[e0,k1] at this
   cases this
  exact hR.inj b2 b0 o2 o0 x2 x0 hne hv2 ((hV b0 o0).2 (.inl k1)) g2' k2 (hD b2 o2 h2).2.2.1 (e.symm.trans k3.symm)
 refine⟨⟨λb hb=>h.rel.dom b (hn'▸hb),h.rel.glob,λb o x hb hx=>?_,λb1 b2 o1 o2 x1 x2 hne h1 h2 g1 g2 hw=>?_,λb hb=>?_⟩,h.ext,by rw[hn,hn'];exact h.next,h.size,h.os,h.tape,h.output,λk hk hf=>?_,λb o x hb hx hlt=>?_⟩
 ·rcases(hV' b o).1 hb with hb|hb
  ·exact h.rel.obj b o x hb hx
  ·have hx':=back b o x hb hx
   have ho:=hR.obj b o x ((hV b o).2 (.inr hb)) hx'
   refine ho.keep h.ext (h.frame _ ho.lt λb0 o0 x0 k1 k2 k3 e=>?_)
   have hne:b0≠b:=λe0=>by
    have:=(hD b o hb).1
    rw[<-e0,k1] at this
    cases this
   exact hR.inj b0 b o0 o x0 x hne ((hV b0 o0).2 (.inl k1)) ((hV b o).2 (.inr hb)) k3 hx' k2 e
 ·rcases(hV' b1 o1).1 h1 with k1|k1
  ·rcases(hV' b2 o2).1 h2 with k2|k2
   ·exact h.rel.inj b1 b2 o1 o2 x1 x2 hne k1 k2 g1 g2 hw
   ·exact apart _ _ _ _ _ _ k1 g1 k2 g2
  ·rcases(hV' b2 o2).1 h2 with k2|k2
   ·exact λe=>apart _ _ _ _ _ _ k2 g2 k1 g1 e.symm
   ·exact hR.inj b1 b2 o1 o2 x1 x2 hne ((hV _ _).2 (.inr k1)) ((hV _ _).2 (.inr k2)) (back _ _ _ k1 g1) (back _ _ _ k2 g2) hw
 ·cases hm:V'.get b with
  |none=>rfl
  |some o=>
   rcases(hV' b o).1 hm with k|k
   ·rw[h.rel.fresh b (hn'▸hb)] at k;cases k
   ·have:=(hD b o k).2.2.2.2
    have:=h.next
    omega
 ·exact h.frame k hk λb o x hb hw hx=>hf b o x ((hV b o).2 (.inl hb)) hw hx
 ·rcases(hV' b o).1 hb with k|k
  ·obtain⟨b0,o0,x0,k1,k2,k3,k4⟩:=h.img b o x k hx hlt
   exact⟨b0,o0,x0,(hV _ _).2 (.inl k1),k2,k3,k4⟩
  ·exact⟨b,o,x,(hV _ _).2 (.inr k),back _ _ _ k hx,rfl,λhw=>hw⟩
theorem makeA_wr{o:SOp}{r:Operand->Value}{ob:AObj}{mk:Nat->Value}(h:makeA P o r=some (ob,mk)):wr ob=true:=by
 unfold makeA at h
 repeat' split at h
 all_goals first
  |(cases h;done)
  |(simp only[sI,pI] at h;obtain⟨rfl,_⟩:=h;rfl)
  |(simp only[mE,pI] at h;obtain⟨_,_,rfl,_⟩:=h;rfl)
end
section
variable{σ:Sig}
structure Run(E:Env)(slf:Self)(base:Nat)(ops:Array Oper)(sl:List SOp)(ord:List (Nat×List Nat))(T:Nat->List Value)(M:Nat->Mem):Prop where
 chk:Chk ops.toList sl ord
 tr:Trace E slf base sl ord T M
 strip:∀(i:Nat) (s:SOp),sl[i]? =some s->∃o',ops[i]? =some o'∧Strip ops o' s
 grow:∀tk m o m',slf tk m=some (o,m')->Grow m m'
 free:∀i,i<ops.size->(M 0).get (base+i)=none
 next:base+ops.size<=(M 0).next
section
variable{E:Env}{self:Self}{base:Nat}{ops:Array Oper}{sl:List SOp}{ord:List (Nat×List Nat)}{T:Nat->List Value}{M:Nat->Mem}
theorem Run.olen(R:Run E self base ops sl ord T M):ord.length=ops.size:=by simpa using R.chk.olen
theorem Run.lt(R:Run E self base ops sl ord T M){k i:Nat}{re:List Nat}(h:ord[k]? =some (i,re)):i<ops.size:=by simpa using R.chk.lt k i re h
theorem Run.klt(R:Run E self base ops sl ord T M){k i:Nat}{re:List Nat}(h:ord[k]? =some (i,re)):k<ops.size:=by
 have:=(List.getElem?_eq_some_iff.1 h).1
 rw[R.olen] at this
 exact this
theorem Run.at_(R:Run E self base ops sl ord T M){k:Nat}(h:k<ops.size):∃i re,ord[k]? =some (i,re):=by
 have:k<ord.length:=by rw[R.olen];exact h
 exact⟨_,_,gE' this⟩
theorem Run.next_ge(R:Run E self base ops sl ord T M):∀k,k<=ops.size->base+ops.size<=(M k).next
 |0,_=>R.next
 |k+1,hk=>by
  obtain⟨i,re,hi⟩:=R.at_ (k:=k) (by omega)
  obtain⟨o,h1,h2,_⟩:=R.tr.step k i re hi
  have:=(stepOp_grow R.grow h2).1
  have:=R.next_ge k (by omega)
  omega
theorem Run.fresh(R:Run E self base ops sl ord T M):∀k,k<=ops.size->∀(k2 i:Nat) re,k<=k2->ord[k2]? =some (i,re)->(M k).get (base+i)=none
 |0,_,k2,i,re,_,h=>R.free i (R.lt h)
 |k+1,hk,k2,i,re,hle,h=>by
  obtain⟨i1,re1,hi⟩:=R.at_ (k:=k) (by omega)
  obtain⟨o,h1,h2,_⟩:=R.tr.step k i1 re1 hi
  have h3:=R.fresh k (by omega) k2 i re (by omega) h
  have h4:=R.next_ge k (by omega)
  have h5:=R.lt h
  refine(stepOp_grow R.grow h2).2 (base+i) (by omega) (λe=>?_) h3
  have:i=i1:=by omega
  subst this
  have:=R.chk.uniq k k2 i re1 re hi h
  omega
theorem putT_length(d:Option Tmp)(v:Value)(t:List Value):(putT d v t).length=t.length:=by cases d<;>simp[putT]
theorem putT_other{d:Option Tmp}{x:Tmp}(h:d≠some x)(v:Value)(t:List Value):(putT d v t).getD x undef=t.getD x undef:=by
 cases d with
 |none=>rfl
 |some y=>
  have:y≠x:=λe=>h (by rw[e])
  simp[putT,gD',List.getElem?_set_ne this]
theorem Run.tlen(R:Run E self base ops sl ord T M):∀k,k<=ops.size->(T k).length=(T 0).length
 |0,_=>rfl
 |k+1,hk=>by
  obtain⟨i,re,hi⟩:=R.at_ (k:=k) (by omega)
  obtain⟨o,_,h2,_⟩:=R.tr.step k i re hi
  obtain⟨v,h3,_⟩:=stepOp_put h2
  rw[h3,putT_length,R.tlen k (by omega)]
theorem Run.keep(R:Run E self base ops sl ord T M){x:Tmp}{k:Nat}:∀d,k+d<=ops.size->(∀(p i:Nat) re o,k<=p->p<k+d->ord[p]? =some (i,re)->sl[i]? =some o->o.dst≠some x)->(T (k+d)).getD x undef=(T k).getD x undef
 |0,_,_=>rfl
 |d+1,hk,h=>by
  obtain⟨i,re,hi⟩:=R.at_ (k:=k+d) (by omega)
  obtain⟨o,h1,h2,_⟩:=R.tr.step (k+d) i re hi
  obtain⟨v,h3,_⟩:=stepOp_put h2
  rw[<-Nat.add_assoc,h3,putT_other (h _ i re o (by omega) (by omega) hi h1),R.keep d (by omega) λp i re o h1 h2=>h p i re o h1 (by omega)]
theorem Run.before(R:Run E self base ops sl ord T M){x:Tmp}{p i:Nat}{re:List Nat}{o:SOp}(hp:ord[p]? =some (i,re))(ho:sl[i]? =some o)(hd:o.dst=some x){k:Nat}(hk:k<=p):(T k).getD x undef=(T 0).getD x undef:=by
 have hpl:=R.klt hp
 have:=R.keep (x:=x) (k:=0) k (by omega) λp' i' re' o' _ h2 h3 h4 h5=>by
  have:=R.chk.ssa i i' o o' x ho h4 hd h5
  subst this
  have:=R.chk.uniq p p' i re re' hp h3
  omega
 rwa[Nat.zero_add] at this
theorem Run.after(R:Run E self base ops sl ord T M){x:Tmp}{p i:Nat}{re:List Nat}{o:SOp}(hp:ord[p]? =some (i,re))(ho:sl[i]? =some o)(hd:o.dst=some x){k:Nat}(hk:p<k)(hkn:k<=ops.size):(T k).getD x undef=(T ops.size).getD x undef:=by
 have:=R.keep (x:=x) (k:=k) (ops.size-k) (by omega) λp' i' re' o' h1 h2 h3 h4 h5=>by
  have:=R.chk.ssa i i' o o' x ho h4 hd h5
  subst this
  have:=R.chk.uniq p p' i re re' hp h3
  omega
 rw[show k+(ops.size-k)=ops.size from by omega] at this
 exact this.symm
theorem Run.never(R:Run E self base ops sl ord T M){x:Tmp}(h:∀(i:Nat) (o:SOp),sl[i]? =some o->o.dst≠some x){k:Nat}(hk:k<=ops.size):(T k).getD x undef=(T 0).getD x undef:=by
 have:=R.keep (x:=x) (k:=0) k (by omega) λp i re o _ _ _ h4=>h i o h4
 rwa[Nat.zero_add] at this
def MadeAt(base:Nat)(sl:List SOp)(ord:List (Nat×List Nat))(M:Nat->Mem)(k b:Nat)(o:AObj):Prop:=
 ∃i re,ord[k]? =some (i,re)∧clsAt sl i= .make∧b=base+i∧(M (k+1)).get b=some o
def WSpec(base:Nat)(sl:List SOp)(ord:List (Nat×List Nat))(M:Nat->Mem)(n q:Nat)(V:Mem):Prop:=
 V.next=(M q).next∧∀b o,V.get b=some o↔((M q).get b=some o∨∃k,q<=k∧k<n∧MadeAt base sl ord M k b o)
theorem Run.exists_W(R:Run E self base ops sl ord T M){q:Nat}(hq:q<=ops.size):∃V,WSpec base sl ord M ops.size q V:=by
 have key:∀r,q+r<=ops.size->∃V:Mem,V.next=(M q).next∧∀b o,V.get b=some o↔((M q).get b=some o∨∃k,q<=k∧k<q+r∧MadeAt base sl ord M k b o):=by
  intro r
  induction r with
  |zero=>exact λ_=>⟨M q,rfl,λb o=>⟨.inl,λh=>h.elim id λ⟨k,h1,h2,_⟩=>by omega⟩⟩
  |succ r ih=>
   intro hr
   obtain⟨V,h1,h2⟩:=ih (by omega)
   obtain⟨i,re,hi⟩:=R.at_ (k:=q+r) (by omega)
   by_cases hm:clsAt sl i= .make∧∃o,(M (q+r+1)).get (base+i)=some o
   ·obtain⟨hm,o0,ho0⟩:=hm
    refine⟨V.put (base+i) o0,h1,λb o=>?_⟩
    rw[gP]
    by_cases hb:b=base+i
    ·rw[if_pos hb]
     constructor
     ·intro h
      cases h
      exact .inr ⟨q+r,by omega,by omega,i,re,hi,hm,hb,hb▸ho0⟩
     ·rintro(h|⟨k,g1,g2,i',re',g3,g4,g5,g6⟩)
      ·rw[hb,R.fresh q hq (q+r) i re (by omega) hi] at h
       cases h
      ·have:i'=i:=by omega
       subst this
       have:=R.chk.uniq k (q+r) i' re' re g3 hi
       subst this
       rw[hb,ho0] at g6
       exact g6
    ·rw[if_neg hb,h2]
     constructor
     ·rintro(h|⟨k,g1,g2,g3⟩)
      ·exact .inl h
      ·exact .inr ⟨k,g1,by omega,g3⟩
     ·rintro(h|⟨k,g1,g2,i',re',g3,g4,g5,g6⟩)
      ·exact .inl h
      ·refine .inr ⟨k,g1,?_,i',re',g3,g4,g5,g6⟩
       rcases Nat.lt_or_ge k (q+r) with hk|hk
       ·exact hk
       ·have:k=q+r:=by omega
        subst this
        rw[hi] at g3
        cases g3
        exact absurd g5 hb
   ·refine⟨V,h1,λb o=>?_⟩
    rw[h2]
    constructor
    ·rintro(h|⟨k,g1,g2,g3⟩)
     ·exact .inl h
     ·exact .inr ⟨k,g1,by omega,g3⟩
    ·rintro(h|⟨k,g1,g2,i',re',g3,g4,g5,g6⟩)
     ·exact .inl h
     ·refine .inr ⟨k,g1,?_,i',re',g3,g4,g5,g6⟩
      rcases Nat.lt_or_ge k (q+r) with hk|hk
      ·exact hk
      ·have:k=q+r:=by omega
       subst this
       rw[hi] at g3
       cases g3
       exact absurd ⟨g4,o,g5▸g6⟩ hm
 obtain⟨V,h1,h2⟩:=key (ops.size-q) (by omega)
 refine⟨V,h1,λb o=>?_⟩
 rw[h2,show q+(ops.size-q)=ops.size from by omega]
def Calm(sl:List SOp)(ord:List (Nat×List Nat))(T:Nat->List Value)(k:Nat):Prop:=
 ∃i re o,ord[k]? =some (i,re)∧sl[i]? =some o∧(isEff sl i=false∨wanted o.guard (T k)=false)
theorem clsAt_eq{sl:List SOp}{i:Nat}{o:SOp}(h:sl[i]? =some o):clsAt sl i=cls o.op:=by simp[clsAt,h]
theorem Run.calm(R:Run E self base ops sl ord T M){k:Nat}(h:Calm sl ord T k):(M (k+1)).next=(M k).next∧∀b o,(M (k+1)).get b=some o↔((M k).get b=some o∨MadeAt base sl ord M k b o):=by
 obtain⟨i,re,o,hi,ho,hc⟩:=h
 obtain⟨o2,h1,h2,_⟩:=R.tr.step k i re hi
 rw[ho] at h1
 cases h1
 have hk:=R.klt hi
 have same:M (k+1)=M k->(M (k+1)).next=(M k).next∧∀b o,(M (k+1)).get b=some o↔((M k).get b=some o∨MadeAt base sl ord M k b o):=λe=>by
  refine⟨by rw[e],λb ob=>⟨λh=> .inl (e▸h),?_⟩⟩
  rintro(h|⟨i',re',_,_,_,g4⟩)
  ·rw[e];exact h
  ·exact g4
 obtain⟨v,_,h3⟩:=stepOp_put h2
 rcases h3 with⟨hw,h3⟩|⟨hw,_,h3⟩
 ·have hne:isEff sl i=false:=hc.resolve_right (by rw[hw];simp)
  have hcls:cls o.op≠ .eff:=by
   intro e
   simp[isEff,clsAt_eq ho,e] at hne
  unfold opA at h3
  split at h3
  ·split at h3
   ·simp only[sI,pI] at h3
    exact same h3.2.symm
   ·cases h3
  ·split at h3
   ·simp only[sI,pI] at h3
    exact same h3.2.symm
   ·cases h3
  ·rename_i hmk
   split at h3
   ·rename_i ob mk hm
    simp only[sI,pI] at h3
    have e:=h3.2.symm
    refine⟨by rw[e];rfl,λb o'=>?_⟩
    constructor
    ·intro h
     have h':=h
     rw[e,gP] at h
     split at h
     ·rename_i hb
      exact .inr ⟨i,re,hi,by rw[clsAt_eq ho,hmk],hb,h'⟩
     ·exact .inl h
    ·rintro(h|⟨i',re',_,_,_,g4⟩)
     ·rw[e,gP]
      split
      ·rename_i hb
       rw[hb,R.fresh k (by omega) k i re (lR' _) hi] at h
       cases h
      ·exact h
     ·exact g4
   ·cases h3
  ·rename_i hef
   exact absurd hef hcls
 ·exact same h3
theorem Run.adv(R:Run E self base ops sl ord T M){q:Nat}{V:Mem}(hq:q<ops.size)(h:Calm sl ord T q)(hW:WSpec base sl ord M ops.size q V):WSpec base sl ord M ops.size (q+1) V:=by
 obtain⟨h1,h2⟩:=R.calm h
 refine⟨hW.1.trans h1.symm,λb o=>?_⟩
 rw[hW.2,h2]
 constructor
 ·rintro(g|⟨k,g1,g2,g3⟩)
  ·exact .inl (.inl g)
  ·rcases Nat.lt_or_ge q k with hk|hk
   ·exact .inr ⟨k,hk,g2,g3⟩
   ·have:k=q:=by omega
    subst this
    exact .inl (.inr g3)
 ·rintro((g|g)|⟨k,g1,g2,g3⟩)
  ·exact .inl g
  ·exact .inr ⟨q,lR' _,hq,g⟩
  ·exact .inr ⟨k,by omega,g2,g3⟩
theorem Run.adv_many(R:Run E self base ops sl ord T M){q:Nat}{V:Mem}(hW:WSpec base sl ord M ops.size q V):∀d,q+d<=ops.size->(∀p,q<=p->p<q+d->Calm sl ord T p)->WSpec base sl ord M ops.size (q+d) V
 |0,_,_=>hW
 |d+1,hd,h=>R.adv (q:=q+d) (by omega) (h _ (by omega) (by omega)) (R.adv_many hW d (by omega) λp h1 h2=>h p h1 (by omega))
theorem Run.adv_to(R:Run E self base ops sl ord T M){q p:Nat}{V:Mem}(hW:WSpec base sl ord M ops.size q V)(hqp:q<=p)(hp:p<=ops.size)(h:∀k,q<=k->k<p->Calm sl ord T k):WSpec base sl ord M ops.size p V:=by
 have:=R.adv_many hW (p-q) (by omega) λk h1 h2=>h k h1 (by omega)
 rwa[show q+(p-q)=p from by omega] at this
theorem WSpec.rel{q n:Nat}{V:Mem}{ρ:Rho}{w:World}(hW:WSpec base sl ord M n q V)(hR:Rel σ ρ V w):Rel σ ρ (M q) w:=hR.sub (λb o h=>(hW.2 b o).2 (.inl h)) hW.1.symm
end
end
end Go.Ab
