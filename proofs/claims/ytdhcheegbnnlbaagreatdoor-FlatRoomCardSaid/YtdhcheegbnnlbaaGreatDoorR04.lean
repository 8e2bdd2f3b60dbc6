/- Part. -/
import Derived.Test.YtdhcheegbnnlbaaGreatDoorR03
import Derived.LoopNIn
import Derived.Below
set_option linter.all false
open Go.Ab.Mem renaming next_bump → bN, get_put → gP
open List renaming getD_eq_getElem?_getD → gD', getElem?_eq_getElem → gE', getElem?_map → gM', length_set → sL
open Option.some renaming injEq → sI
open Prod.mk renaming injEq → pI
open Nat renaming le_refl → lR', le_trans → lT
open Option renaming map_eq_some_iff → mE
open Bool renaming and_eq_true → bT, false_eq_true → bF
namespace Go.Ab
section
variable{σ:Sig}
variable{P:Program}
def zxL(F:Fence)(n:Nat)(P:Program)(c r:Code)(Q:Exit->Act->World->Prop)(a:Act)(w:World):Prop:=
 ∀(b:Frame) (k:List Item) (cs:List Frame),b.roundOf=F.round->F.fn b.fn->F.room (cs.length+1+n)->
  ∃e a' w',Q e a' w'∧ArrivesIn (Machine.fenced P F) P (lone (b.atR a (.code r:: .inScope c::k)) cs w) b k cs e a' w'
theorem zjf{F:Fence}{n:Nat}{Q Q1:Exit->Act->World->Prop}{a:Act}{w:World}{c r:Code}(h:r.wpIn F n P Q1 a w)(hok:∀e a w,Q1 e a w->okX e=true)
  (hg:∀l rest a1 w1,Q1 (.goto l) a1 w1->findLabel c l=some rest->zxL F n P c rest Q a1 w1)
  (hq:∀e a1 w1,Q1 e a1 w1->(∀l,e= .goto l->findLabel c l=none)->Q e a1 w1):zxL F n P c r Q a w:=by
 intro b k cs hro hb hr;obtain⟨e,a₁,w₁,hQ,harr⟩:=h b (.inScope c::k) cs hro hb hr;have hx:=hok _ _ _ hQ;cases e with
 |normal=>exact⟨.normal,a₁,w₁,hq _ _ _ hQ (λl e=>by cases e),StepsIn.trans harr (.one (fenced_calm hb hr rfl) (step_lone_go (by simp[stepG,stepG.exec,Frame.atR])))⟩
 |exit id=>
  have hx:∀k,exitTo id (.inScope c::k)=exitTo id k:=λk=>by simp[exitTo]
  exact⟨.exit id,a₁,w₁,hq _ _ _ hQ (λl e=>by cases e),λk' hk=>harr.1 k' (by rw[hx];exact hk),
   λhr' hk=>harr.2 hr' (by rw[hx];exact hk)⟩
 |ret=>exact⟨_,a₁,w₁,hq _ _ _ hQ (λl e=>by cases e),harr⟩
 |goto l=>
  cases hf:findLabel c l with
  |some rest=>
   have hgo:gotoIn l (.inScope c::k)=some (.code rest:: .inScope c::k):=by simp[gotoIn,hf]
   obtain⟨e2,a₂,w₂,hQ2,harr2⟩:=hg l rest a₁ w₁ hQ hf b k cs hro hb hr;exact⟨e2,a₂,w₂,hQ2, .of_steps (harr.1 _ hgo) harr2⟩
  |none=>
   have hgo:gotoIn l (.inScope c::k)=gotoIn l k:=by simp[gotoIn,hf]
   exact⟨.goto l,a₁,w₁,hq _ _ _ hQ (λl' e=>by cases e;exact hf),λk' hk=>harr.1 k' (by rw[hgo];exact hk),
    λhr' hk=>harr.2 hr' (by rw[hgo];exact hk)⟩
 |panic ch=>cases hx
 |outgrown=>cases hx
theorem zxL.mono{F:Fence}{n:Nat}{Q Q':Exit->Act->World->Prop}{a:Act}{w:World}{c r:Code}(h:zxL F n P c r Q a w)(hq:∀e a w,Q e a w->Q' e a w):zxL F n P c r Q' a w:=
 λb k cs h1 h2 h3=>let⟨e,a',w',g1,g2⟩:=h b k cs h1 h2 h3;⟨e,a',w',hq _ _ _ g1,g2⟩
theorem zie{F:Fence}{n:Nat}{Q:Exit->Act->World->Prop}{a:Act}{w:World}{c:Code}(h:zxL F n P c c Q a w):(Code.scope c).wpIn F n P Q a w:=by intro b k cs hro hb hr;have h0:(lone (b.atR a (.code (.scope c)::k)) cs w).fenced P F:=fenced_calm hb hr rfl;have s0:Go.step P (lone (b.atR a (.code (.scope c)::k)) cs w)= .next (lone (b.atR a (.code c:: .inScope c::k)) cs w):=step_lone_go (by simp[stepG,stepG.exec,Frame.atR]);obtain⟨e,a₁,w₁,hQ,harr⟩:=h b k cs hro hb hr;exact⟨e,a₁,w₁,hQ, .of_steps (.one h0 s0) harr⟩
theorem zcP{F:Fence}{n:Nat}{c:Code}{Q Q':Exit->Act->World->Prop}(hq:∀e a w,Q e a w->Q' e a w):∀(m:Nat) {a:Act} {w:World},Code.roundsIn F n P c Q m a w->Code.roundsIn F n P c Q' m a w
 |0,_,_,h=>h.elim
 |m+1,a,w,h=>by
  rw[roundsIn_succ] at h⊢;refine wpIn_mono h λe a w hh=>?_;cases e with
  |normal=>exact zcP hq m hh
  |_=>exact hq _ _ _ hh
def wpx(N:Nat)(F:Fence)(P:Program)(k:Code)(Q:Exit->Act->World->Prop)(a:Act)(w:World):Prop:=match k with
 | .loop c=>c.roundsIn F 0 P Q N a w
 |k=>k.wpIn F 0 P Q a w
theorem zAE{N:Nat}{F:Fence}{k:Code}{Q:Exit->Act->World->Prop}{a:Act}{w:World}(h:wpx N F P k Q a w):k.wpIn F 0 P Q a w:=by
 cases k<;>first|exact h|skip
 exact wpIn_loop_rounds N h
def zge(σ:Sig)(P:Program)(rd:Option Nat)(c:zan)(t:List Value)(m:Mem)(x:Exit)(t':List Value)(m':Mem):Prop:=
 ∃N,∀(k:Code) ρ w (a:Act) l lo,zbw k=some c->Rel σ ρ m w->zat σ ρ t a.tmps.toList->zbQ lo w a.defers->lo<=w.heap.size->zfA ρ rd l->
  wpx N (Fr l) P k (ze4 σ ρ m w lo x t' m') a w
structure zyB(σ:Sig)(P:Program)(slf:zdv):Prop extends zdh σ P slf where
 code2:∀rd c t m x t' m',slf (.code rd c t) m=some (.exit x t',m')->zge σ P rd c t m x t' m'
def zpU(σ:Sig)(P:Program)(rd:Option Nat)(b r:zan)(t:List Value)(m:Mem)(x:Exit)(t':List Value)(m':Mem):Prop:=
 ∀(kb kr:Code) ρ w (a:Act) l lo,zbw kb=some b->zbw kr=some r->Rel σ ρ m w->zat σ ρ t a.tmps.toList->zbQ lo w a.defers->lo<=w.heap.size->zfA ρ rd l->
  zxL (Fr l) 0 P kb kr (ze4 σ ρ m w lo x t' m') a w
structure zmr(σ:Sig)(P:Program)(slf:zdv):Prop extends zyB σ P slf where
 again:∀rd b r t m x t' m',slf (.code rd (.again b r) t) m=some (.exit x t',m')->zpU σ P rd b r t m x t' m'
theorem zge.one{rd:Option Nat}{c:zan}{t:List Value}{m:Mem}{x:Exit}{t':List Value}{m':Mem}(h:zge σ P rd c t m x t' m'):zhn σ P rd c t m x t' m':=by obtain⟨N,h⟩:=h;exact λk ρ w a l lo h1 h2 h3 h4 h5 h6=>zAE (h k ρ w a l lo h1 h2 h3 h4 h5 h6)
theorem ze4.trans{ρ ρ1:Rho}{m m1 m':Mem}{w w1 w':World}{lo:Nat}{x e:Exit}{t':List Value}{a':Act}(hp:zaN σ ρ m w ρ1 m1 w1)(ho:Old m.next ρ ρ1)(h:ze4 σ ρ1 m1 w1 lo x t' m' e a' w'):
  ze4 σ ρ m w lo x t' m' e a' w':=by
 obtain⟨h1,h2,ρ',h3,h4,h5,h6⟩:=h;exact⟨h1,h2,ρ',h3,h4,hp.trans h5,ho.trans h6 hp.next⟩
theorem ze4.here{ρ:Rho}{m:Mem}{w:World}{lo:Nat}{x:Exit}{t:List Value}{a:Act}(hx:okX x=true)(hR:Rel σ ρ m w)(ht:zat σ ρ t a.tmps.toList)(hm:zbQ lo w a.defers):ze4 σ ρ m w lo x t m x a w:=
 ⟨rfl,hx,ρ,ht,hm,zaN.refl hR,Old.refl _ _⟩
def znv(tmps:Array Value)(r:ResultVar):Sem Value:=match r with
 | .tmp t=>pure (tmps.getD t undef)
 | .cell a t=>do loadVar t (<-asAddr (tmps.getD a undef))
theorem zoV(fn:Func)(tmps:Array Value):results fn tmps=(do
  let vs<-fn.results.mapM (znv tmps)
  pure (if h:vs.size=1 then vs[0] else .tuple vs)):=by
 unfold results;congr 1
theorem zik{ρ:Rho}{m:Mem}{w:World}(hR:Rel σ ρ m w){t:List Value}{tmps:Array Value}(ht:zat σ ρ t tmps.toList){fn:Func}{vs:List Value}(h:zeh P t m fn.results.toList=some vs):
  ∃v',(results fn tmps).run P w= .ok v' w∧zaq σ ρ (zdb vs) v':=by
 have key:∀(rs:List ResultVar) (vs:List Value),zeh P t m rs=some vs->∃vs':List Value,zat σ ρ vs vs'∧
   (rs.mapM (znv tmps)).run P w= .ok vs' w:=by
  intro rs
  induction rs with
  |nil=>intro vs h;simp only[zeh,sI] at h;subst h;exact⟨[],zat.nil ρ,by simp⟩
  |cons r rs ih=>
   intro vs h;have ht':∀k,zaq σ ρ (t.getD k undef) (tmps.getD k undef):=λk=>by rw[zaw];exact ht.at_ k
   cases r with
   |tmp k=>
    simp only[zeh] at h;split at h
    ·rename_i us hus;simp only[sI] at h;subst h;obtain⟨vs',g1,g2⟩:=ih _ hus;exact⟨_,zat.cons (ht' k) g1,by simp only[List.mapM_cons,znv,Sem.run_bind,Sem.run_pure,g2,Result.andThen]⟩
    ·cases h
   |cell k ty=>
    simp only[zeh] at h;split at h
    ·rename_i v us hv hus;simp only[sI] at h;subst h;obtain⟨vs',g1,g2⟩:=ih _ hus;obtain⟨v',g3,g4⟩:=ziM (P:=P) hR (ht' k) hv;refine⟨_,zat.cons g3 g1,?_⟩;have:(do loadVar ty (<-asAddr (tmps.getD k undef)):Sem Value).run P w= .ok v' w:=by
      have hk:=ht' k;unfold zdo at hv;split at hv
      ·rename_i b o e;rw[e] at hk;obtain⟨b',off,sl,_,e2⟩:=hk.ptr_inv;rw[e2] at g4⊢;simpa [Instr.loadAt,Instr.sureAddr,asAddr] using g4
      ·cases hv
     have this2:(znv tmps (.cell k ty)).run P w= .ok v' w:=this;simp only[List.mapM_cons,Sem.run_bind];rw[this2];simp only[g2,Result.andThen,Sem.run_pure]
    ·cases h
 obtain⟨vs',g1,g2⟩:=key _ _ h;refine⟨if h:vs'.toArray.size=1 then vs'.toArray[0] else .tuple vs'.toArray,?_,?_⟩
 ·rw[zoV,Array.mapM_eq_mapM_toList];simp only[Sem.run_bind,map_eq_pure_bind,g2,Result.andThen,Sem.run_pure]
 ·cases vs with
  |nil=>cases vs' with
   |nil=>exact zat.tuple (zat.nil ρ)
   |cons=>exact absurd g1.1 (by simp)
  |cons v vs=>cases vs' with
   |nil=>exact absurd g1.1 (by simp)
   |cons v' vs'=>
    cases vs with
    |nil=>cases vs' with
     |nil=>simpa [zdb] using g1.head
     |cons=>exact absurd g1.1 (by simp)
    |cons u vs=>cases vs' with
     |nil=>exact absurd g1.1 (by simp)
     |cons u' vs'=>simpa [zdb] using zat.tuple (cs:=(v::u::vs).toArray) (cs':=(v'::u'::vs').toArray) g1
theorem zaN.shut{ρ ρ':Rho}{m m':Mem}{w w':World}(h:zaN σ ρ m w ρ' m' w'){r:Nat}(hr:w'.heap[r]? =some (.deferred (some [])))(hlo:w.heap.size<=r):zaN σ ρ m w ρ' m' (w'.putObj r (.deferred none)):=by
 have hfar:∀k,k≠r->(w'.putObj r (.deferred none)).heap[k]? =w'.heap[k]? :=λk hk=>World.putObj_heap_other hk;refine⟨⟨h.rel.dom,h.rel.glob,λb o x hb hx=>?_,h.rel.inj,h.rel.fresh⟩,h.ext,h.next,by simpa using h.size,h.os,h.tape,h.output,λk hk hf=>?_,h.img⟩
 ·have:=h.rel.obj b o x hb hx;exact this.keep (Ext.refl _) (hfar _ λe=>this.not_deferred (e▸hr))
 ·rw[hfar k (by omega)];exact h.frame k hk hf
theorem zhk{ρ ρ':Rho}{m m':Mem}{w:World}{fn:Func}{tmps:Array Value}{t vs:List Value}(ht:zat σ ρ' t tmps.toList)(hold:Old m.next ρ ρ')(h:zeh P t m' fn.results.toList=some vs):
  ∀(ds:List Deferred) (w':World),zbQ w.heap.size w' ds->zaN σ ρ m w ρ' m' w'->LeavesInM Fence.wide 0 P fn tmps (Ret σ ρ m w (zdb vs) m') ds .returning w'
 |[],w',_,hp=>by obtain⟨v',g1,g2⟩:=zik hp.rel ht h;exact⟨v',g1,v',ρ',rfl,g2,hp,hold⟩
 |d::ds,w',hm,hp=>by
  obtain⟨⟨r,h1,h2,h3,h4⟩,h5⟩:=hm;refine⟨by simp, .inl ⟨r,_,h1,run_takeDeferred h3,?_⟩⟩;refine zhk ht hold h ds _ ?_ (hp.shut h3 h2);have:∀(l:List Deferred),(∀d'∈l,d'.target≠ .collected r)->zbQ w.heap.size w' l->zbQ w.heap.size (w'.putObj r (.deferred none)) l:=by
   intro l
   induction l with
   |nil=>exact λ_ _=>trivial
   |cons d' l ih=>rintro hne ⟨⟨r',k1,k2,k3,k4⟩,k5⟩;have hrr:r'≠r:=λe=>hne d' (by simp) (e▸k1);exact⟨⟨r',k1,k2,(World.putObj_heap_other hrr).trans k3,k4⟩,ih (λd'' hd=>hne d'' (by simp[hd])) k5⟩
  exact this ds h4 h5
theorem zy1{E:Env}{self:zdv}(hE:E.P=P)(hs:zdh σ P self)(hprim:∀f p args m v m',E.prim f=some p->p args m=some (v,m')->zc5 σ P f args m v m'){f:FuncId}{args:List Value}{m m':Mem}{v:Value}
  (h:step E self (.call f args) m=some (.val v,m')):zc5 σ P f args m v m':=by
 subst hE;simp only[step] at h;split at h
 ·rename_i p hp;split at h
  ·rename_i u m2 hu;simp only[sI,pI,Out.val.injEq] at h;obtain⟨rfl,rfl⟩:=h;exact hprim _ _ _ _ _ _ hp hu
  ·cases h
 ·split at h
  ·cases h
  ·rename_i s hf;split at h
   ·rename_i x t' m2 hb;have key:(x= .normal∨x= .ret)∧∃vs,zeh E.P t' m2 s.results=some vs∧zdb vs=v∧m2=m':=by
     cases hr:zeh E.P t' m2 s.results with
     |none=>rw[hr] at h;cases x<;>simp at h
     |some vs=>rw[hr] at h;cases x<;>simp at h<;>simp[h]
    obtain⟨hx,vs,hvs,rfl,rfl⟩:=key;clear h;unfold zaG at hf;split at hf
    ·rename_i fn hfn;split at hf
     ·rename_i c hc;split at hf
      ·rename_i sc hsc;simp only[sI] at hf;subst hf;intro ρ w args' hR hargs;refine callsIn_of_wp_marks hfn hc trivial ?_ rfl;have hlen:args.length=args'.size:=by simpa using hargs.1
       refine wpIn_mono (hs.code _ _ _ _ _ _ _ hb c ρ w _ none w.heap.size hsc hR ?_ trivial (lR' _) trivial) ?_
       ·simp only[Array.toList_append,Array.toList_replicate];refine hargs.append ?_;rw[hlen];exact zat.replicate ρ (zaq.undef ρ) _
       ·rintro e a' w' ⟨rfl,hok,ρ',g1,g2,g3,g4⟩;rcases hx with rfl|rfl
        ·exact zhk g1 g4 hvs _ _ g2 g3
        ·exact zhk g1 g4 hvs _ _ g2 g3
      ·cases hf
     ·cases hf
    ·cases hf
   ·cases h
theorem ziz{ρ:Rho}:∀(ps:List Tmp) (as as':List Value) (t:List Value) (t':Array Value),zat σ ρ as as'->zat σ ρ t t'.toList->
  zat σ ρ (zco ps as t) ((ps.zip as').foldl (λtmps (p:Tmp×Value)=>tmps.setIfInBounds p.1 p.2) t').toList
 |[],as,as',t,t',_,ht=>by simpa [zco] using ht
 |p::ps,[],as',t,t',ha,ht=>by
  cases as' with
  |nil=>simpa [zco] using ht
  |cons=>exact absurd ha.1 (by simp)
 |p::ps,a::as,as',t,t',ha,ht=>by
  cases as' with
  |nil=>exact absurd ha.1 (by simp)
  |cons a' as'=>simp only[zco,List.zip_cons_cons,List.foldl_cons];refine ziz ps as as' _ _ ha.tail ?_;rw[Array.toList_setIfInBounds];exact ht.set ha.head p
theorem znX{E:Env}{self:zdv}(hs:zdh σ P self){l:Nat}{args:List Value}{m m':Mem}{v:Value}
  (h:step E self (.round l args) m=some (.val v,m')):zex σ P l args m v m':=by
 intro ρ w args' l' off sl hR hl hargs;simp only[step] at h;split at h
 ·rename_i r hr;split at h
  ·rename_i hrs;obtain⟨hps,hst⟩:=hrs;obtain⟨r',k1,k2,k3,k4,k5,k6,k7⟩:=hR.obj l _ _ hr hl;have hsize:args'.size=r'.params.size:=by
    have h1:=hargs.1;have h2:r'.params.toList.length=r.ps.length:=by rw[k5]
    simp at h1 h2;omega
   refine⟨_,_,_,_,run_yield k1 hsize,?_⟩;split at h
   ·rename_i t1 m1 hasg;split at h
    ·rename_i r1 hr1;split at h
     ·rename_i hready;refine roundIn_of_wpIn trivial ?_;have ht0:zat σ ρ (zco r.ps args r.tmps) ((r'.params.zip args').foldl (λtmps (p:Tmp×Value)=>tmps.setIfInBounds p.1 p.2) r'.tmps).toList:=by rw[<-Array.foldl_toList,Array.toList_zip,k5];exact ziz _ _ _ _ _ hargs k4
      have hwp:=hs.code _ _ _ _ _ _ _ hasg r'.assign ρ w {tmps:=_,defers:=[]} (some l') w.heap.size k6 hR ht0 trivial (lR' _) ⟨off,sl,hl⟩;refine wpIn_mono hwp ?_;rintro e a1 w1 ⟨rfl,_,ρ1,g1,g2,g3,g4⟩;have hl1:=g3.ext _ _ hl;obtain⟨r1',q1,q2,q3,q4,q5,q6,q7⟩:=g3.rel.obj l _ _ hr1 hl1;refine⟨_,run_beginRound q1 (q2.trans hready),?_⟩;have hp1:=zaN.turn g3.rel hr1 hl1 rfl (zas (o':= .loop {r1' with state:= .busy}) q1) (ob':= .loop {r1 with state:= .busy}) ⟨_,(zas q1).at_,rfl,q3,q4,q5,q6,q7⟩;have hpp:=g3.trans hp1;split at h
      ·rename_i x t3 m3 hbody;split at h
       ·rename_i r3 hr3;have hlo:w.heap.size<=(w1.putObj l' (.loop {r1' with state:= .busy})).heap.size:=hpp.size;refine wpIn_mono (hs.code _ _ _ _ _ _ _ hbody r'.body ρ1 _ a1 (some l') w.heap.size k7 hpp.rel g1 (g2.post g3.rel hp1) hlo ⟨off,sl,hl1⟩) ?_;rintro e a3 w3 ⟨rfl,hokx,ρ3,j1,j2,j3,j4⟩;have hl3:=j3.ext _ _ hl1;obtain⟨r3',i1,i2,i3,i4,i5,i6,i7⟩:=j3.rel.obj l _ _ hr3 hl3;have old:Old m.next ρ ρ3:=g4.trans j4 hpp.next;have fin:∀(jump:Option Code) (jp:Option Exit) (st:LoopState) (b:Bool),st=(if jump.isNone then .ready else .done)->b=jump.isNone->zqg jp jump->
          some (Out.val (.bool b),m3.put l (.loop {r3 with state:=st,pend:=jp}))=some (Out.val v,m')->
          ∃v0 w',(Instr.endRound l' jump).run P w3= .ok v0 w'∧Ret σ ρ m w v m' (.returned v0) w':=by
         intro jump jp st b hst hb hj heq;simp only[sI,pI,Out.val.injEq] at heq;obtain⟨rfl,rfl⟩:=heq;subst hb hst;refine⟨_,_,run_endRound jump i1,_,ρ3,rfl, .bool _,?_,old⟩;refine(hpp.trans j3).trans (zaN.turn j3.rel hr3 hl3 rfl (zas i1) ⟨_,(zas i1).at_,rfl,hj,i4,i5,i6,i7⟩)
        split at h
        ·exact fin none none _ _ rfl rfl trivial h
        ·exact fin (some .ret) (some .ret) _ _ rfl rfl trivial h
        ·exact fin (some (.exit _)) (some (.exit _)) _ _ rfl rfl rfl h
        ·cases h
       ·cases h
      ·cases h
     ·cases h
    ·cases h
   ·cases h
  ·cases h
 ·cases h
theorem zaN.far{ρ:Rho}{m:Mem}{w:World}(hR:Rel σ ρ m w)(co:Obj):zaN σ ρ m w ρ m (w.alloc co):=by
 have hold:∀k,k<w.heap.size->(w.alloc co).heap[k]? =w.heap[k]? :=λk hk=>by show(w.heap.push co)[k]? =_;rw[Array.getElem?_push,if_neg (by omega)]
 refine⟨⟨hR.dom,hR.glob,λb o x hb hx=>?_,hR.inj,hR.fresh⟩,Ext.refl _,lR' _,by simp,rfl,rfl,rfl,λk hk _=>hold k hk,λb o x hb hx _=>⟨b,o,x,hb,hx,rfl,id⟩⟩;have:=hR.obj b o x hb hx;exact this.keep (Ext.refl _) (hold _ this.lt)
theorem znw{ρ:Rho}{m:Mem}{w:World}{lo:Nat}{a:Act}{t:List Value}{rd l:Option Nat}(fn:FuncId){ps:Array Tmp}{asg body:Code}{sa sb:zan}(hR:Rel σ ρ m w)(ht:zat σ ρ t a.tmps.toList)(hm:zbQ lo w a.defers)(hlo:lo<=w.heap.size)
  (hloop:(match rd with|none=>true|some l0=>zmS (m.get l0))=true) (hrd:zfA ρ rd l) (h1:zbw asg=some sa) (h2:zbw body=some sb):
  ∃l' mark w1 ρ1,(Instr.enterLoop fn a.tmps ps asg body l).run P w= .ok (l',mark) w1∧ρ1 m.next=some (l',0,0)∧Old m.next ρ ρ1∧
   zaN σ ρ m w ρ1 ((m.bump 1).put m.next (.loop {state:= .ready,pend:=none,tmps:=t,ps:=ps.toList,assign:=sa,body:=sb})) w1∧zbQ lo w1 (mark++a.defers):=by
 have hid:ρ m.next=none:=hR.dom _ (lR' _);have mk:∀(w0:World) (d:Nat),Rel σ ρ m w0->∃ρ1,ρ1 m.next=some (w0.heap.size,0,0)∧Old m.next ρ ρ1∧
   zaN σ ρ m w0 ρ1 ((m.bump 1).put m.next (.loop {state:= .ready,pend:=none,tmps:=t,ps:=ps.toList,assign:=sa,body:=sb})) (w0.alloc (.loop {state:= .ready,pending:=none,fn,tmps:=a.tmps,params:=ps,assign:=asg,body,defers:=d})):=by
  intro w0 d hR0;refine⟨upd ρ m.next (w0.heap.size,0,0),zbo _ _ _,λb hb e=>by simp[upd,Nat.ne_of_lt hb,e],(zaN.bump hR0 1).trans ?_⟩;refine zaN.make (hR0.bump 1) hid (by simp) rfl ⟨_,World.alloc_heap_new _ _,rfl,trivial,ht.mono (zeB hid _),rfl,h1,h2⟩
 cases rd with
 |none=>
  cases l with
  |some l=>exact hrd.elim
  |none=>
   obtain⟨ρ1,g1,g2,g3⟩:=mk (w.alloc (.deferred (some []))) w.heap.size (zaN.far hR _).rel;refine⟨_,_,_,ρ1,run_enterLoop_outer fn a.tmps ps asg body,by simpa using g1,g2,(zaN.far hR _).trans g3,?_⟩;have hnew:(w.alloc (.deferred (some []))).heap[w.heap.size]? =some (.deferred (some [])):=World.alloc_heap_new _ _;refine⟨⟨w.heap.size,rfl,hlo,g3.deferred (zaN.far hR _).rel hnew,?_⟩,hm.post hR ((zaN.far hR _).trans g3)⟩;have:∀(ds:List Deferred),zbQ lo w ds->∀d'∈ds,d'.target≠ .collected w.heap.size:=by
    intro ds
    induction ds with
    |nil=>intro _ d' hd;cases hd
    |cons d ds ih=>
     rintro⟨⟨r,k1,k2,k3,k4⟩,k5⟩ d' hd;rcases List.mem_cons.1 hd with rfl|hd
     ·rw[k1];intro e;injection e with e;have:=(Array.getElem?_eq_some_iff.1 k3).1;omega
     ·exact ih k5 d' hd
   exact this _ hm
 |some b=>
  cases l with
  |none=>exact hrd.elim
  |some l=>
   obtain⟨off,sl,hb⟩:=hrd;simp only at hloop;cases hg:m.get b with
   |none=>rw[hg] at hloop;cases hloop
   |some ob=>
    rw[hg] at hloop;cases ob with
    |loop r=>obtain⟨r',k1,_⟩:=hR.obj b _ _ hg hb;obtain⟨ρ1,g1,g2,g3⟩:=mk w r'.defers hR;refine⟨w.heap.size,[],_,ρ1,?_,g1,g2,g3,hm.post hR g3⟩;unfold Instr.enterLoop;simp only[Sem.run_bind,run_getLoop k1,run_newObj_alloc,Result.andThen,Sem.run_pure]
    |_=>cases hloop
theorem zAO{E:Env}{self:zdv}(hE:E.P=P)(hs:zdh σ P self){f:Operand}{ps:Array Tmp}{asg body:Code}{sa sb:zan}(hf:zch f=true)(h1:zbw asg=some sa)(h2:zbw body=some sb){rd l:Option Nat}{lo:Nat}{ρ:Rho}{m m':Mem}{w:World}{a:Act}{t t':List Value}{x:Exit}
  (hR:Rel σ ρ m w) (ht:zat σ ρ t a.tmps.toList) (hm:zbQ lo w a.defers) (hlo:lo<=w.heap.size) (hrd:zfA ρ rd l) (h:zao E self rd (.rfn f ps.toList sa sb) t m=some (.exit x t',m')):
  (Code.rangeFunc f ps asg body).wpIn (Fr l) 0 P (ze4 σ ρ m w lo x t' m') a w:=by
 subst hE;simp only[zao] at h;split at h
 ·rename_i g first cap hev
  generalize hcond:(zab E.P g&&_)=bb at h;cases bb with
  |true=>
   simp only[if_true] at h;rw[bT] at hcond;obtain⟨hcall,hloop⟩:=hcond;split at h
   ·rename_i v m2 hc;split at h
    ·rename_i r hr;apply wpIn_rangeFunc;intro fn _;obtain⟨l',mark,w1,ρ1,g1,g2,g3,g4,g5⟩:=znw (P:=E.P) fn hR ht hm hlo hloop hrd h1 h2 (ps:=ps);have hfv:=(zkt hR ht hf).mono g4.ext;rw[hev] at hfv;generalize hff:a.eval f=ff at hfv;cases hfv with
     |func hy hm k1 k2 k3 k4=>
      rename_i fs' cp';refine⟨l',mark,w1,{target:= .fn (.func g) cp',args:=fs'++ #[.func (.yield l') #[] #[]]},w1,g,fs'++ #[.func (.yield l') #[] #[]]++cp',w1,g1,?_,λ_ _=>trivial,?_,λhd=>by simp[Fence.wide] at hd,?_⟩
      ·have hc0:∀v,a.eval (.const v)=v:=λ_=>rfl;simp[resolve,hff,Deferred.ofValue,hc0]
      ·simp[invoke,zdk hcall]
      ·have hargs:zat σ ρ1 (first.toList++ [.func (.yield m.next) #[] #[]]++cap.toList) (fs'++ #[Value.func (.yield l') #[] #[]]++cp').toList:=by simp only[Array.toList_append];exact((zcs k1 k2).append (zat.cons (.yield g2) (zat.nil _))).append (zcs k3 k4)
       refine CallsIn.mono (hs.call _ _ _ _ _ hc ρ1 w1 _ g4.rel hargs) ?_;rintro e w3 ⟨v',ρ3,rfl,j1,j2,j3⟩;have hl3:=j2.ext _ _ g2;obtain⟨r',i1,i2,i3,i4,i5,i6,i7⟩:=j2.rel.obj _ _ _ hr hl3;have hturn:∀st,zaN σ ρ3 m2 w3 ρ3 (m2.put m.next (.loop {r with state:=st})) (w3.putObj l' (.loop {r' with state:=st})):=λst=>
        zaN.turn j2.rel hr hl3 rfl (zas i1) ⟨_,(zas i1).at_,rfl,i3,i4,i5,i6,i7⟩
       split at h
       ·cases h
       ·rename_i hbusy;have hb':r'.state≠ .busy:=by rw[i2];exact hbusy
        have hp:=(g4.trans j2).trans (hturn .exhausted);have hold:Old m.next ρ ρ3:=g3.trans j3 g4.next;have hmk:zbQ lo (w3.putObj l' (.loop {r' with state:= .exhausted})) (mark++a.defers):=g5.post g4.rel (j2.trans (hturn .exhausted));have htt:zat σ ρ3 t a.tmps.toList:=ht.mono (g4.ext.trans j2.ext);have base:∀x0,okX x0=true->ze4 σ ρ m w lo x0 t (m2.put m.next (.loop {r with state:= .exhausted})) x0 {a with defers:=mark++a.defers} (w3.putObj l' (.loop {r' with state:= .exhausted})):=
         λx0 hx0=>⟨rfl,hx0,ρ3,htt,hmk,hp,hold⟩
        refine⟨r'.pending,_,run_endLoop i1 hb',?_⟩;cases hpd:r.pend with
        |none=>
         rw[hpd] at h i3 base;simp only[sI,pI,Out.exit.injEq] at h;obtain⟨⟨rfl,rfl⟩,rfl⟩:=h;cases hpp:r'.pending with
         |none=>rw[hpp] at base;exact base .normal rfl
         |some c=>rw[hpp] at i3;exact i3.elim
        |some y=>
         rw[hpd] at h i3 base;simp only at h;split at h
         ·simp only[sI,pI,Out.exit.injEq] at h;obtain⟨⟨rfl,rfl⟩,rfl⟩:=h;cases hpp:r'.pending with
          |none=>rw[hpp] at i3;cases y<;>exact i3.elim
          |some c=>
           rw[hpp] at i3 base;cases y with
           |ret=>cases c<;>first|(exact i3.elim)|skip
                 exact wpIn_ret (base .ret rfl)
           |exit i=>cases c<;>first|(exact i3.elim)|skip
                    rename_i j;have:i=j:=i3;subst this;exact wpIn_exit (base (.exit _) rfl)
           |_=>cases c<;>exact i3.elim
         ·cases h
    ·cases h
   ·cases h
  |false=>simp at h
 ·cases h
theorem zkx{k:Code}(h1:zbw k=some (.skip)):k= .skip:=by cases k<;>simp only[zbw] at h1<;>(try split at h1)<;>(try split at h1)<;>(try split at h1)<;>(try cases h1);rfl
theorem ziL{k:Code}{i:Nat}(h1:zbw k=some (.label i)):k= .label i:=by cases k<;>simp only[zbw] at h1<;>(try split at h1)<;>(try split at h1)<;>(try split at h1)<;>(try cases h1);rfl
theorem zp8{k:Code}{i:Nat}(h1:zbw k=some (.goto i)):k= .goto i:=by cases k<;>simp only[zbw] at h1<;>(try split at h1)<;>(try split at h1)<;>(try split at h1)<;>(try cases h1);rfl
theorem zoa{k:Code}{b r:zan}(h1:zbw k=some (.again b r)):False:=by cases k<;>simp only[zbw] at h1<;>(try split at h1)<;>(try split at h1)<;>(try split at h1)<;>(try cases h1)
theorem zkE{k:Code}{i:Nat}(h1:zbw k=some (.exit i)):k= .exit i:=by cases k<;>simp only[zbw] at h1<;>(try split at h1)<;>(try split at h1)<;>(try split at h1)<;>(try cases h1);rfl
theorem zmO{k:Code}(h1:zbw k=some (.ret)):k= .ret:=by cases k<;>simp only[zbw] at h1<;>(try split at h1)<;>(try split at h1)<;>(try split at h1)<;>(try cases h1);rfl
theorem ziW{k:Code}{a b:zan}(h1:zbw k=some (.seq a b)):∃ka kb,k= .seq ka kb∧zbw ka=some a∧zbw kb=some b:=by cases k<;>simp only[zbw] at h1<;>(try split at h1)<;>(try split at h1)<;>(try split at h1)<;>(try cases h1);exact⟨_,_,rfl,by assumption,by assumption⟩
theorem zkW{k:Code}{o:Operand}{a b:zan}(h1:zbw k=some (.cond o a b)):∃ka kb,k= .cond o ka kb∧zch o=true∧zbw ka=some a∧zbw kb=some b:=by cases k<;>simp only[zbw] at h1<;>(try split at h1)<;>(try split at h1)<;>(try split at h1)<;>(try cases h1);exact⟨_,_,rfl,by assumption,by assumption,by assumption⟩
theorem ziN{k:Code}{i:Nat}{b:zan}(h1:zbw k=some (.block i b)):∃kb,k= .block i kb∧zbw kb=some b:=by cases k<;>simp only[zbw] at h1<;>(try split at h1)<;>(try split at h1)<;>(try split at h1)<;>(try cases h1);exact⟨_,rfl,by assumption⟩
theorem zhe{k:Code}{b:zan}(h1:zbw k=some (.loop b)):∃kb,k= .loop kb∧zbw kb=some b:=by cases k<;>simp only[zbw] at h1<;>(try split at h1)<;>(try split at h1)<;>(try split at h1)<;>(try cases h1);exact⟨_,rfl,by assumption⟩
theorem zia{k:Code}{b:zan}(h1:zbw k=some (.scope b)):∃kb,k= .scope kb∧zbw kb=some b:=by cases k<;>simp only[zbw] at h1<;>(try split at h1)<;>(try split at h1)<;>(try split at h1)<;>(try cases h1);exact⟨_,rfl,by assumption⟩
theorem zm7{k:Code}{sl:List SOp}(h1:zbw k=some (.reg sl)):∃n ops,k= .region n ops false∧zcR ops ops.toList=some sl:=by
 cases k<;>simp only[zbw] at h1<;>(try split at h1)<;>(try split at h1)<;>(try split at h1)<;>(try cases h1);rename_i n ops draw _ hd hst;cases draw
 ·exact⟨_,_,rfl,hst⟩
 ·exact absurd rfl hd
theorem zho{k:Code}{sl:List SOp}{ord:List (Nat×List Nat)}(h1:zbw k=some (.dreg sl ord)):∃n ops,k= .region n ops true∧zcR ops ops.toList=some sl∧zg3 ops sl=some ord:=by cases k<;>simp only[zbw] at h1<;>(try split at h1)<;>(try split at h1)<;>(try split at h1)<;>(try cases h1);rename_i n ops draw _ hd _ hst ho;exact⟨n,ops,by rw[hd],hst,ho⟩
theorem zmX{k:Code}{f:Operand}{ps:List Tmp}{a b:zan}(h1:zbw k=some (.rfn f ps a b)):∃pa ka kb,k= .rangeFunc f pa ka kb∧pa.toList=ps∧zch f=true∧zbw ka=some a∧zbw kb=some b:=by cases k<;>simp only[zbw] at h1<;>(try split at h1)<;>(try split at h1)<;>(try split at h1)<;>(try cases h1);exact⟨_,_,_,rfl,rfl,by assumption,by assumption,by assumption⟩
theorem zf3:∀{c:Code} {s:zan} (l:Nat),zbw c=some s->(findLabel c l=none∧zfh s l=none)∨∃rest r,findLabel c l=some rest∧zfh s l=some r∧zbw rest=some r
 | .seq a b,s,l,h=>by
   simp only[zbw] at h;split at h
   ·rename_i x y hx hy;simp only[sI] at h;subst h;rcases zf3 l hx with⟨g1,g2⟩|⟨rest,r,g1,g2,g3⟩
    ·rcases zf3 l hy with⟨k1,k2⟩|⟨rest,r,k1,k2,k3⟩
     ·exact .inl ⟨by simp[findLabel,g1,k1],by simp[zfh,g2,k2]⟩
     ·exact .inr ⟨rest,r,by simp[findLabel,g1,k1],by simp[zfh,g2,k2],k3⟩
    ·exact .inr ⟨.seq rest b, .seq r y,by simp[findLabel,g1],by simp[zfh,g2],by simp[zbw,g3,hy]⟩
   ·cases h
 | .label k,s,l,h=>by
   simp only[zbw,sI] at h;subst h;by_cases e:(k==l)=true
   ·exact .inr ⟨.skip, .skip,by simp only[findLabel,e,if_true],by simp only[zfh,e,if_true],rfl⟩
   ·exact .inl ⟨by simp[findLabel,e],by simp[zfh,e]⟩
 | .skip,s,l,h=>by simp only[zbw,sI] at h;subst h;exact .inl ⟨rfl,rfl⟩
 | .exit _,s,l,h=>by simp only[zbw,sI] at h;subst h;exact .inl ⟨rfl,rfl⟩
 | .ret,s,l,h=>by simp only[zbw,sI] at h;subst h;exact .inl ⟨rfl,rfl⟩
 | .goto _,s,l,h=>by simp only[zbw,sI] at h;subst h;exact .inl ⟨rfl,rfl⟩
 | .refuse _,s,l,h=>by simp[zbw] at h
 | .cond _ _ _,s,l,h=>by
   simp only[zbw] at h;split at h
   ·split at h
    ·simp only[sI] at h;subst h;exact .inl ⟨rfl,rfl⟩
    ·cases h
   ·cases h
 | .block _ _,s,l,h=>by
   simp only[zbw] at h;split at h
   ·simp only[sI] at h;subst h;exact .inl ⟨rfl,rfl⟩
   ·cases h
 | .loop _,s,l,h=>by
   simp only[zbw] at h;split at h
   ·simp only[sI] at h;subst h;exact .inl ⟨rfl,rfl⟩
   ·cases h
 | .scope _,s,l,h=>by
   simp only[zbw] at h;split at h
   ·simp only[sI] at h;subst h;exact .inl ⟨rfl,rfl⟩
   ·cases h
 | .region _ _ _,s,l,h=>by
   simp only[zbw] at h;split at h
   ·cases h
   ·split at h
    ·split at h
     ·simp only[sI] at h;subst h;exact .inl ⟨rfl,rfl⟩
     ·cases h
    ·simp only[sI] at h;subst h;exact .inl ⟨rfl,rfl⟩
 | .rangeFunc _ _ _ _,s,l,h=>by
   simp only[zbw] at h;split at h
   ·split at h
    ·simp only[sI] at h;subst h;exact .inl ⟨rfl,rfl⟩
    ·cases h
   ·cases h
def zpO(σ:Sig)(E:Env)(self:zdv):Prop:=∀{ops:Array Oper} {sl:List SOp} {ord:List (Nat×List Nat)} {n:Nat},zcR ops ops.toList=some sl->zg3 ops sl=some ord->
 ∀{rd l:Option Nat} {lo:Nat} {ρ:Rho} {m m':Mem} {w:World} {a:Act} {t t':List Value},Rel σ ρ m w->zat σ ρ t a.tmps.toList->zbQ lo w a.defers->
  zao E self rd (.dreg sl ord) t m=some (.exit .normal t',m')->(Code.region n ops true).wpIn (Fr l) 0 E.P (ze4 σ ρ m w lo .normal t' m') a w
theorem ze4.okx{ρ:Rho}{m m':Mem}{w w':World}{lo:Nat}{x e:Exit}{t':List Value}{a':Act}(h:ze4 σ ρ m w lo x t' m' e a' w'):okX e=true:=by obtain⟨rfl,h,_⟩:=h;exact h
theorem zmQ{self:zdv}(hs:zmr σ P self){rd:Option Nat}{b r:zan}{t t':List Value}{m m':Mem}{x:Exit}
  (h:(match self (.code rd r t) m with
   |some (.exit (.goto l) t',m')=>match zfh b l with
    |some r=>self (.code rd (.again b r) t') m'
    |none=>some (.exit (.goto l) t',m')
   |r=>r)=some (.exit x t',m')):zpU σ P rd b r t m x t' m':=by
 intro kb kr ρ w a l lo hkb hkr h2 h3 h4 h5 h6;split at h
 ·rename_i l1 t1 m1 hb;have hw:=hs.code _ _ _ _ _ _ _ hb kr ρ w a l lo hkr h2 h3 h4 h5 h6;rcases zf3 l1 hkb with⟨g1,g2⟩|⟨rest,r1,g1,g2,g3⟩
  ·rw[g2] at h;simp only[sI,pI,Out.exit.injEq] at h;obtain⟨⟨rfl,rfl⟩,rfl⟩:=h;refine zjf hw (λe a w hc=>hc.okx) (λl2 rest a1 w1 hc hf=>?_) λe a1 w1 hc _=>hc;obtain⟨e,_⟩:=hc;cases e;rw[g1] at hf;cases hf
  ·rw[g2] at h;refine zjf hw (λe a w hc=>hc.okx) (λl2 rest2 a1 w1 hc hf=>?_) λe a1 w1 hc hn=>?_
   ·obtain⟨e,_,ρ1,k1,k2,k3,k4⟩:=hc;cases e;rw[g1] at hf;cases hf;refine(hs.again _ _ _ _ _ _ _ _ h kb rest ρ1 w1 a1 l lo hkb g3 k3.rel k1 k2 (lT h5 k3.size) (h6.mono k3.ext)).mono ?_;exact λe a w hc=>hc.trans k3 k4
   ·obtain⟨rfl,_⟩:=id hc;have:=hn l1 rfl;rw[g1] at this;cases this
 ·rename_i hne;have hw:=hs.code _ _ _ _ _ _ _ h kr ρ w a l lo hkr h2 h3 h4 h5 h6;refine zjf hw (λe a w hc=>hc.okx) (λl2 rest a1 w1 hc hf=>?_) λe a1 w1 hc _=>hc;obtain⟨e,_⟩:=hc;subst e;exact absurd h (hne _ _ _)
theorem zxS{E:Env}{self:zdv}(hE:E.P=P)(hS:zgT σ E)(hs:zmr σ P self)(hd:zpO σ E self){rd:Option Nat}{c:zan}{t t':List Value}{m m':Mem}{x:Exit}
  (h:step E self (.code rd c t) m=some (.exit x t',m')):zge σ P rd c t m x t' m':=by
 subst hE;simp only[step] at h;have one:(∀b,c≠ .loop b)->(∀(k:Code) ρ w (a:Act) l lo,zbw k=some c->Rel σ ρ m w->zat σ ρ t a.tmps.toList->zbQ lo w a.defers->lo<=w.heap.size->zfA ρ rd l->
  k.wpIn (Fr l) 0 E.P (ze4 σ ρ m w lo x t' m') a w)->zge σ E.P rd c t m x t' m':=by
  intro hn hk;refine⟨0,λk ρ w a l lo h1 h2 h3 h4 h5 h6=>?_⟩;have:=hk k ρ w a l lo h1 h2 h3 h4 h5 h6;cases k<;>first|exact this|skip
  simp only[zbw] at h1;split at h1
  ·simp only[sI] at h1;exact absurd h1.symm (hn _)
  ·cases h1
 cases c with
 |loop b=>
  simp only[zao] at h;split at h
  ·rename_i t1 m1 hb;obtain⟨N,hN⟩:=hs.code2 _ _ _ _ _ _ _ h;refine⟨N+1,λk ρ w a l lo h1 h2 h3 h4 h5 h6=>?_⟩;obtain⟨kb,rfl,hkb⟩:=zhe h1;show Code.roundsIn (Fr l) 0 E.P kb _ (N+1) a w;rw[roundsIn_succ];refine wpIn_mono (hs.code _ _ _ _ _ _ _ hb kb ρ w a l lo hkb h2 h3 h4 h5 h6) ?_;rintro e a1 w1 ⟨rfl,_,ρ1,g1,g2,g3,g4⟩;refine zcP ?_ N (hN (.loop kb) ρ1 w1 a1 l lo (by simp only[zbw,hkb]) g3.rel g1 g2 (lT h5 g3.size) (h6.mono g3.ext));exact λe a w hc=>hc.trans g3 g4
  ·rename_i hne;refine⟨1,λk ρ w a l lo h1 h2 h3 h4 h5 h6=>?_⟩;obtain⟨kb,rfl,hkb⟩:=zhe h1;show Code.roundsIn (Fr l) 0 E.P kb _ 1 a w;rw[roundsIn_succ];refine wpIn_mono (hs.code _ _ _ _ _ _ _ h kb ρ w a l lo hkb h2 h3 h4 h5 h6) ?_;intro e a1 w1 hc;obtain⟨rfl,_⟩:=id hc;cases e with
   |normal=>exact absurd h (hne _ _)
   |_=>exact hc
 |skip=>refine one (λ_ e=>by cases e) λk ρ w a l lo h1 h2 h3 h4 h5 h6=>?_;simp only[zao,sI,pI,Out.exit.injEq] at h;obtain⟨⟨rfl,rfl⟩,rfl⟩:=h;obtain rfl:=zkx h1;exact wpIn_skip (.here rfl h2 h3 h4)
 |label i=>refine one (λ_ e=>by cases e) λk ρ w a l lo h1 h2 h3 h4 h5 h6=>?_;simp only[zao,sI,pI,Out.exit.injEq] at h;obtain⟨⟨rfl,rfl⟩,rfl⟩:=h;obtain rfl:=ziL h1;exact wpIn_label (.here rfl h2 h3 h4)
 |goto i=>refine one (λ_ e=>by cases e) λk ρ w a l lo h1 h2 h3 h4 h5 h6=>?_;simp only[zao,sI,pI,Out.exit.injEq] at h;obtain⟨⟨rfl,rfl⟩,rfl⟩:=h;obtain rfl:=zp8 h1;exact wpIn_goto (.here rfl h2 h3 h4)
 |again b r=>exact one (λ_ e=>by cases e) λk ρ w a l lo h1 _ _ _ _ _=>(zoa h1).elim
 |exit i=>refine one (λ_ e=>by cases e) λk ρ w a l lo h1 h2 h3 h4 h5 h6=>?_;simp only[zao,sI,pI,Out.exit.injEq] at h;obtain⟨⟨rfl,rfl⟩,rfl⟩:=h;obtain rfl:=zkE h1;exact wpIn_exit (.here rfl h2 h3 h4)
 |ret=>refine one (λ_ e=>by cases e) λk ρ w a l lo h1 h2 h3 h4 h5 h6=>?_;simp only[zao,sI,pI,Out.exit.injEq] at h;obtain⟨⟨rfl,rfl⟩,rfl⟩:=h;obtain rfl:=zmO h1;exact wpIn_ret (.here rfl h2 h3 h4)
 |seq c1 c2=>
  refine one (λ_ e=>by cases e) λk ρ w a l lo h1 h2 h3 h4 h5 h6=>?_;simp only[zao] at h;obtain⟨k1,k2,rfl,hk1,hk2⟩:=ziW h1;apply wpIn_seq;split at h
  ·rename_i t1 m1 hb;refine wpIn_mono (hs.code _ _ _ _ _ _ _ hb k1 ρ w a l lo hk1 h2 h3 h4 h5 h6) ?_;rintro e a1 w1 ⟨rfl,_,ρ1,g1,g2,g3,g4⟩;refine wpIn_mono (hs.code _ _ _ _ _ _ _ h k2 ρ1 w1 a1 l lo hk2 g3.rel g1 g2 (lT h5 g3.size) (h6.mono g3.ext)) ?_;exact λe a w hc=>hc.trans g3 g4
  ·rename_i hne;refine wpIn_mono (hs.code _ _ _ _ _ _ _ h k1 ρ w a l lo hk1 h2 h3 h4 h5 h6) ?_;intro e a1 w1 hc;obtain⟨rfl,_⟩:=id hc;cases e with
   |normal=>exact absurd h (hne _ _)
   |_=>exact hc
 |cond o c1 c2=>
  refine one (λ_ e=>by cases e) λk ρ w a l lo h1 h2 h3 h4 h5 h6=>?_;simp only[zao] at h;obtain⟨k1,k2,rfl,hp,hk1,hk2⟩:=zkW h1;have hv:=zkt h2 h3 hp;split at h
  ·rename_i he;rw[he] at hv;exact wpIn_cond_true hv.bool_inv (hs.code _ _ _ _ _ _ _ h k1 ρ w a l lo hk1 h2 h3 h4 h5 h6)
  ·rename_i he;rw[he] at hv;exact wpIn_cond_false hv.bool_inv (hs.code _ _ _ _ _ _ _ h k2 ρ w a l lo hk2 h2 h3 h4 h5 h6)
  ·cases h
 |block i b=>
  refine one (λ_ e=>by cases e) λk ρ w a l lo h1 h2 h3 h4 h5 h6=>?_;simp only[zao] at h;obtain⟨kb,rfl,hkb⟩:=ziN h1;apply wpIn_block;split at h
  ·rename_i j t1 m1 hb;simp only[sI,pI,Out.exit.injEq] at h;obtain⟨⟨rfl,rfl⟩,rfl⟩:=h;refine wpIn_mono (hs.code _ _ _ _ _ _ _ hb kb ρ w a l lo hkb h2 h3 h4 h5 h6) ?_;rintro e a1 w1 ⟨rfl,_,rest⟩;simp only[Exit.inBlock];by_cases hj:j=i
   ·simp only[hj,if_true];exact⟨rfl,rfl,rest⟩
   ·simp only[hj,if_false];exact⟨rfl,rfl,rest⟩
  ·rename_i hne;refine wpIn_mono (hs.code _ _ _ _ _ _ _ h kb ρ w a l lo hkb h2 h3 h4 h5 h6) ?_;intro e a1 w1 hc;obtain⟨rfl,_⟩:=id hc;cases e with
   |exit j=>exact absurd h (hne _ _ _)
   |_=>exact hc
 |scope b=>refine one (λ_ e=>by cases e) λk ρ w a l lo h1 h2 h3 h4 h5 h6=>?_;simp only[zao] at h;obtain⟨kb,rfl,hkb⟩:=zia h1;exact zie (zmQ hs h kb kb ρ w a l lo hkb hkb h2 h3 h4 h5 h6)
 |reg sl=>
  refine one (λ_ e=>by cases e) λk ρ w a l lo h1 h2 h3 h4 h5 h6=>?_;have hx:x= .normal:=by
   simp only[zao] at h;split at h
   ·simp only[sI,pI,Out.exit.injEq] at h;exact h.1.1.symm
   ·cases h
  subst hx;obtain⟨n,ops,rfl,hst⟩:=zm7 h1;exact zv9 rfl hS hs.tozdh hst (rd:=rd) h2 h3 h4 h
 |dreg sl ord=>
  refine one (λ_ e=>by cases e) λk ρ w a l lo h1 h2 h3 h4 h5 h6=>?_;have hx:x= .normal:=by
   simp only[zao] at h;split at h
   ·simp only[sI,pI,Out.exit.injEq] at h;exact h.1.1.symm
   ·cases h
  subst hx;obtain⟨n,ops,rfl,hst,hord⟩:=zho h1;exact hd hst hord h2 h3 h4 h
 |rfn f ps sa sb=>refine one (λ_ e=>by cases e) λk ρ w a l lo h1 h2 h3 h4 h5 h6=>?_;obtain⟨pa,ka,kb,rfl,rfl,hp,hka,hkb⟩:=zmX h1;exact zAO rfl hs.tozdh hp hka hkb h2 h3 h4 h5 h6 h
end
section
variable{σ:Sig}
variable{P:Program}
structure zFB(E:Env)(slf:zdv)(base:Nat)(sl:List SOp)(ord:List (Nat×List Nat))(T:Nat->List Value)(M:Nat->Mem):Prop where
 step:∀(k i:Nat) re,ord[k]? =some (i,re)->∃o,sl[i]? =some o∧zbz E slf (base+i) o (T k) (M k)=some (T (k+1),M (k+1))∧
  (wanted o.guard (T k)=true->∀e∈re,∃(k':Nat) (re':List Nat),k'<k∧ord[k']? =some (e,re')∧
   ∃v u,zck E o (ev · (T k)) (M k)=some v∧zck E o (ev · (T k)) (M k')=some u∧E.eqv v u=true)
theorem zhJ{E:Env}{self:zdv}{base:Nat}{sl:List SOp}:∀{ord:List (Nat×List Nat)} {hist:List (Nat×Mem)} {t t':List Value} {m m':Mem},zfn E self base sl ord hist t m=some (t',m')->
  ∃(T:Nat->List Value) (M:Nat->Mem),T 0=t∧M 0=m∧T ord.length=t'∧M ord.length=m'∧
   ∀(k i:Nat) re,ord[k]? =some (i,re)->∃o,sl[i]? =some o∧zbz E self (base+i) o (T k) (M k)=some (T (k+1),M (k+1))∧
    (wanted o.guard (T k)=true->∀e∈re,∃me,((∃(k':Nat) (re':List Nat),k'<k∧ord[k']? =some (e,re')∧me=M k')∨zlT hist e=some me)∧
     ∃v u,zck E o (ev · (T k)) (M k)=some v∧zck E o (ev · (T k)) me=some u∧E.eqv v u=true)
 |[],hist,t,t',m,m',h=>by simp only[zfn,sI,pI] at h;obtain⟨rfl,rfl⟩:=h;exact⟨λ_=>t,λ_=>m,rfl,rfl,rfl,rfl,λk i re hk=>by simp at hk⟩
 |(i0,re0)::ord,hist,t,t',m,m',h=>by
  simp only[zfn] at h;split at h
  ·cases h
  ·rename_i o ho;split at h
   ·rename_i hok;split at h
    ·rename_i t1 m1 h1;obtain⟨T,M,g1,g2,g3,g4,g5⟩:=zhJ h;refine⟨λk=>match k with|0=>t|k+1=>T k,λk=>match k with|0=>m|k+1=>M k,rfl,rfl,by simpa using g3,by simpa using g4,λk i re hk=>?_⟩;cases k with
     |zero=>
      simp only[List.getElem?_cons_zero,sI,pI] at hk;obtain⟨rfl,rfl⟩:=hk;refine⟨o,ho,by simp only[g1,g2];exact h1,λhw e he=>?_⟩;rcases hok with hok|hok
      ·rw[hok] at hw;cases hw
      ·have:=List.all_eq_true.1 hok e he;split at this
       ·rename_i me hme;split at this
        ·rename_i v u hv hu;exact⟨me, .inr hme,v,u,hv,hu,this⟩
        ·cases this
       ·cases this
     |succ k=>
      obtain⟨o',k1,k2,k3⟩:=g5 k i re (by simpa using hk);refine⟨o',k1,k2,λhw e he=>?_⟩;obtain⟨me,h2,h3⟩:=k3 hw e he;refine⟨me,?_,h3⟩;rcases h2 with⟨k',re',q1,q2,q3⟩|h2
      ·exact .inl ⟨k'+1,re',by omega,by simpa using q2,q3⟩
      ·simp only[zlT] at h2;split at h2
       ·rename_i hie;simp only[sI] at h2;subst h2 hie;exact .inl ⟨0,re0,by omega,rfl,rfl⟩
       ·exact .inr h2
    ·cases h
   ·cases h
theorem zdI{E:Env}{self:zdv}{id:Nat}{o:SOp}{t t':List Value}{m m':Mem}(h:zbz E self id o t m=some (t',m')):
  ∃v,t'=zdP o.dst v t∧((wanted o.guard t=true∧opA E self id o t m=some (v,m'))∨(wanted o.guard t=false∧v=undef∧m'=m)):=by
 unfold zbz at h;split at h
 ·cases h
 split at h
 ·rename_i hw;split at h
  ·rename_i v m1 ho;simp only[sI,pI] at h;obtain⟨rfl,rfl⟩:=h;exact⟨v,rfl, .inl ⟨hw,ho⟩⟩
  ·cases h
 ·rename_i hw;simp only[sI,pI] at h;obtain⟨rfl,rfl⟩:=h;exact⟨undef,rfl, .inr ⟨by simpa using hw,rfl,rfl⟩⟩
theorem zn5{E:Env}{self:zdv}{id:Nat}{o:SOp}{t:List Value}{m:Mem}{q:List Value×Mem}(h:zbz E self id o t m=some q):gOk o.guard t=true:=by
 unfold zbz at h;split at h
 ·cases h
 ·rename_i hg;simpa using hg
theorem Rel.sub{ρ:Rho}{m V:Mem}{w:World}(hR:Rel σ ρ V w)(hsub:∀b o,m.get b=some o->V.get b=some o)(hn:m.next=V.next):Rel σ ρ m w:=
 ⟨λb hb=>hR.dom b (hn▸hb),hR.glob,λb o x hb hx=>hR.obj b o x (hsub b o hb) hx,λb1 b2 o1 o2 x1 x2 hne h1 h2 g1 g2 hw=>hR.inj b1 b2 o1 o2 x1 x2 hne (hsub _ _ h1) (hsub _ _ h2) g1 g2 hw,
  λb hb=>by
   cases hm:m.get b with
   |none=>rfl
   |some o=>have h1:=hsub b o hm;rw[hR.fresh b (hn▸hb)] at h1;cases h1⟩
theorem zaN.congr{ρ ρ':Rho}{m m1 m2:Mem}{w w':World}(h:zaN σ ρ m w ρ' m1 w')(hg:∀b o,m2.get b=some o->m1.get b=some o)(hn:m2.next=m1.next):zaN σ ρ m w ρ' m2 w':=
 ⟨h.rel.sub hg hn,h.ext,hn▸h.next,h.size,h.os,h.tape,h.output,h.frame,λb o x hb hx hlt=>h.img b o x (hg b o hb) hx hlt⟩
theorem zaN.more{ρ ρ':Rho}{m m1 m2:Mem}{w w':World}(h:zaN σ ρ m w ρ' m1 w')(hg:∀b o x,m2.get b=some o->ρ' b=some x->m1.get b=some o)(hn:m2.next=m1.next)(hf:∀b,m2.next<=b->m2.get b=none):zaN σ ρ m w ρ' m2 w':=
 ⟨⟨λb hb=>h.rel.dom b (hn▸hb),h.rel.glob,λb o x hb hx=>h.rel.obj b o x (hg b o x hb hx) hx,λb1 b2 o1 o2 x1 x2 hne h1 h2 g1 g2 hw=>h.rel.inj b1 b2 o1 o2 x1 x2 hne (hg _ _ _ h1 g1) (hg _ _ _ h2 g2) g1 g2 hw,hf⟩,
  h.ext,hn▸h.next,h.size,h.os,h.tape,h.output,h.frame,λb o x hb hx hlt=>h.img b o x (hg b o x hb hx) hx hlt⟩
theorem zaN.beside{ρ ρ':Rho}{M M' V V':Mem}{w w':World}{id:Nat}{D:Nat->zaS->Prop}(h:zaN σ ρ M w ρ' M' w')(hR:Rel σ ρ V w)(hold:zeU M.next id ρ ρ')
  (hV:∀b o,V.get b=some o↔(M.get b=some o∨D b o)) (hV':∀b o,V'.get b=some o↔(M'.get b=some o∨D b o)) (hn:V.next=M.next) (hn':V'.next=M'.next)
  (hD:∀b o,D b o->M.get b=none∧M'.get b=none∧wr o=true∧b≠id∧b<M.next):zaN σ ρ V w ρ' V' w':=by
 have back:∀b o x,D b o->ρ' b=some x->ρ b=some x:=λb o x hd hx=>by
  obtain⟨_,_,_,h1,h2⟩:=hD b o hd;cases hb:ρ b with
  |none=>rw[hold b h2 h1 hb] at hx;cases hx
  |some y=>rw[h.ext b y hb] at hx;exact hx▸rfl
 have apart:∀b1 o1 x1 b2 o2 x2,M'.get b1=some o1->ρ' b1=some x1->D b2 o2->ρ' b2=some x2->x1.1≠x2.1:=by
  intro b1 o1 x1 b2 o2 x2 h1 g1 h2 g2 e;have g2':=back _ _ _ h2 g2;have hv2:=(hV b2 o2).2 (.inr h2);have hlt:=(hR.obj b2 o2 x2 hv2 g2').lt;obtain⟨b0,o0,x0,k1,k2,k3,_⟩:=h.img b1 o1 x1 h1 g1 (e▸hlt);have hne:b2≠b0:=λe0=>by have:=(hD b2 o2 h2).1;rw[e0,k1] at this;cases this
  exact hR.inj b2 b0 o2 o0 x2 x0 hne hv2 ((hV b0 o0).2 (.inl k1)) g2' k2 (hD b2 o2 h2).2.2.1 (e.symm.trans k3.symm)
 refine⟨⟨λb hb=>h.rel.dom b (hn'▸hb),h.rel.glob,λb o x hb hx=>?_,λb1 b2 o1 o2 x1 x2 hne h1 h2 g1 g2 hw=>?_,λb hb=>?_⟩,h.ext,by rw[hn,hn'];exact h.next,h.size,h.os,h.tape,h.output,λk hk hf=>?_,λb o x hb hx hlt=>?_⟩
 ·rcases(hV' b o).1 hb with hb|hb
  ·exact h.rel.obj b o x hb hx
  ·have hx':=back b o x hb hx;have ho:=hR.obj b o x ((hV b o).2 (.inr hb)) hx';refine ho.keep h.ext (h.frame _ ho.lt λb0 o0 x0 k1 k2 k3 e=>?_);have hne:b0≠b:=λe0=>by have:=(hD b o hb).1;rw[<-e0,k1] at this;cases this
   exact hR.inj b0 b o0 o x0 x hne ((hV b0 o0).2 (.inl k1)) ((hV b o).2 (.inr hb)) k3 hx' k2 e
 ·rcases(hV' b1 o1).1 h1 with k1|k1
  ·rcases(hV' b2 o2).1 h2 with k2|k2
   ·exact h.rel.inj b1 b2 o1 o2 x1 x2 hne k1 k2 g1 g2 hw
   ·exact apart _ _ _ _ _ _ k1 g1 k2 g2
  ·rcases(hV' b2 o2).1 h2 with k2|k2
   ·exact λe=>apart _ _ _ _ _ _ k2 g2 k1 g1 e.symm
   ·exact hR.inj b1 b2 o1 o2 x1 x2 hne ((hV _ _).2 (.inr k1)) ((hV _ _).2 (.inr k2)) (back _ _ _ k1 g1) (back _ _ _ k2 g2) hw
 ·cases hm:V'.get b with
  |none=>rfl
  |some o=>
   rcases(hV' b o).1 hm with k|k
   ·rw[h.rel.fresh b (hn'▸hb)] at k;cases k
   ·have:=(hD b o k).2.2.2.2;have:=h.next;omega
 ·exact h.frame k hk λb o x hb hw hx=>hf b o x ((hV b o).2 (.inl hb)) hw hx
 ·rcases(hV' b o).1 hb with k|k
  ·obtain⟨b0,o0,x0,k1,k2,k3,k4⟩:=h.img b o x k hx hlt;exact⟨b0,o0,x0,(hV _ _).2 (.inl k1),k2,k3,k4⟩
  ·exact⟨b,o,x,(hV _ _).2 (.inr k),back _ _ _ k hx,rfl,λhw=>hw⟩
theorem zuY{o:SOp}{r:Operand->Value}{ob:zaS}{mk:Nat->Value}(h:zdc P o r=some (ob,mk)):wr ob=true:=by
 unfold zdc at h
 repeat' split at h
 all_goals first
  |(cases h;done)
  |(simp only[sI,pI] at h;obtain⟨rfl,_⟩:=h;rfl)
  |(simp only[mE,pI] at h;obtain⟨_,_,rfl,_⟩:=h;rfl)
end
section
variable{σ:Sig}
structure Run(E:Env)(slf:zdv)(base:Nat)(ops:Array Oper)(sl:List SOp)(ord:List (Nat×List Nat))(T:Nat->List Value)(M:Nat->Mem):Prop where
 chk:Chk ops.toList sl ord
 tr:zFB E slf base sl ord T M
 strip:∀(i:Nat) (s:SOp),sl[i]? =some s->∃o',ops[i]? =some o'∧zi4 ops o' s
 grow:∀tk m o m',slf tk m=some (o,m')->Grow m m'
 free:∀i,i<ops.size->(M 0).get (base+i)=none
 next:base+ops.size<=(M 0).next
section
variable{E:Env}{self:zdv}{base:Nat}{ops:Array Oper}{sl:List SOp}{ord:List (Nat×List Nat)}{T:Nat->List Value}{M:Nat->Mem}
theorem Run.olen(R:Run E self base ops sl ord T M):ord.length=ops.size:=by simpa using R.chk.olen
theorem Run.lt(R:Run E self base ops sl ord T M){k i:Nat}{re:List Nat}(h:ord[k]? =some (i,re)):i<ops.size:=by simpa using R.chk.lt k i re h
theorem Run.klt(R:Run E self base ops sl ord T M){k i:Nat}{re:List Nat}(h:ord[k]? =some (i,re)):k<ops.size:=by have:=(List.getElem?_eq_some_iff.1 h).1;rw[R.olen] at this;exact this
theorem Run.at_(R:Run E self base ops sl ord T M){k:Nat}(h:k<ops.size):∃i re,ord[k]? =some (i,re):=by
 have:k<ord.length:=by rw[R.olen];exact h
 exact⟨_,_,gE' this⟩
theorem Run.next_ge(R:Run E self base ops sl ord T M):∀k,k<=ops.size->base+ops.size<=(M k).next
 |0,_=>R.next
 |k+1,hk=>by obtain⟨i,re,hi⟩:=R.at_ (k:=k) (by omega);obtain⟨o,h1,h2,_⟩:=R.tr.step k i re hi;have:=(zdX R.grow h2).1;have:=R.next_ge k (by omega);omega
theorem Run.fresh(R:Run E self base ops sl ord T M):∀k,k<=ops.size->∀(k2 i:Nat) re,k<=k2->ord[k2]? =some (i,re)->(M k).get (base+i)=none
 |0,_,k2,i,re,_,h=>R.free i (R.lt h)
 |k+1,hk,k2,i,re,hle,h=>by
  obtain⟨i1,re1,hi⟩:=R.at_ (k:=k) (by omega);obtain⟨o,h1,h2,_⟩:=R.tr.step k i1 re1 hi;have h3:=R.fresh k (by omega) k2 i re (by omega) h;have h4:=R.next_ge k (by omega);have h5:=R.lt h;refine(zdX R.grow h2).2 (base+i) (by omega) (λe=>?_) h3;have:i=i1:=by omega
  subst this;have:=R.chk.uniq k k2 i re1 re hi h;omega
theorem zlE(d:Option Tmp)(v:Value)(t:List Value):(zdP d v t).length=t.length:=by cases d<;>simp[zdP]
theorem zpo{d:Option Tmp}{x:Tmp}(h:d≠some x)(v:Value)(t:List Value):(zdP d v t).getD x undef=t.getD x undef:=by
 cases d with
 |none=>rfl
 |some y=>have:y≠x:=λe=>h (by rw[e]);simp[zdP,gD',List.getElem?_set_ne this]
theorem Run.tlen(R:Run E self base ops sl ord T M):∀k,k<=ops.size->(T k).length=(T 0).length
 |0,_=>rfl
 |k+1,hk=>by obtain⟨i,re,hi⟩:=R.at_ (k:=k) (by omega);obtain⟨o,_,h2,_⟩:=R.tr.step k i re hi;obtain⟨v,h3,_⟩:=zdI h2;rw[h3,zlE,R.tlen k (by omega)]
theorem Run.keep(R:Run E self base ops sl ord T M){x:Tmp}{k:Nat}:∀d,k+d<=ops.size->(∀(p i:Nat) re o,k<=p->p<k+d->ord[p]? =some (i,re)->sl[i]? =some o->o.dst≠some x)->(T (k+d)).getD x undef=(T k).getD x undef
 |0,_,_=>rfl
 |d+1,hk,h=>by obtain⟨i,re,hi⟩:=R.at_ (k:=k+d) (by omega);obtain⟨o,h1,h2,_⟩:=R.tr.step (k+d) i re hi;obtain⟨v,h3,_⟩:=zdI h2;rw[<-Nat.add_assoc,h3,zpo (h _ i re o (by omega) (by omega) hi h1),R.keep d (by omega) λp i re o h1 h2=>h p i re o h1 (by omega)]
theorem Run.before(R:Run E self base ops sl ord T M){x:Tmp}{p i:Nat}{re:List Nat}{o:SOp}(hp:ord[p]? =some (i,re))(ho:sl[i]? =some o)(hd:o.dst=some x){k:Nat}(hk:k<=p):(T k).getD x undef=(T 0).getD x undef:=by
 have hpl:=R.klt hp;have:=R.keep (x:=x) (k:=0) k (by omega) λp' i' re' o' _ h2 h3 h4 h5=>by have:=R.chk.ssa i i' o o' x ho h4 hd h5;subst this;have:=R.chk.uniq p p' i re re' hp h3;omega
 rwa[Nat.zero_add] at this
theorem Run.after(R:Run E self base ops sl ord T M){x:Tmp}{p i:Nat}{re:List Nat}{o:SOp}(hp:ord[p]? =some (i,re))(ho:sl[i]? =some o)(hd:o.dst=some x){k:Nat}(hk:p<k)(hkn:k<=ops.size):(T k).getD x undef=(T ops.size).getD x undef:=by
 have:=R.keep (x:=x) (k:=k) (ops.size-k) (by omega) λp' i' re' o' h1 h2 h3 h4 h5=>by have:=R.chk.ssa i i' o o' x ho h4 hd h5;subst this;have:=R.chk.uniq p p' i re re' hp h3;omega
 rw[show k+(ops.size-k)=ops.size from by omega] at this;exact this.symm
theorem Run.never(R:Run E self base ops sl ord T M){x:Tmp}(h:∀(i:Nat) (o:SOp),sl[i]? =some o->o.dst≠some x){k:Nat}(hk:k<=ops.size):(T k).getD x undef=(T 0).getD x undef:=by have:=R.keep (x:=x) (k:=0) k (by omega) λp i re o _ _ _ h4=>h i o h4;rwa[Nat.zero_add] at this
def zhd(base:Nat)(sl:List SOp)(ord:List (Nat×List Nat))(M:Nat->Mem)(k b:Nat)(o:zaS):Prop:=
 ∃i re,ord[k]? =some (i,re)∧zi3 sl i= .make∧b=base+i∧(M (k+1)).get b=some o
def zfx(base:Nat)(sl:List SOp)(ord:List (Nat×List Nat))(M:Nat->Mem)(n q:Nat)(V:Mem):Prop:=
 V.next=(M q).next∧∀b o,V.get b=some o↔((M q).get b=some o∨∃k,q<=k∧k<n∧zhd base sl ord M k b o)
theorem Run.exists_W(R:Run E self base ops sl ord T M){q:Nat}(hq:q<=ops.size):∃V,zfx base sl ord M ops.size q V:=by
 have key:∀r,q+r<=ops.size->∃V:Mem,V.next=(M q).next∧∀b o,V.get b=some o↔((M q).get b=some o∨∃k,q<=k∧k<q+r∧zhd base sl ord M k b o):=by
  intro r
  induction r with
  |zero=>exact λ_=>⟨M q,rfl,λb o=>⟨.inl,λh=>h.elim id λ⟨k,h1,h2,_⟩=>by omega⟩⟩
  |succ r ih=>
   intro hr;obtain⟨V,h1,h2⟩:=ih (by omega);obtain⟨i,re,hi⟩:=R.at_ (k:=q+r) (by omega);by_cases hm:zi3 sl i= .make∧∃o,(M (q+r+1)).get (base+i)=some o
   ·obtain⟨hm,o0,ho0⟩:=hm;refine⟨V.put (base+i) o0,h1,λb o=>?_⟩;rw[gP];by_cases hb:b=base+i
    ·rw[if_pos hb];constructor
     ·intro h;cases h;exact .inr ⟨q+r,by omega,by omega,i,re,hi,hm,hb,hb▸ho0⟩
     ·rintro(h|⟨k,g1,g2,i',re',g3,g4,g5,g6⟩)
      ·rw[hb,R.fresh q hq (q+r) i re (by omega) hi] at h;cases h
      ·have:i'=i:=by omega
       subst this;have:=R.chk.uniq k (q+r) i' re' re g3 hi;subst this;rw[hb,ho0] at g6;exact g6
    ·rw[if_neg hb,h2];constructor
     ·rintro(h|⟨k,g1,g2,g3⟩)
      ·exact .inl h
      ·exact .inr ⟨k,g1,by omega,g3⟩
     ·rintro(h|⟨k,g1,g2,i',re',g3,g4,g5,g6⟩)
      ·exact .inl h
      ·refine .inr ⟨k,g1,?_,i',re',g3,g4,g5,g6⟩;rcases Nat.lt_or_ge k (q+r) with hk|hk
       ·exact hk
       ·have:k=q+r:=by omega
        subst this;rw[hi] at g3;cases g3;exact absurd g5 hb
   ·refine⟨V,h1,λb o=>?_⟩;rw[h2];constructor
    ·rintro(h|⟨k,g1,g2,g3⟩)
     ·exact .inl h
     ·exact .inr ⟨k,g1,by omega,g3⟩
    ·rintro(h|⟨k,g1,g2,i',re',g3,g4,g5,g6⟩)
     ·exact .inl h
     ·refine .inr ⟨k,g1,?_,i',re',g3,g4,g5,g6⟩;rcases Nat.lt_or_ge k (q+r) with hk|hk
      ·exact hk
      ·have:k=q+r:=by omega
       subst this;rw[hi] at g3;cases g3;exact absurd ⟨g4,o,g5▸g6⟩ hm
 obtain⟨V,h1,h2⟩:=key (ops.size-q) (by omega);refine⟨V,h1,λb o=>?_⟩;rw[h2,show q+(ops.size-q)=ops.size from by omega]
def ziG(sl:List SOp)(ord:List (Nat×List Nat))(T:Nat->List Value)(k:Nat):Prop:=
 ∃i re o,ord[k]? =some (i,re)∧sl[i]? =some o∧(zeP sl i=false∨wanted o.guard (T k)=false)
theorem zde{sl:List SOp}{i:Nat}{o:SOp}(h:sl[i]? =some o):zi3 sl i=cls o.op:=by simp[zi3,h]
theorem Run.calm(R:Run E self base ops sl ord T M){k:Nat}(h:ziG sl ord T k):(M (k+1)).next=(M k).next∧∀b o,(M (k+1)).get b=some o↔((M k).get b=some o∨zhd base sl ord M k b o):=by
 obtain⟨i,re,o,hi,ho,hc⟩:=h;obtain⟨o2,h1,h2,_⟩:=R.tr.step k i re hi;rw[ho] at h1;cases h1;have hk:=R.klt hi;have same:M (k+1)=M k->(M (k+1)).next=(M k).next∧∀b o,(M (k+1)).get b=some o↔((M k).get b=some o∨zhd base sl ord M k b o):=λe=>by
  refine⟨by rw[e],λb ob=>⟨λh=> .inl (e▸h),?_⟩⟩;rintro(h|⟨i',re',_,_,_,g4⟩)
  ·rw[e];exact h
  ·exact g4
 obtain⟨v,_,h3⟩:=zdI h2;rcases h3 with⟨hw,h3⟩|⟨hw,_,h3⟩
 ·have hne:zeP sl i=false:=hc.resolve_right (by rw[hw];simp);have hcls:cls o.op≠ .eff:=by intro e;simp[zeP,zde ho,e] at hne
  unfold opA at h3;split at h3
  ·split at h3
   ·simp only[sI,pI] at h3;exact same h3.2.symm
   ·cases h3
  ·split at h3
   ·simp only[sI,pI] at h3;exact same h3.2.symm
   ·cases h3
  ·rename_i hmk;split at h3
   ·rename_i ob mk hm;simp only[sI,pI] at h3;have e:=h3.2.symm;refine⟨by rw[e];rfl,λb o'=>?_⟩;constructor
    ·intro h;have h':=h;rw[e,gP] at h;split at h
     ·rename_i hb;exact .inr ⟨i,re,hi,by rw[zde ho,hmk],hb,h'⟩
     ·exact .inl h
    ·rintro(h|⟨i',re',_,_,_,g4⟩)
     ·rw[e,gP];split
      ·rename_i hb;rw[hb,R.fresh k (by omega) k i re (lR' _) hi] at h;cases h
      ·exact h
     ·exact g4
   ·cases h3
  ·rename_i hef;exact absurd hef hcls
 ·exact same h3
theorem Run.adv(R:Run E self base ops sl ord T M){q:Nat}{V:Mem}(hq:q<ops.size)(h:ziG sl ord T q)(hW:zfx base sl ord M ops.size q V):zfx base sl ord M ops.size (q+1) V:=by
 obtain⟨h1,h2⟩:=R.calm h;refine⟨hW.1.trans h1.symm,λb o=>?_⟩;rw[hW.2,h2];constructor
 ·rintro(g|⟨k,g1,g2,g3⟩)
  ·exact .inl (.inl g)
  ·rcases Nat.lt_or_ge q k with hk|hk
   ·exact .inr ⟨k,hk,g2,g3⟩
   ·have:k=q:=by omega
    subst this;exact .inl (.inr g3)
 ·rintro((g|g)|⟨k,g1,g2,g3⟩)
  ·exact .inl g
  ·exact .inr ⟨q,lR' _,hq,g⟩
  ·exact .inr ⟨k,by omega,g2,g3⟩
theorem Run.adv_many(R:Run E self base ops sl ord T M){q:Nat}{V:Mem}(hW:zfx base sl ord M ops.size q V):∀d,q+d<=ops.size->(∀p,q<=p->p<q+d->ziG sl ord T p)->zfx base sl ord M ops.size (q+d) V
 |0,_,_=>hW
 |d+1,hd,h=>R.adv (q:=q+d) (by omega) (h _ (by omega) (by omega)) (R.adv_many hW d (by omega) λp h1 h2=>h p h1 (by omega))
theorem Run.adv_to(R:Run E self base ops sl ord T M){q p:Nat}{V:Mem}(hW:zfx base sl ord M ops.size q V)(hqp:q<=p)(hp:p<=ops.size)(h:∀k,q<=k->k<p->ziG sl ord T k):zfx base sl ord M ops.size p V:=by have:=R.adv_many hW (p-q) (by omega) λk h1 h2=>h k h1 (by omega);rwa[show q+(p-q)=p from by omega] at this
theorem zfx.rel{q n:Nat}{V:Mem}{ρ:Rho}{w:World}(hW:zfx base sl ord M n q V)(hR:Rel σ ρ V w):Rel σ ρ (M q) w:=hR.sub (λb o h=>(hW.2 b o).2 (.inl h)) hW.1.symm
end
end
section
variable{σ:Sig}
section
variable{E:Env}{self:zdv}{base:Nat}{ops:Array Oper}{sl:List SOp}{ord:List (Nat×List Nat)}{T:Nat->List Value}{M:Nat->Mem}
theorem Run.made_wr(R:Run E self base ops sl ord T M){k b:Nat}{ob:zaS}(h:zhd base sl ord M k b ob):wr ob=true:=by
 obtain⟨i,re,hi,hm,hb,hg⟩:=h;obtain⟨o,h1,h2,_⟩:=R.tr.step k i re hi;have hc:cls o.op= .make:=by rw[<-zde h1];exact hm
 obtain⟨v,_,h3⟩:=zdI h2;rcases h3 with⟨_,h3⟩|⟨_,_,h3⟩
 ·simp only[opA,hc] at h3;split at h3
  ·rename_i ob' mk hmk;simp only[sI,pI] at h3;rw[<-h3.2,gP,if_pos hb] at hg;cases hg;exact zuY hmk
  ·cases h3
 ·rw[h3,hb,R.fresh k (Nat.le_of_lt (R.klt hi)) k i re (lR' _) hi] at hg;cases hg
theorem Run.beside(R:Run E self base ops sl ord T M){p q2 k i:Nat}{re:List Nat}{o:SOp}{V V2:Mem}{ρ ρ':Rho}{w w':World}(hi:ord[k]? =some (i,re))(ho:sl[i]? =some o)(hc:cls o.op≠ .make)
  (hp:p<=ops.size) (hpq:p<=q2) (hq2:q2<=ops.size) (hW:zfx base sl ord M ops.size p V) (hW2:zfx base sl ord M ops.size q2 V2) (hno:∀k2,p<=k2->k2<q2->∀b ob,¬zhd base sl ord M k2 b ob)
  (hR:Rel σ ρ V w) (h:zaN σ ρ (M p) w ρ' (M q2) w') (hold:zeU (M p).next (base+i) ρ ρ'):zaN σ ρ V w ρ' V2 w':=by
 refine zaN.beside (id:=base+i) (D:=λb ob=>∃k2,q2<=k2∧k2<ops.size∧zhd base sl ord M k2 b ob) h hR hold (λb ob=>?_) (λb ob=>hW2.2 b ob) hW.1 hW2.1 ?_
 ·rw[hW.2];constructor
  ·rintro(h|⟨k2,g1,g2,g3⟩)
   ·exact .inl h
   ·rcases Nat.lt_or_ge k2 q2 with hk|hk
    ·exact absurd g3 (hno k2 g1 hk b ob)
    ·exact .inr ⟨k2,hk,g2,g3⟩
  ·rintro(h|⟨k2,g1,g2,g3⟩)
   ·exact .inl h
   ·exact .inr ⟨k2,by omega,g2,g3⟩
 ·rintro b ob ⟨k2,g1,g2,g3⟩;have hwr:=R.made_wr g3;obtain⟨i2,re2,j1,j2,j3,j4⟩:=g3;have hlt:=R.lt j1;have:=R.next_ge p hp;refine⟨j3▸R.fresh p hp k2 i2 re2 (by omega) j1,j3▸R.fresh q2 hq2 k2 i2 re2 g1 j1,hwr,λe=>?_,by omega⟩;have:i2=i:=by omega
  subst this;rw[zde ho] at j2;exact hc j2
structure Way(σ:Sig)(base:Nat)(ops:Array Oper)(sl:List SOp)(ord:List (Nat×List Nat))(T:Nat->List Value)(M:Nat->Mem)(ρ0:Rho)(w0:World)(ds:List Deferred)(S:Nat->Prop)(a:Act)(w:World)(ρ:Rho)(q:Nat)(V:Mem):Prop where
 spec:zfx base sl ord M ops.size q V
 qle:q<=ops.size
 done:∀(k i:Nat) re,k<q->ord[k]? =some (i,re)->S i
 rest:∀(k i:Nat) re,q<=k->ord[k]? =some (i,re)->S i->ziG sl ord T k
 closed:zky ops.toList S
 none:∀i,i<ops.size->¬S i->ρ (base+i)=none
 post:zaN σ ρ0 (M 0) w0 ρ V w
 old:∀b,b<base->ρ0 b= .none->ρ b= .none
 size:a.tmps.size=(T 0).length
 slotD:∀x,(∃(i:Nat) (o:SOp),S i∧sl[i]? =some o∧o.dst=some x)->zaq σ ρ ((T ops.size).getD x undef) (a.tmps.getD x undef)
 slotN:∀x,(∀(i:Nat) (o:SOp),sl[i]? =some o->o.dst=some x->¬S i)->zaq σ ρ ((T 0).getD x undef) (a.tmps.getD x undef)
 defers:a.defers=ds
variable{ρ0:Rho}{w0:World}{ds:List Deferred}{S:Nat->Prop}{a:Act}{w:World}{ρ:Rho}{q:Nat}{V:Mem}
theorem Run.prefix_closed(R:Run E self base ops sl ord T M)(k:Nat):zky ops.toList (λj=>∃(k':Nat) (re:List Nat),k'<k∧ord[k']? =some (j,re)):=by rintro i ⟨k1,re,h1,h2⟩ p hp;obtain⟨k',re',h3,h4⟩:=R.chk.lin k1 i re h2 p hp;exact⟨k',re',by omega,h4⟩
theorem Run.look(R:Run E self base ops sl ord T M)(W:Way σ base ops sl ord T M ρ0 w0 ds S a w ρ q V){k i:Nat}{re:List Nat}{o:SOp}(hi:ord[k]? =some (i,re))(ho:sl[i]? =some o)(hS:¬S i)
  (hpr:∀p∈(ops.toList.map zeo).getD i [],S p) {x:Tmp} (hx:x∈looks o):zaq σ ρ ((T k).getD x undef) (a.tmps.getD x undef):=by
 have hk:=R.klt hi;by_cases hw:∃(j:Nat) (oj:SOp),sl[j]? =some oj∧oj.dst=some x
 ·obtain⟨j,oj,hj,hd⟩:=hw;have hjl:j<ops.size:=by have h1:=(List.getElem?_eq_some_iff.1 hj).1;have h2:=R.chk.len;simp at h2;omega
  obtain⟨p,rp,hp⟩:=R.chk.all j (by simpa using hjl);have only:∀(i':Nat) (o':SOp),sl[i']? =some o'->o'.dst=some x->i'=j:=λi' o' h1 h2=>R.chk.ssa i' j o' oj x h1 hj h2 hd;rcases R.chk.tmp i o ho x hx j oj hj hd with h|h|h
  ·subst h;have:=R.chk.uniq k p i re rp hi hp;subst this;rw[R.before hp hj hd (lR' _)];exact W.slotN x λi' o' h1 h2=>only i' o' h1 h2▸hS
  ·have hSj:=zcW W.closed i j hpr h;obtain⟨k',re',h1,h2⟩:=zcW (R.prefix_closed k) i j (λp hp=>R.chk.lin k i re hi p hp) h;have:=R.chk.uniq k' p j re' rp h2 hp;subst this;rw[R.after hp hj hd h1 (by omega)];exact W.slotD x ⟨j,oj,hSj,hj,hd⟩
  ·have hSj:¬S j:=λhSj=>hS (zcW W.closed j i (W.closed j hSj) h);obtain⟨k',re',h1,h2⟩:=zcW (R.prefix_closed p) j i (λp' hp'=>R.chk.lin p j rp hp p' hp') h;have:=R.chk.uniq k' k i re' re h2 hi;subst this;rw[R.before hp hj hd (by omega)];exact W.slotN x λi' o' h1 h2=>only i' o' h1 h2▸hSj
 ·rw[R.never (λi' o' h1 h2=>hw ⟨i',o',h1,h2⟩) (by omega)];exact W.slotN x λi' o' h1 h2=>absurd ⟨i',o',h1,h2⟩ hw
theorem Run.pick(R:Run E self base ops sl ord T M)(heq:∀v u,E.eqv v u=true->v=u)(W:Way σ base ops sl ord T M ρ0 w0 ds S a w ρ q V){k i:Nat}{re:List Nat}{o:SOp}{v:Value}(hi:ord[k]? =some (i,re))(ho:sl[i]? =some o)(hS:¬S i)
  (hpr:∀p∈(ops.toList.map zeo).getD i [],S p) (hw:wanted o.guard (T k)=true) (hop:opA E self (base+i) o (T k) (M k)=some (v,M (k+1)))
  (hre:∀e∈re,∃(k':Nat) (re':List Nat),k'<k∧ord[k']? =some (e,re')∧∃v u,zck E o (ev · (T k)) (M k)=some v∧zck E o (ev · (T k)) (M k')=some u∧E.eqv v u=true):
  ∃m1 m2 V2 q2,opA E self (base+i) o (T k) m1=some (v,m2)∧Rel σ ρ m1 w∧base+ops.size<=m1.next∧q<=q2∧q2<=ops.size∧zfx base sl ord M ops.size q2 V2∧
   (∀(k' i':Nat) re',k'<q2->ord[k']? =some (i',re')->S i'∨i'=i)∧(∀(k' i':Nat) re',q2<=k'->ord[k']? =some (i',re')->S i'∨i'=i->ziG sl ord T k')∧
   ∀ρ' w',zaN σ ρ m1 w ρ' m2 w'->zeU m1.next (base+i) ρ ρ'->zaN σ ρ V w ρ' V2 w':=by
 have hk:=R.klt hi;have hqk:q<=k:=by
  rcases Nat.lt_or_ge k q with h|h
  ·exact absurd (W.done k i re h hi) hS
  ·exact h
 have hVn:base+ops.size<=V.next:=by rw[W.spec.1];exact R.next_ge q W.qle
 have hdone:∀(k' i':Nat) re',k'<q->ord[k']? =some (i',re')->S i'∨i'=i:=λk' i' re' h1 h2=> .inl (W.done k' i' re' h1 h2);have calmk:cls o.op≠ .eff->ziG sl ord T k:=λhc=>⟨i,re,o,hi,ho, .inl (by simp[zeP,zde ho,hc])⟩;have hrest:ziG sl ord T k->∀(k' i':Nat) re',q<=k'->ord[k']? =some (i',re')->S i'∨i'=i->ziG sl ord T k':=λhck k' i' re' h1 h2 h3=>by
  rcases h3 with h3|h3
  ·exact W.rest k' i' re' h1 h2 h3
  ·subst h3;have:=R.chk.uniq k' k i' re' re h2 hi;subst this;exact hck
 have hop0:=hop;unfold opA at hop;split at hop
 ·rename_i hc;split at hop
  ·rename_i u hu;simp only[sI,pI] at hop;obtain⟨rfl,_⟩:=hop;refine⟨V,V,V,q,by simp only[opA,hc,hu],W.post.rel,hVn,lR' _,W.qle,W.spec,hdone,hrest (calmk (by rw[hc];simp)),λρ' w' h _=>h⟩
  ·cases hop
 ·rename_i hc;split at hop
  ·rename_i u hu;simp only[sI,pI] at hop;obtain⟨rfl,_⟩:=hop;have hck:ziG sl ord T k:=calmk (by rw[hc];simp);have first:∃p,q<=p∧p<=k∧(∀k',q<=k'->k'<p->ziG sl ord T k')∧(p=k∨¬ziG sl ord T p):=by
    have:∀d,q+d<=k->(∃p,q<=p∧p<=k∧(∀k',q<=k'->k'<p->ziG sl ord T k')∧(p=k∨¬ziG sl ord T p))∨(∀k',q<=k'->k'<q+d->ziG sl ord T k'):=by
     intro d
     induction d with
     |zero=>exact λ_=> .inr λk' h1 h2=>by omega
     |succ d ih=>
      intro hd;rcases ih (by omega) with h|h
      ·exact .inl h
      ·by_cases hcalm:ziG sl ord T (q+d)
       ·refine .inr λk' h1 h2=>?_;rcases Nat.lt_or_ge k' (q+d) with h3|h3
        ·exact h k' h1 h3
        ·have:k'=q+d:=by omega
         exact this▸hcalm
       ·exact .inl ⟨q+d,by omega,by omega,h, .inr hcalm⟩
    rcases this (k-q) (by omega) with h|h
    ·exact h
    ·exact⟨k,hqk,lR' _,λk' h1 h2=>h k' h1 (by omega), .inl rfl⟩
   obtain⟨p,hqp,hpk,hcalm,hlast⟩:=first
   have hread:zck E o (ev · (T k)) (M p)=some u:=by
    rcases hlast with rfl|hnc
    ·exact hu
    ·obtain⟨e,re',he⟩:=R.at_ (k:=p) (by omega);have hpk':p<k:=by
      rcases Nat.lt_or_ge p k with h|h
      ·exact h
      ·have:p=k:=by omega
       subst this;exact absurd hck hnc
     obtain⟨oe,he1,_⟩:=R.tr.step p e re' he;have heff:zeP sl e=true:=by
      cases hx:zeP sl e with
      |true=>rfl
      |false=>exact absurd ⟨e,re',oe,he,he1, .inl hx⟩ hnc
     rcases R.chk.read k i re p e re' hi (by rw[zde ho,hc]) hpk' he heff with h|h
     ·exact absurd (W.rest p e re' hqp he (zcW W.closed i e hpr h)) hnc
     ·obtain⟨k',re2,h1,h2,v2,u2,h3,h4,h5⟩:=hre e h;have:=R.chk.uniq k' p e re2 re' h2 he;subst this;rw[hu] at h3;cases h3;rw[h4,heq _ _ h5]
   have hpn:p<=ops.size:=by omega
   have hWp:=R.adv_to W.spec hqp hpn hcalm;refine⟨M p,M p,V,q,by simp only[opA,hc,hread],hWp.rel W.post.rel,R.next_ge p hpn,lR' _,W.qle,W.spec,hdone,hrest hck,λρ' w' h hold=>?_⟩;exact R.beside hi ho (by rw[hc];simp) hpn (lR' _) hpn hWp hWp (λk2 h1 h2=>by omega) W.post.rel h hold
  ·cases hop
 ·rename_i hc;split at hop
  ·rename_i ob mk hu;simp only[sI,pI] at hop;obtain⟨hv,hM⟩:=hop;refine⟨V,V.put (base+i) ob,V,q,by simp only[opA,hc,hu,hv],W.post.rel,hVn,lR' _,W.qle,W.spec,hdone,hrest (calmk (by rw[hc];simp)),λρ' w' h _=>h.congr (λb o' hb=>?_) rfl⟩;rw[gP];split
   ·rename_i hbi;rcases(W.spec.2 b o').1 hb with h1|⟨k2,h1,h2,i2,re2,h3,h4,h5,h6⟩
    ·rw[hbi,R.fresh q W.qle k i re hqk hi] at h1;cases h1
    ·have:i2=i:=by omega
     subst this;have:=R.chk.uniq k2 k i2 re2 re h3 hi;subst this;rw[<-hM,gP,if_pos hbi] at h6;exact h6
   ·exact hb
  ·cases hop
 ·rename_i hc;have hce:zeP sl i=true:=by simp[zeP,zde ho,hc]
  have hbefore:∀(k' i':Nat) re',k'<k->ord[k']? =some (i',re')->S i':=λk' i' re' h1 h2=>zcW W.closed i i' hpr (R.chk.eff k i re k' i' re' hi hce h1 h2);have hcalm:∀k',q<=k'->k'<k->ziG sl ord T k':=λk' h1 h2=>by obtain⟨i',re',h3⟩:=R.at_ (k:=k') (by omega);exact W.rest k' i' re' h1 h3 (hbefore k' i' re' h2 h3)
  have hWk:=R.adv_to W.spec hqk (by omega) hcalm;obtain⟨V2,hV2⟩:=R.exists_W (q:=k+1) (by omega);refine⟨M k,M (k+1),V2,k+1,hop0,hWk.rel W.post.rel,R.next_ge k (by omega),by omega,by omega,hV2,λk' i' re' h1 h2=>?_,λk' i' re' h1 h2 h3=>?_,λρ' w' h hold=>?_⟩
  ·rcases Nat.lt_or_ge k' k with h3|h3
   ·exact .inl (hbefore k' i' re' h3 h2)
   ·have:k'=k:=by omega
    subst this;rw[hi] at h2;cases h2;exact .inr rfl
  ·rcases h3 with h3|h3
   ·exact W.rest k' i' re' (by omega) h2 h3
   ·subst h3;have:=R.chk.uniq k' k i' re' re h2 hi;omega
  ·refine R.beside hi ho (by rw[hc];simp) (by omega) (by omega) (by omega) hWk hV2 (λk2 h1 h2 b ob hm=>?_) W.post.rel h hold;have:k2=k:=by omega
   subst this;obtain⟨i2,re2,h3,h4,_⟩:=hm;rw[hi] at h3;cases h3;rw[zde ho,hc] at h4;cases h4
theorem zon{l:List Oper}{S S':Nat->Prop}{i:Nat}(hS:zky l S)(hpr:∀p∈(l.map zeo).getD i [],S p)(h:∀j,S' j↔(S j∨j=i)):zky l S':=by
 intro j hj p hp;rw[h] at hj⊢;rcases hj with hj|rfl
 ·exact .inl (hS j hj p hp)
 ·exact .inl (hpr p hp)
theorem ztS{ρ:Rho}{t:List Value}{c:Array Value}(hl:c.size=t.length){v v':Value}(hv:zaq σ ρ v v')(x:Tmp):zaq σ ρ ((t.set x v).getD x undef) ((c.setIfInBounds x v').getD x undef):=by
 rw[gD',Array.getD_eq_getD_getElem?];by_cases hx:x<t.length
 ·simp[hx,hl,hv]
 ·have h1:(t.set x v)[x]? =none:=List.getElem?_eq_none (by rw[sL];exact Nat.le_of_not_lt hx);have h2:(c.setIfInBounds x v')[x]? =none:=Array.getElem?_eq_none (by rw[Array.size_setIfInBounds,hl];exact Nat.le_of_not_lt hx);rw[h1,h2];exact zaq.undef ρ
theorem Run.onward(R:Run E self base ops sl ord T M)(W:Way σ base ops sl ord T M ρ0 w0 ds S a w ρ q V){k i:Nat}{re:List Nat}{o:SOp}{v v':Value}(hi:ord[k]? =some (i,re))(ho:sl[i]? =some o)
  (hpr:∀p∈(ops.toList.map zeo).getD i [],S p) (hT:T (k+1)=zdP o.dst v (T k)) {S':Nat->Prop} (hS':∀j,S' j↔(S j∨j=i)) {ρ':Rho} {w':World} {q2:Nat} {V2:Mem} (hv:zaq σ ρ' v v') (hp:zaN σ ρ V w ρ' V2 w') (hold:zeU (base+ops.size) (base+i) ρ ρ')
  (h1:q2<=ops.size) (h2:zfx base sl ord M ops.size q2 V2) (h3:∀(k' i':Nat) re',k'<q2->ord[k']? =some (i',re')->S i'∨i'=i) (h4:∀(k' i':Nat) re',q2<=k'->ord[k']? =some (i',re')->S i'∨i'=i->ziG sl ord T k'):
  Way σ base ops sl ord T M ρ0 w0 ds S' (a.put o.dst v') w' ρ' q2 V2:=by
 have hk:=R.klt hi;refine⟨h2,h1,λk' i' re' g1 g2=>(hS' i').2 (h3 k' i' re' g1 g2),λk' i' re' g1 g2 g3=>h4 k' i' re' g1 g2 ((hS' i').1 g3),zon W.closed hpr hS',λj hj hn=>?_,W.post.trans hp,λb hb e=>?_,?_,λx hx=>?_,λx hx=>?_,by rw[zfT];exact W.defers⟩
 ·rw[hS'] at hn;exact hold _ (by omega) (λe=>hn (.inr (by omega))) (W.none j hj λh=>hn (.inl h))
 ·exact hold _ (by omega) (by omega) (W.old b hb e)
 ·cases hd:o.dst with
  |none=>exact W.size
  |some x=>simpa [Act.put] using W.size
 ·by_cases hd:o.dst=some x
  ·rw[<-R.after hi ho hd (Nat.lt_succ_self k) (by omega),hT,hd];have hl:a.tmps.size=(T k).length:=by rw[R.tlen k (by omega)];exact W.size
   exact ztS hl hv x
  ·have:(a.put o.dst v').tmps.getD x undef=a.tmps.getD x undef:=by
    cases hdd:o.dst with
    |none=>rfl
    |some y=>have:y≠x:=λe=>hd (by rw[hdd,e]);simp[Act.put,Array.getD_eq_getD_getElem?,Array.getElem?_setIfInBounds_ne this]
   rw[this];obtain⟨i',o',g1,g2,g3⟩:=hx;rcases(hS' i').1 g1 with g1|rfl
   ·exact(W.slotD x ⟨i',o',g1,g2,g3⟩).mono hp.ext
   ·rw[ho] at g2;cases g2;exact absurd g3 hd
 ·have hd:o.dst≠some x:=λhd=>hx i o ho hd ((hS' i).2 (.inr rfl));have:(a.put o.dst v').tmps.getD x undef=a.tmps.getD x undef:=by
   cases hdd:o.dst with
   |none=>rfl
   |some y=>have:y≠x:=λe=>hd (by rw[hdd,e]);simp[Act.put,Array.getD_eq_getD_getElem?,Array.getElem?_setIfInBounds_ne this]
  rw[this];exact(W.slotN x λi' o' g1 g2 g3=>hx i' o' g1 g2 ((hS' i').2 (.inl g3))).mono hp.ext
abbrev zey(listed:Array Bool)(i:Nat):Prop:=listed.getD i false=true
theorem zot{listed:Array Bool}{i:Nat}(hi:i<listed.size)(j:Nat):zey (listed.setIfInBounds i true) j↔(zey listed j∨j=i):=by
 unfold zey;rw[Array.getD_eq_getD_getElem?,Array.getD_eq_getD_getElem?];by_cases h:j=i
 ·subst h;simp[hi]
 ·rw[Array.getElem?_setIfInBounds_ne (λe=>h e.symm)];simp[h]
theorem Run.any_ok(R:Run E self base ops sl ord T M)(hSy:zgT σ E)(hs:zdh σ E.P self)(heq:∀v u,E.eqv v u=true->v=u){l:Option Nat}{Q:Exit->Act->World->Prop}
  (hQ:∀a w ρ,zat σ ρ (T ops.size) a.tmps.toList->a.defers=ds->zaN σ ρ0 (M 0) w0 ρ (M ops.size) w->(∀b,b<base->ρ0 b=none->ρ b=none)->Q .normal a w):
  ∀(fuel:Nat) (listed:Array Bool) (a:Act) (w:World) (ρ:Rho) (q:Nat) (V:Mem),listed.size=ops.size->listed.toList.count false<=fuel->Way σ base ops sl ord T M ρ0 w0 ds (zey listed) a w ρ q V->
   wpAnyIn (Fr l) 0 E.P .any ops Q fuel listed a w:=by
 have preds_at:∀(i:Nat) (o':Oper),ops[i]? =some o'->(ops.toList.map zeo).getD i []=zeo o':=λi o' h=>by rw[gD',gM',Array.getElem?_toList,h];rfl
 have ready_preds:∀(listed:Array Bool) (i:Nat) (o':Oper),ops[i]? =some o'->((∀e∈o'.after,Region.binds .any e=true->listed.getD e.on false=true)↔∀p∈(ops.toList.map zeo).getD i [],zey listed p):=λlisted i o' h=>by
  rw[preds_at i o' h];constructor
  ·intro g p hp;obtain⟨e,h1,rfl⟩:=List.mem_map.1 hp;obtain⟨h2,h3⟩:=List.mem_filter.1 h1;exact g e (by simpa using h2) h3
  ·intro g e he hb;exact g e.on (List.mem_map.2 ⟨e,List.mem_filter.2 ⟨by simpa using he,hb⟩,rfl⟩)
 have allOf:∀(listed:Array Bool),listed.size=ops.size->Region.ready .any ops listed=[]->∀i,i<ops.size->zey listed i:=by
  intro listed hsz hr i
  induction i using Nat.strongRecOn with
  |_ i ih=>
   intro hi;obtain⟨o',ho'⟩:∃o',ops[i]? =some o':=⟨_,Array.getElem?_eq_getElem hi⟩;cases hl:listed.getD i false with
   |true=>exact hl
   |false=>
    have hm:i∈Region.ready .any ops listed:=by
     refine mem_ready.2 ⟨?_,o',ho',(ready_preds listed i o' ho').2 λp hp=>?_⟩
     ·rw[Array.getD_eq_getD_getElem?,Array.getElem?_eq_getElem (by omega)] at hl⊢;exact hl
     ·have hlt:=R.chk.pred_lt i p hp;exact ih p hlt (by omega)
    rw[hr] at hm;cases hm
 have ended:∀(listed:Array Bool) (a:Act) (w:World) (ρ:Rho) (q:Nat) (V:Mem),listed.size=ops.size->Region.ready .any ops listed=[]->Way σ base ops sl ord T M ρ0 w0 ds (zey listed) a w ρ q V->Q .normal a w:=by
  intro listed a w ρ q V hsz hr W;have hall:=allOf listed hsz hr;have hcalm:∀k,q<=k->k<ops.size->ziG sl ord T k:=λk h1 h2=>by obtain⟨i,re,hi⟩:=R.at_ h2;exact W.rest k i re h1 hi (hall i (R.lt hi))
  have hW:=R.adv_to W.spec W.qle (lR' _) hcalm;refine hQ a w ρ ⟨?_,λx hx=>?_⟩ W.defers (W.post.congr (λb o h=>(hW.2 b o).2 (.inl h)) hW.1.symm) W.old
  ·rw[R.tlen _ (lR' _)];simpa using W.size.symm
  ·rw[<-zaw a.tmps];by_cases hw:∃(i:Nat) (o:SOp),sl[i]? =some o∧o.dst=some x
   ·obtain⟨i,o,h1,h2⟩:=hw;have hil:i<ops.size:=by have h3:=(List.getElem?_eq_some_iff.1 h1).1;have h4:=R.chk.len;simp at h4;omega
    exact W.slotD x ⟨i,o,hall i hil,h1,h2⟩
   ·rw[R.never (λi o h1 h2=>hw ⟨i,o,h1,h2⟩) (lR' _)];exact W.slotN x λi o h1 h2=>absurd ⟨i,o,h1,h2⟩ hw
 intro fuel
 induction fuel with
 |zero=>
  intro listed a w ρ q V hsz hc W;have hr:Region.ready .any ops listed=[]:=by
   cases hrr:Region.ready .any ops listed with
   |nil=>rfl
   |cons i rs=>
    have hm:i∈Region.ready .any ops listed:=by rw[hrr];simp
    obtain⟨h1,o',h2,_⟩:=mem_ready.1 hm;have hi:i<listed.size:=by rw[hsz];exact(Array.getElem?_eq_some_iff.1 h2).1
    rw[Array.getD_eq_getD_getElem?,Array.getElem?_eq_getElem hi] at h1;have:false∈listed.toList:=by have h3:listed[i]=false:=h1;rw[<-h3];simp
    have:=List.count_pos_iff.2 this;omega
  exact⟨hr,ended listed a w ρ q V hsz hr W⟩
 |succ fuel ih=>
  intro listed a w ρ q V hsz hc W;refine⟨λhr=>ended listed a w ρ q V hsz hr W,λi hm=>?_⟩;obtain⟨h1,o',h2,h3⟩:=mem_ready.1 hm;have hil:i<ops.size:=(Array.getElem?_eq_some_iff.1 h2).1;have hi:i<listed.size:=by omega
  have hlist:listed[i]=false:=by rwa[Array.getD_eq_getD_getElem?,Array.getElem?_eq_getElem hi] at h1
  have hS:¬zey listed i:=by unfold zey;rw[Array.getD_eq_getD_getElem?,Array.getElem?_eq_getElem hi,Option.getD_some,hlist];simp
  have hpr:=(ready_preds listed i o' h2).1 h3;obtain⟨k,re,hk⟩:=R.chk.all i (by simpa using hil);obtain⟨o,ho,hstep,hre⟩:=R.tr.step k i re hk;obtain⟨o2,ho2,hst⟩:=R.strip i o ho;rw[h2] at ho2;cases ho2;have hcnt:(listed.setIfInBounds i true).toList.count false<=fuel:=by
   rw[Array.toList_setIfInBounds,List.count_set (by simpa using hi)];have:listed.toList[i]'(by simpa using hi)=false:=by simpa using hlist
   rw[this];have e1:(false==false)=true:=rfl;have e2:(true==false)=false:=rfl;rw[e1,e2,if_pos rfl,if_neg (by simp)];omega
  have hsz':(listed.setIfInBounds i true).size=ops.size:=by simpa using hsz
  have hset:=zot (listed:=listed) hi;have hg:∀x b,o.guard=some (x,b)->zaq σ ρ ((T k).getD x undef) (a.tmps.getD x undef):=λx b hgd=>R.look W hk ho hS hpr (by simp[looks,hgd]);have hwant:=zg6 hst (zn5 hstep) hg;have hr:∀x∈o.op.operands.toList,zaq σ ρ (ev x (T k)) (a.eval x):=λx hx=>by
   cases x with
   |tmp y=>exact R.look W hk ho hS hpr (by simp only[looks,List.mem_append,List.mem_filterMap];exact .inl ⟨_,hx,rfl⟩)
   |const v=>exact zaF (σ:=σ) ρ (hst.plain _ hx)
   |global g=>have hg:=W.post.rel.glob g (by simpa [zch] using hst.plain _ hx);have:=zaq.ptr (σ:=σ) (o:=0) hg;simpa [ev,Act.eval] using this
   |func f=>exact .func (λl=>by simp) (λn=>by simp) rfl (λi hi=>absurd hi (by simp)) rfl (λi hi=>absurd hi (by simp))
  obtain⟨v,hT,hcase⟩:=zdI hstep;unfold wpOpIn;simp only[h2];rw[hwant];rcases hcase with⟨hw,hop⟩|⟨hw,rfl,hMM⟩
  ·simp only[hw,if_true];obtain⟨m1,m2,V2,q2,g1,g2,g3,_,g5,g6,g7,g8,g9⟩:=R.pick heq W hk ho hS hpr hw hop (hre hw);refine zvG rfl hSy hs hst g2 hr (W.none i hil hS) (by omega) g1 λv' w' ρ' k1 k2 k3=>?_;rw[hst.dst];exact ih _ _ _ ρ' q2 V2 hsz' hcnt (R.onward W hk ho hpr hT hset k1 (g9 ρ' w' k2 k3) (λb hb hne e=>k3 b (by omega) hne e) g5 g6 g7 g8)
  ·simp only[hw,bF,if_false];refine⟨λ_ _=>trivial,?_⟩;rw[hst.dst];have hcalm:ziG sl ord T k:=⟨i,re,o,hk,ho, .inr hw⟩;refine ih _ _ _ ρ q V hsz' hcnt (R.onward W hk ho hpr hT hset (zaq.undef ρ) (zaN.refl W.post.rel) (λ_ _ _ e=>e) W.qle W.spec (λk' i' re' j1 j2=> .inl (W.done k' i' re' j1 j2)) λk' i' re' j1 j2 j3=>?_);rcases j3 with j3|j3
   ·exact W.rest k' i' re' j1 j2 j3
   ·subst j3;have:=R.chk.uniq k' k i' re' re j2 hk;subst this;exact hcalm
end
theorem zlz{E:Env}{self:zdv}(hSy:zgT σ E)(hs:zdh σ E.P self)(hg:∀tk m o m',self tk m=some (o,m')->Grow m m')(heq:∀v u,E.eqv v u=true->v=u)(hmix:E.P.follows .mixedOrders=true):zpO σ E self:=by
 intro ops sl ord n hst hord rd l lo ρ m m' w a t t' hR ht hm h;have hchk:=zAn hord;simp only[zao] at h;split at h
 ·rename_i t1 m1 hdr;simp only[sI,pI,Out.exit.injEq,true_and] at h;obtain⟨rfl,rfl⟩:=h;obtain⟨T,M,g1,g2,g3,g4,g5⟩:=zhJ hdr;obtain⟨q1,q2⟩:=zfg hst;have hlen:sl.length=ops.size:=by simpa using q1
  have R:Run E self m.next ops sl ord T M:=by
   refine⟨hchk,⟨λk i re hk=>?_⟩,λi s hi=>?_,hg,λi hi=>?_,?_⟩
   ·obtain⟨o,h1,h2,h3⟩:=g5 k i re hk;refine⟨o,h1,h2,λhw e he=>?_⟩;obtain⟨me,h4,v,u,h5,h6,h7⟩:=h3 hw e he;rcases h4 with⟨k',re',j1,j2,rfl⟩|h4
    ·exact⟨k',re',j1,j2,v,u,h5,h6,h7⟩
    ·cases h4
   ·have hil:i<ops.toList.length:=by have:=(List.getElem?_eq_some_iff.1 hi).1;omega
    obtain⟨s',k1,k2⟩:=q2 i _ (gE' hil);rw[hi] at k1;cases k1;exact⟨_,by rw[<-Array.getElem?_toList];exact gE' hil,k2⟩
   ·rw[g2];exact hR.fresh _ (by omega)
   ·rw[g2];simp only[bN];omega
  have hn:ord.length=ops.size:=R.olen;rw[hn] at g3 g4;apply wpIn_region_any hmix;obtain⟨V,hV⟩:=R.exists_W (q:=0) (by omega);have hp0:zaN σ ρ m w ρ (M 0) w.drew:=by rw[g2];exact(zaN.bump hR _).trans (zaN.drew (hR.bump _))
  have hfreshV:∀b,V.next<=b->V.get b=none:=λb hb=>by
   cases hg:V.get b with
   |none=>rfl
   |some ob=>
    rw[hV.1] at hb;rcases(hV.2 b ob).1 hg with h1|⟨k,_,h2,i,re,h3,_,h5,_⟩
    ·rw[hp0.rel.fresh b hb] at h1;cases h1
    ·have:=R.lt h3;have:=R.next;omega
  have hpV:zaN σ ρ (M 0) w.drew ρ V w.drew:=by
   refine(zaN.refl hp0.rel).more (λb o x hb hx=>?_) hV.1 hfreshV;rcases(hV.2 b o).1 hb with h1|⟨k,_,h2,i,re,h3,_,h5,_⟩
   ·exact h1
   ·rw[hR.dom b (by omega)] at hx;cases hx
  refine R.any_ok hSy hs heq (ρ0:=ρ) (w0:=w.drew) (ds:=a.defers) ?_ ops.size _ a _ ρ 0 V (by simp) (by simp) ?_
  ·intro a' w' ρ' k1 k2 k3 k4;rw[g3] at k1;rw[g4] at k3;exact⟨rfl,rfl,ρ',k1,k2▸hm.post hR (hp0.trans k3),hp0.trans k3,k4⟩
  ·have hnone:∀i,¬zey (Array.replicate ops.size false) i:=λi h=>by
    unfold zey at h;rw[Array.getD_eq_getD_getElem?] at h;by_cases hi:i<ops.size
    ·simp[hi] at h
    ·rw[Array.getElem?_eq_none (by simp;omega)] at h;cases h
   have hl:a.tmps.size=t.length:=by have:=ht.1;simp at this;omega
   refine⟨hV,by omega,λk i re hk=>by omega,λk i re _ _ h=>absurd h (hnone i),λi h=>absurd h (hnone i),λi _ _=>hR.dom _ (by omega),hpV,λb _ e=>e,by rw[g1];exact hl,λx h=>?_,λx _=>?_,rfl⟩
   ·obtain⟨i,o,h1,_⟩:=h;exact absurd h1 (hnone i)
   ·rw[g1,zaw];exact ht.at_ x
 ·cases h
end
section
variable{σ:Sig}
structure zHt(σ:Sig)(E:Env):Prop where
 eqv:∀v u,E.eqv v u=true->v=u
 sym:zgT σ E
 mixed:E.P.follows .mixedOrders=true
 prim:∀f p args m v m',E.prim f=some p->p args m=some (v,m')->zc5 σ E.P f args m v m'
 grow:∀f p args m v m',E.prim f=some p->p args m=some (v,m')->Grow m m'
theorem zvJ{E:Env}(h:zHt σ E):∀n,zmr σ E.P (run E n)
 |0=>⟨⟨⟨λ_ _ _ _ _ h=>(by cases h),λ_ _ _ _ _ h=>(by cases h),λ_ _ _ _ _ _ _ h=>(by cases h)⟩,λ_ _ _ _ _ _ _ h=>(by cases h)⟩,λ_ _ _ _ _ _ _ _ h=>(by cases h)⟩
 |n+1=>by have ih:=zvJ h n;have hd:zpO σ E (run E n):=zlz h.sym ih.tozdh (znr h.grow n) h.eqv h.mixed;have hc:∀rd c t m x t' m',run E (n+1) (.code rd c t) m=some (.exit x t',m')->zge σ E.P rd c t m x t' m':=λrd c t m x t' m' hr=>zxS rfl h.sym ih hd hr;exact⟨⟨⟨λf args m v m' hr=>zy1 rfl ih.tozdh h.prim hr,λl args m v m' hr=>znX ih.tozdh hr,λrd c t m x t' m' hr=>(hc rd c t m x t' m' hr).one⟩,hc⟩,λrd b r t m x t' m' hr=>zmQ ih hr⟩
def zdw(m:Mem):Prop:=∀b o,m.get b=some o->wr o=false
theorem zaN.below{ρ ρ':Rho}{m m':Mem}{w w':World}(h:zaN σ ρ m w ρ' m' w')(hs:zdw m):RowKit.Below w.heap.size w w':=
 ⟨h.os,h.tape,h.output,h.size,λk hk=>h.frame k hk λb o x hb hw _=>by rw[hs b o hb] at hw;cases hw⟩
def Sig.none:Sig:={S:=λ_ _=>False,data:=λ_ _ h=>h.elim}
def m0:Mem:=⟨64, .leaf⟩
def ρ0:Rho:=λb=>if b<64 then some (b,0,0) else none
theorem zwo(b:Nat):m0.get b=none:=rfl
theorem ziD(w:World):Rel σ ρ0 m0 w:=by
 refine⟨λb hb=>?_,λg hg=>by simp[ρ0,hg],λb o x hb=>(by rw[zwo] at hb;cases hb),λb1 b2 o1 o2 x1 x2 _ hb=>(by rw[zwo] at hb;cases hb),λb _=>rfl⟩;have:¬b<64:=by simp[m0] at hb;omega
 simp[ρ0,this]
def zlo:Nat->Value->Value->Bool
 |_, .bool a, .bool b=>a==b
 |_, .int k a, .int l b=>k==l&&a==b
 |_, .string a, .string b=>a==b
 |_, .float k a, .float l b=>k==l&&a==b
 |_, .complex k a b, .complex l c d=>k==l&&a==c&&b==d
 |_, .nilIface, .nilIface|_, .nilFunc, .nilFunc|_, .map none, .map none|_, .pointer none, .pointer none=>true
 |_, .pointer (some ⟨a,o,none⟩), .pointer (some ⟨b,p,none⟩)=>a==b&&o==p
 |_, .map (some a), .map (some b)=>a==b
 |_, .slice none n c, .slice none k d=>n==k&&c==d
 |_, .slice (some ⟨a,o,none⟩) n c, .slice (some ⟨b,p,none⟩) k d=>a==b&&o==p&&n==k&&c==d
 |n+1, .iface s a, .iface t b=>s==t&&zlo n a b
 |n+1, .agg a, .agg b=>a.size==b.size&&(List.range a.size).all λi=>zlo n (a.getD i undef) (b.getD i undef)
 |n+1, .tuple a, .tuple b=>a.size==b.size&&(List.range a.size).all λi=>zlo n (a.getD i undef) (b.getD i undef)
 |_,_,_=>false
theorem zrZ{a b:Array Value}(h1:a.size=b.size)(h2:∀i,i<a.size->a.getD i undef=b.getD i undef):a=b:=by apply Array.ext h1;intro i hi hj;have:=h2 i hi;rwa[Array.getD_eq_getD_getElem?,Array.getD_eq_getD_getElem?,Array.getElem?_eq_getElem hi,Array.getElem?_eq_getElem hj] at this
theorem zyG:∀(n:Nat) (a b:Value),zlo n a b=true->a=b:=by
 intro n
 induction n with
 |zero=>
  intro a b h;unfold zlo at h;split at h<;>first
   |rfl
   |(simp at h;done)
   |(simp only[beq_iff_eq,bT] at h;simp[h];done)
   |(rw[zqJ h];done)
   |(rename_i hn _ _;omega)
   |skip
  all_goals first
   |(obtain⟨rfl,rfl⟩:=(by simpa using h);rfl)
   |(obtain⟨⟨⟨rfl,rfl⟩,rfl⟩,rfl⟩:=(by simpa using h);rfl)
 |succ n ih=>
  intro a b h;unfold zlo at h;split at h<;>first
   |rfl
   |(simp at h;done)
   |(simp only[beq_iff_eq,bT] at h;simp[h];done)
   |(rw[zqJ h];done)
   |skip
  all_goals first
   |(rename_i hn;cases hn
     simp only[bT,beq_iff_eq] at h;rw[h.1,ih _ _ h.2])
   |(rename_i hn;cases hn
     simp only[bT,beq_iff_eq,List.all_eq_true,List.mem_range] at h;congr 1;exact zrZ h.1 λi hi=>ih _ _ (h.2 i hi))
def vEq(a b:Value):Bool:=zlo 8 a b
theorem zrL{a b:Value}(h:vEq a b=true):a=b:=zyG 8 a b h
def env(P:Program):Env:={P:=P,eqv:=vEq,prim:=λ_=>none}
theorem ztF{P:Program}(h:P.follows .mixedOrders=true):zHt σ (env P):=
 ⟨λ_ _=>zrL,λ_ _ _ h=>(by cases h),h,λ_ _ _ _ _ _ h=>(by cases h),λ_ _ _ _ _ _ h=>(by cases h)⟩
end
end Go.Ab
