/- Part. -/
import Derived.Test.YtdhcheegbnnlbaaGreatDoorR04
import Derived.DeepKeys
set_option linter.all false
open Go.Ab.Mem renaming get_put → gP
open List renaming getD_eq_getElem?_getD → gD', getElem?_eq_getElem → gE', getElem?_append_left → aB', getElem?_map → gM'
open Option.some renaming injEq → sI
open Nat renaming lt_of_lt_of_le → lL, le_refl → lR', le_trans → lT
open Bool renaming and_eq_true → bT
open Go.Ab.Cells renaming ofList → ofL
namespace Go.Ab
section
variable{P:Program}{σ σ1 σ2 σ3:Sig}{n0:Nat}
structure zdM(σ:Sig)(ρ:Rho)(m:Mem)(w:World)(ρ':Rho)(m':Mem)(w':World):Prop where
 rel:Rel σ ρ' m' w'
 size:w.heap.size<=w'.heap.size
 os:w'.os=w.os
 tape:w'.tape=w.tape
 output:w'.output=w.output
 frame:∀k,k<w.heap.size->(∀b o x,m.get b=some o->wr o=true->ρ b=some x->x.1≠k)->w'.heap[k]? =w.heap[k]?
 img:∀b o x,m'.get b=some o->ρ' b=some x->x.1<w.heap.size->∃b0 o0 x0,m.get b0=some o0∧ρ b0=some x0∧x0.1=x.1∧(wr o=true->wr o0=true)
theorem zaN.fpost{ρ ρ':Rho}{m m':Mem}{w w':World}(h:zaN σ ρ m w ρ' m' w'):zdM σ ρ m w ρ' m' w':=
 ⟨h.rel,h.size,h.os,h.tape,h.output,h.frame,h.img⟩
theorem zdM.trans{ρ ρ1 ρ2:Rho}{m m1 m2:Mem}{w w1 w2:World}(h:zdM σ1 ρ m w ρ1 m1 w1)(k:zdM σ2 ρ1 m1 w1 ρ2 m2 w2):zdM σ2 ρ m w ρ2 m2 w2:=
 ⟨k.rel,lT h.size k.size,k.os.trans h.os,k.tape.trans h.tape,k.output.trans h.output,
  λi hi hf=>by refine(k.frame i (lL hi h.size) ?_).trans (h.frame i hi hf);intro b o x hb hw hx hk;obtain⟨b0,o0,x0,h1,h2,h3,h4⟩:=h.img b o x hb hx (hk▸hi);exact hf b0 o0 x0 h1 (h4 hw) h2 (h3.trans hk),
  λb o x hb hx hlt=>by obtain⟨b1,o1,x1,h1,h2,h3,h4⟩:=k.img b o x hb hx (lL hlt h.size);obtain⟨b0,o0,x0,g1,g2,g3,g4⟩:=h.img b1 o1 x1 h1 h2 (h3▸hlt);exact⟨b0,o0,x0,g1,g2,g3.trans h3,λhw=>g4 (h4 hw)⟩⟩
theorem zdM.deferred{ρ ρ':Rho}{m m':Mem}{w w':World}(hR:Rel σ1 ρ m w)(h:zdM σ2 ρ m w ρ' m' w'){r:Nat}{ds:Option (List Deferred)}(hr:w.heap[r]? =some (.deferred ds)):w'.heap[r]? =some (.deferred ds):=by have hlt:r<w.heap.size:=(Array.getElem?_eq_some_iff.1 hr).1;rw[h.frame r hlt λb o x hb _ hx he=>(hR.obj b o x hb hx).not_deferred (he▸hr)];exact hr
theorem zbQ.fpost{ρ ρ':Rho}{m m':Mem}{w w':World}{lo:Nat}{ds:List Deferred}(h:zbQ lo w ds)(hR:Rel σ1 ρ m w)(hp:zdM σ2 ρ m w ρ' m' w'):zbQ lo w' ds:=
 h.keep λ_ hr=>hp.deferred hR hr
def zoy(σ:Sig)(n0:Nat)(ρ:Rho)(m:Mem)(w:World)(lo:Nat)(rd l:Option Nat)(x:Exit)(t:List Value)(m':Mem)(e:Exit)(a:Act)(w':World):Prop:=
 e=x∧okX x=true∧∃ρ',zat σ ρ' t a.tmps.toList∧zbQ lo w' a.defers∧zdM σ ρ m w ρ' m' w'∧zfA ρ' rd l∧∀b,b<n0->ρ' b=ρ b
def TOk(σ1 σ2:Sig)(P:Program)(n0:Nat)(rd:Option Nat)(c:zan)(t:List Value)(m:Mem)(x:Exit)(t':List Value)(m':Mem):Prop:=
 ∀(k:Code) ρ w (a:Act) l lo,zbw k=some c->Rel σ1 ρ m w->zat σ1 ρ t a.tmps.toList->zbQ lo w a.defers->lo<=w.heap.size->zfA ρ rd l->
  k.wpIn (Fr l) 0 P (zoy σ2 n0 ρ m w lo rd l x t' m') a w
def zcb(σ1 σ2:Sig)(P:Program)(n0:Nat)(rd:Option Nat)(b:zan)(N:Nat)(t:List Value)(m:Mem)(x:Exit)(t':List Value)(m':Mem):Prop:=
 ∀(k:Code) ρ w (a:Act) l lo,zbw k=some b->Rel σ1 ρ m w->zat σ1 ρ t a.tmps.toList->zbQ lo w a.defers->lo<=w.heap.size->zfA ρ rd l->
  Code.roundsIn (Fr l) 0 P k (zoy σ2 n0 ρ m w lo rd l x t' m') N a w
theorem zoy.trans{ρ ρ1:Rho}{m m1 m':Mem}{w w1 w':World}{lo:Nat}{rd l:Option Nat}{x e:Exit}{t':List Value}{a':Act}(hp:zdM σ1 ρ m w ρ1 m1 w1)(hk:∀b,b<n0->ρ1 b=ρ b)(h:zoy σ2 n0 ρ1 m1 w1 lo rd l x t' m' e a' w'):
  zoy σ2 n0 ρ m w lo rd l x t' m' e a' w':=by
 obtain⟨h1,h2,ρ',h3,h4,h5,h6,h7⟩:=h;exact⟨h1,h2,ρ',h3,h4,hp.trans h5,h6,λb hb=>(h7 b hb).trans (hk b hb)⟩
theorem zmK{ρ ρ1:Rho}{n:Nat}(he:Ext ρ ρ1)(ho:Old n ρ ρ1)(b:Nat)(hb:b<n):ρ1 b=ρ b:=by
 cases h:ρ b with
 |none=>exact ho b hb h
 |some x=>exact he b x h
theorem TOk.of_code{rd:Option Nat}{c:zan}{t t':List Value}{m m':Mem}{x:Exit}(hn:n0<=m.next)(h:zhn σ P rd c t m x t' m'):TOk σ σ P n0 rd c t m x t' m':=by intro k ρ w a l lo h1 h2 h3 h4 h5 h6;refine wpIn_mono (h k ρ w a l lo h1 h2 h3 h4 h5 h6) ?_;rintro e a1 w1 ⟨rfl,ho,ρ1,g1,g2,g3,g4⟩;exact⟨rfl,ho,ρ1,g1,g2,g3.fpost,h6.mono g3.ext,λb hb=>zmK g3.ext g4 b (lL hb hn)⟩
theorem TOk.seq{rd:Option Nat}{a b:zan}{t t1 t2:List Value}{m m1 m2:Mem}{x:Exit}(h:TOk σ1 σ2 P n0 rd a t m .normal t1 m1)(k:TOk σ2 σ3 P n0 rd b t1 m1 x t2 m2):TOk σ1 σ3 P n0 rd (.seq a b) t m x t2 m2:=by intro kk ρ w ac l lo h1 h2 h3 h4 h5 h6;obtain⟨k1,k2,rfl,hk1,hk2⟩:=ziW h1;apply wpIn_seq;refine wpIn_mono (h k1 ρ w ac l lo hk1 h2 h3 h4 h5 h6) ?_;rintro e a1 w1 ⟨rfl,_,ρ1,g1,g2,g3,g4,g5⟩;refine wpIn_mono (k k2 ρ1 w1 a1 l lo hk2 g3.rel g1 g2 (lT h5 g3.size) g4) ?_;exact λe a w hc=>hc.trans g3 g5
theorem TOk.seq_out{rd:Option Nat}{a b:zan}{t t1:List Value}{m m1:Mem}{x:Exit}(h:TOk σ1 σ2 P n0 rd a t m x t1 m1)(hx:x≠ .normal):TOk σ1 σ2 P n0 rd (.seq a b) t m x t1 m1:=by
 intro kk ρ w ac l lo h1 h2 h3 h4 h5 h6;obtain⟨k1,k2,rfl,hk1,hk2⟩:=ziW h1;apply wpIn_seq;refine wpIn_mono (h k1 ρ w ac l lo hk1 h2 h3 h4 h5 h6) ?_;intro e a1 w1 hc;obtain⟨rfl,_⟩:=id hc;cases e with
 |normal=>exact absurd rfl hx
 |_=>exact hc
theorem TOk.block{rd:Option Nat}{i:Nat}{b:zan}{t t1:List Value}{m m1:Mem}{x:Exit}(h:TOk σ1 σ2 P n0 rd b t m x t1 m1):
  TOk σ1 σ2 P n0 rd (.block i b) t m (match x with| .exit k=>if k=i then .normal else .exit k|x=>x) t1 m1:=by
 intro kk ρ w ac l lo h1 h2 h3 h4 h5 h6;obtain⟨kb,rfl,hkb⟩:=ziN h1;apply wpIn_block;refine wpIn_mono (h kb ρ w ac l lo hkb h2 h3 h4 h5 h6) ?_;rintro e a1 w1 ⟨rfl,ho,rest⟩;cases e with
 |exit k=>
  simp only[Exit.inBlock];by_cases hj:k=i
  ·simp only[hj,if_true];exact⟨rfl,rfl,rest⟩
  ·simp only[hj,if_false];exact⟨rfl,rfl,rest⟩
 |_=>exact⟨rfl,ho,rest⟩
theorem TOk.cond{rd:Option Nat}{o:Operand}{a b:zan}{t t1:List Value}{m m1:Mem}{x:Exit}(v:Bool)(hv:ev o t= .bool v)(h:TOk σ1 σ2 P n0 rd (if v then a else b) t m x t1 m1):TOk σ1 σ2 P n0 rd (.cond o a b) t m x t1 m1:=by
 intro kk ρ w ac l lo h1 h2 h3 h4 h5 h6;obtain⟨k1,k2,rfl,hp,hk1,hk2⟩:=zkW h1;have he:=zkt h2 h3 hp;rw[hv] at he;cases v with
 |true=>exact wpIn_cond_true he.bool_inv (h k1 ρ w ac l lo (by simpa using hk1) h2 h3 h4 h5 h6)
 |false=>exact wpIn_cond_false he.bool_inv (h k2 ρ w ac l lo (by simpa using hk2) h2 h3 h4 h5 h6)
theorem zcb.more{rd:Option Nat}{b:zan}{N:Nat}{t t1 t2:List Value}{m m1 m2:Mem}{x:Exit}(h:TOk σ1 σ2 P n0 rd b t m .normal t1 m1)(k:zcb σ2 σ3 P n0 rd b N t1 m1 x t2 m2):zcb σ1 σ3 P n0 rd b (N+1) t m x t2 m2:=by intro kb ρ w ac l lo h1 h2 h3 h4 h5 h6;rw[roundsIn_succ];refine wpIn_mono (h kb ρ w ac l lo h1 h2 h3 h4 h5 h6) ?_;rintro e a1 w1 ⟨rfl,_,ρ1,g1,g2,g3,g4,g5⟩;refine zcP ?_ N (k kb ρ1 w1 a1 l lo h1 g3.rel g1 g2 (lT h5 g3.size) g4);exact λe a w hc=>hc.trans g3 g5
theorem zcb.last{rd:Option Nat}{b:zan}{t t1:List Value}{m m1:Mem}{x:Exit}(h:TOk σ1 σ2 P n0 rd b t m x t1 m1)(hx:x≠ .normal):zcb σ1 σ2 P n0 rd b 1 t m x t1 m1:=by
 intro kb ρ w ac l lo h1 h2 h3 h4 h5 h6;rw[roundsIn_succ];refine wpIn_mono (h kb ρ w ac l lo h1 h2 h3 h4 h5 h6) ?_;intro e a1 w1 hc;obtain⟨rfl,_⟩:=id hc;cases e with
 |normal=>exact absurd rfl hx
 |_=>exact hc
theorem TOk.loop{rd:Option Nat}{b:zan}{N:Nat}{t t1:List Value}{m m1:Mem}{x:Exit}(h:zcb σ1 σ2 P n0 rd b N t m x t1 m1):TOk σ1 σ2 P n0 rd (.loop b) t m x t1 m1:=by intro kk ρ w ac l lo h1 h2 h3 h4 h5 h6;obtain⟨kb,rfl,hkb⟩:=zhe h1;exact wpIn_loop_rounds N (h kb ρ w ac l lo hkb h2 h3 h4 h5 h6)
def View(σ1 σ2:Sig)(n0:Nat)(rd:Option Nat)(t1:List Value)(m1:Mem)(t2:List Value)(m2:Mem):Prop:=
 ∀ρ w (ts:List Value) l,Rel σ1 ρ m1 w->zat σ1 ρ t1 ts->zfA ρ rd l->∃ρ2,Rel σ2 ρ2 m2 w∧zat σ2 ρ2 t2 ts∧zfA ρ2 rd l∧(∀b,b<n0->ρ2 b=ρ b)∧
  ∀b o x,m2.get b=some o->ρ2 b=some x->∃b0 o0 x0,m1.get b0=some o0∧ρ b0=some x0∧x0.1=x.1∧wr o0=wr o
theorem zdM.view{ρ ρ1 ρ2:Rho}{m m1 m2:Mem}{w w1:World}(h:zdM σ1 ρ m w ρ1 m1 w1)(hR:Rel σ2 ρ2 m2 w1)(hv:∀b o x,m2.get b=some o->ρ2 b=some x->∃b0 o0 x0,m1.get b0=some o0∧ρ1 b0=some x0∧x0.1=x.1∧wr o0=wr o):
  zdM σ2 ρ m w ρ2 m2 w1:=
 ⟨hR,h.size,h.os,h.tape,h.output,h.frame,λb o x hb hx hlt=>by obtain⟨b0,o0,x0,g1,g2,g0,g3⟩:=hv b o x hb hx;obtain⟨b1,o1,x1,k1,k2,k3,k4⟩:=h.img b0 o0 x0 g1 g2 (g0▸hlt);exact⟨b1,o1,x1,k1,k2,k3.trans g0,λhw=>k4 (g3.trans hw)⟩⟩
theorem TOk.view{rd:Option Nat}{c:zan}{t t1 t2:List Value}{m m1 m2:Mem}{x:Exit}(h:TOk σ1 σ2 P n0 rd c t m x t1 m1)(hv:View σ2 σ3 n0 rd t1 m1 t2 m2):TOk σ1 σ3 P n0 rd c t m x t2 m2:=by intro k ρ w a l lo h1 h2 h3 h4 h5 h6;refine wpIn_mono (h k ρ w a l lo h1 h2 h3 h4 h5 h6) ?_;rintro e a1 w1 ⟨rfl,ho,ρ1,g1,g2,g3,g4,g5⟩;obtain⟨ρ2,k1,k2,k3,k5,k4⟩:=hv ρ1 w1 _ l g3.rel g1 g4;exact⟨rfl,ho,ρ2,k2,g2,g3.view k1 k4,k3,λb hb=>(k5 b hb).trans (g5 b hb)⟩
theorem zh9{ρ ρ2:Rho}{m m2:Mem}{w:World}(hR:Rel σ2 ρ2 m2 w)(hv:∀b o x,m2.get b=some o->ρ2 b=some x->∃b0 o0 x0,m.get b0=some o0∧ρ b0=some x0∧x0.1=x.1∧wr o0=wr o):zdM σ2 ρ m w ρ2 m2 w:=
 ⟨hR,lR' _,rfl,rfl,rfl,λ_ _ _=>rfl,λb o x hb hx hlt=>by obtain⟨b0,o0,x0,g1,g2,g0,g3⟩:=hv b o x hb hx;exact⟨b0,o0,x0,g1,g2,g0,λhw=>g3.trans hw⟩⟩
theorem TOk.pre{rd:Option Nat}{c:zan}{t t1 t2:List Value}{m m1 m2:Mem}{x:Exit}(hv:View σ1 σ2 n0 rd t m t1 m1)(h:TOk σ2 σ3 P n0 rd c t1 m1 x t2 m2):TOk σ1 σ3 P n0 rd c t m x t2 m2:=by intro k ρ w a l lo h1 h2 h3 h4 h5 h6;obtain⟨ρ2,k1,k2,k3,k5,k4⟩:=hv ρ w _ l h2 h3 h6;refine wpIn_mono (h k ρ2 w a l lo h1 k1 k2 h4 h5 k3) ?_;exact λe a w hc=>hc.trans (zh9 k1 k4) k5
theorem zcb.pre{rd:Option Nat}{b:zan}{N:Nat}{t t1 t2:List Value}{m m1 m2:Mem}{x:Exit}(hv:View σ1 σ2 n0 rd t m t1 m1)(h:zcb σ2 σ3 P n0 rd b N t1 m1 x t2 m2):zcb σ1 σ3 P n0 rd b N t m x t2 m2:=by intro k ρ w a l lo h1 h2 h3 h4 h5 h6;obtain⟨ρ2,k1,k2,k3,k5,k4⟩:=hv ρ w _ l h2 h3 h6;refine zcP ?_ N (h k ρ2 w a l lo h1 k1 k2 h4 h5 k3);exact λe a w hc=>hc.trans (zh9 k1 k4) k5
def zF4(σ:Sig)(n0:Nat)(ρ:Rho)(m:Mem)(w:World)(v:Value)(m':Mem)(e:Ending)(w':World):Prop:=
 ∃v' ρ',e= .returned v'∧zaq σ ρ' v v'∧zdM σ ρ m w ρ' m' w'∧∀b,b<n0->ρ' b=ρ b
def zgP(σ1 σ2:Sig)(P:Program)(n0:Nat)(f:FuncId)(args:List Value)(m:Mem)(v:Value)(m':Mem):Prop:=
 ∀ρ w (args':Array Value),Rel σ1 ρ m w->zat σ1 ρ args args'.toList->CallsIn Fence.wide 0 P f args' w (zF4 σ2 n0 ρ m w v m')
theorem zdM.shut{ρ ρ':Rho}{m m':Mem}{w w':World}(h:zdM σ ρ m w ρ' m' w'){r:Nat}(hr:w'.heap[r]? =some (.deferred (some [])))(hlo:w.heap.size<=r):zdM σ ρ m w ρ' m' (w'.putObj r (.deferred none)):=by
 have hfar:∀k,k≠r->(w'.putObj r (.deferred none)).heap[k]? =w'.heap[k]? :=λk hk=>World.putObj_heap_other hk;refine⟨⟨h.rel.dom,h.rel.glob,λb o x hb hx=>?_,h.rel.inj,h.rel.fresh⟩,by simpa using h.size,h.os,h.tape,h.output,λk hk hf=>?_,h.img⟩
 ·have:=h.rel.obj b o x hb hx;exact this.keep (Ext.refl _) (hfar _ λe=>this.not_deferred (e▸hr))
 ·rw[hfar k (by omega)];exact h.frame k hk hf
theorem zfW{ρ ρ':Rho}{m m':Mem}{w:World}{fn:Func}{tmps:Array Value}{t vs:List Value}(ht:zat σ ρ' t tmps.toList)(hk:∀b,b<n0->ρ' b=ρ b)(h:zeh P t m' fn.results.toList=some vs):
  ∀(ds:List Deferred) (w':World),zbQ w.heap.size w' ds->zdM σ ρ m w ρ' m' w'->LeavesInM Fence.wide 0 P fn tmps (zF4 σ n0 ρ m w (zdb vs) m') ds .returning w'
 |[],w',_,hp=>by obtain⟨v',g1,g2⟩:=zik hp.rel ht h;exact⟨v',g1,v',ρ',rfl,g2,hp,hk⟩
 |d::ds,w',hm,hp=>by
  obtain⟨⟨r,h1,h2,h3,h4⟩,h5⟩:=hm;refine⟨by simp, .inl ⟨r,_,h1,run_takeDeferred h3,?_⟩⟩;refine zfW ht hk h ds _ ?_ (hp.shut h3 h2);have:∀(l:List Deferred),(∀d'∈l,d'.target≠ .collected r)->zbQ w.heap.size w' l->zbQ w.heap.size (w'.putObj r (.deferred none)) l:=by
   intro l
   induction l with
   |nil=>exact λ_ _=>trivial
   |cons d' l ih=>rintro hne ⟨⟨r',k1,k2,k3,k4⟩,k5⟩;have hrr:r'≠r:=λe=>hne d' (by simp) (e▸k1);exact⟨⟨r',k1,k2,(World.putObj_heap_other hrr).trans k3,k4⟩,ih (λd'' hd=>hne d'' (by simp[hd])) k5⟩
  exact this ds h4 h5
theorem zgP.of_code{f:FuncId}{s:zal}{args:List Value}{m m':Mem}{x:Exit}{t' vs:List Value}(hf:zaG P f=some s)(hx:x= .normal∨x= .ret)
  (h:TOk σ1 σ2 P n0 none s.body (args++List.replicate (s.ntmps-args.length) undef) m x t' m') (hvs:zeh P t' m' s.results=some vs):zgP σ1 σ2 P n0 f args m (zdb vs) m':=by
 unfold zaG at hf;split at hf
 ·rename_i fn hfn;split at hf
  ·rename_i c hc;split at hf
   ·rename_i sc hsc;simp only[sI] at hf;subst hf;intro ρ w args' hR hargs;refine callsIn_of_wp_marks hfn hc trivial ?_ rfl;have hlen:args.length=args'.size:=by simpa using hargs.1
    refine wpIn_mono (h c ρ w _ none w.heap.size hsc hR ?_ trivial (lR' _) trivial) ?_
    ·simp only[Array.toList_append,Array.toList_replicate];refine hargs.append ?_;rw[hlen];exact zat.replicate ρ (zaq.undef ρ) _
    ·rintro e a' w' ⟨rfl,hok,ρ',g1,g2,g3,_,g5⟩;rcases hx with rfl|rfl
     ·exact zfW g1 g5 hvs _ _ g2 g3
     ·exact zfW g1 g5 hvs _ _ g2 g3
   ·cases hf
  ·cases hf
 ·cases hf
theorem zc5.of_t{f:FuncId}{args:List Value}{m m':Mem}{v:Value}(h:zgP σ σ P m.next f args m v m')(hn:m.next<=m'.next):zc5 σ P f args m v m':=by
 intro ρ w args' hR ha;refine(h ρ w args' hR ha).mono ?_;rintro e w' ⟨v',ρ',rfl,g1,g2,g3⟩;have he:Ext ρ ρ':=λb x hb=>by
  rcases Nat.lt_or_ge b m.next with hlt|hge
  ·rw[g3 b hlt];exact hb
  ·rw[hR.dom b hge] at hb;cases hb
 exact⟨v',ρ',rfl,g1,⟨g2.rel,he,hn,g2.size,g2.os,g2.tape,g2.output,g2.frame,g2.img⟩,λb hb e=>(g3 b hb).trans e⟩
theorem zgP.of_call{f:FuncId}{args:List Value}{m m':Mem}{v:Value}(hn:n0<=m.next)(h:zc5 σ P f args m v m'):zgP σ σ P n0 f args m v m':=by intro ρ w args' hR ha;refine(h ρ w args' hR ha).mono ?_;rintro e w' ⟨v',ρ',rfl,g1,g2,g3⟩;exact⟨v',ρ',rfl,g1,g2.fpost,λb hb=>zmK g2.ext g3 b (lL hb hn)⟩
theorem TOk.scope{rd:Option Nat}{b:zan}{t t1:List Value}{m m1:Mem}{x:Exit}(h:TOk σ1 σ2 P n0 rd b t m x t1 m1)(hx:∀l,x≠ .goto l):TOk σ1 σ2 P n0 rd (.scope b) t m x t1 m1:=by intro kk ρ w ac l lo h1 h2 h3 h4 h5 h6;obtain⟨kb,rfl,hkb⟩:=zia h1;refine zie (zjf (h kb ρ w ac l lo hkb h2 h3 h4 h5 h6) (λe a w hc=>by obtain⟨rfl,k,_⟩:=hc;exact k) (λl rest a1 w1 hc _=>?_) λe a1 w1 hc _=>hc);obtain⟨e,_⟩:=hc;exact absurd e.symm (hx l)
theorem TOk.rfn{rd:Option Nat}{f:Operand}{ps:List Tmp}{sa sb:zan}{t t2:List Value}{m m2:Mem}{g:FuncId}{first cap:Array Value}{v:Value}{r:zct}{x:Exit}(hn:n0<=m.next)
  (hev:ev f t= .func (.func g) first cap) (hcall:zab P g=true) (hloop:(match rd with|none=>true|some l0=>zmS (m.get l0))=true)
  (hc:zgP σ1 σ2 P (m.next+1) g (first.toList++ [.func (.yield m.next) #[] #[]]++cap.toList) ((m.bump 1).put m.next (.loop {state:= .ready,pend:=none,tmps:=t,ps:=ps,assign:=sa,body:=sb})) v m2)
  (hv:∀(ρ ρ':Rho) (ts:List Value),(∀b,b<m.next+1->ρ' b=ρ b)->zat σ1 ρ t ts->zat σ2 ρ' t2 ts)
  (hr:m2.get m.next=some (.loop r)) (hbusy:r.state≠ .busy) (hx:(match r.pend with|none=>x= .normal|some y=>zrH y=true∧x=y)):
  TOk σ1 σ2 P n0 rd (.rfn f ps sa sb) t m x t2 (m2.put m.next (.loop {r with state:= .exhausted})):=by
 intro kk ρ w a l lo hk hR ht hm hlo hrd;obtain⟨pa,ka,kb,rfl,rfl,hf,h1,h2⟩:=zmX hk;apply wpIn_rangeFunc;intro fn _;obtain⟨l',mark,w1,ρ1,g1,g2,g3,g4,g5⟩:=znw (P:=P) fn hR ht hm hlo hloop hrd h1 h2 (ps:=pa);have hfv:=(zkt hR ht hf).mono g4.ext;rw[hev] at hfv;generalize hff:a.eval f=ff at hfv;cases hfv with
 |func hy hmm k1 k2 k3 k4=>
  rename_i fs' cp';refine⟨l',mark,w1,{target:= .fn (.func g) cp',args:=fs'++ #[.func (.yield l') #[] #[]]},w1,g,fs'++ #[.func (.yield l') #[] #[]]++cp',w1,g1,?_,λ_ _=>trivial,?_,λhd=>by simp[Fence.wide] at hd,?_⟩
  ·have hc0:∀v,a.eval (.const v)=v:=λ_=>rfl;simp[resolve,hff,Deferred.ofValue,hc0]
  ·simp[invoke,zdk hcall]
  ·have hargs:zat σ1 ρ1 (first.toList++ [.func (.yield m.next) #[] #[]]++cap.toList) (fs'++ #[Value.func (.yield l') #[] #[]]++cp').toList:=by simp only[Array.toList_append];exact((zcs k1 k2).append (zat.cons (.yield g2) (zat.nil _))).append (zcs k3 k4)
   refine CallsIn.mono (hc ρ1 w1 _ g4.rel hargs) ?_;rintro e w3 ⟨v',ρ3,rfl,j1,j2,j3⟩;have hl3:ρ3 m.next=some (l',0,0):=(j3 _ (Nat.lt_succ_self _)).trans g2;have he3:Ext ρ1 ρ3:=λb y hb=>by
    rcases Nat.lt_or_ge b (m.next+1) with hlt|hge
    ·rw[j3 b hlt];exact hb
    ·rw[g4.rel.dom b (by simpa using hge)] at hb;cases hb
   obtain⟨r',i1,i2,i3,i4,i5,i6,i7⟩:=j2.rel.obj _ _ _ hr hl3;have hturn:zdM σ2 ρ3 m2 w3 ρ3 (m2.put m.next (.loop {r with state:= .exhausted})) (w3.putObj l' (.loop {r' with state:= .exhausted})):=
    (zaN.turn (ob':= .loop {r with state:= .exhausted}) j2.rel hr hl3 rfl (zas (o':= .loop {r' with state:= .exhausted}) i1) ⟨_,(zas i1).at_,rfl,i3,i4,i5,i6,i7⟩).fpost
   have hb':r'.state≠ .busy:=by rw[i2];exact hbusy
   have hp:=(g4.fpost.trans j2).trans hturn;have hmk:zbQ lo (w3.putObj l' (.loop {r' with state:= .exhausted})) (mark++a.defers):=g5.fpost g4.rel (j2.trans hturn);have htt:zat σ2 ρ3 t2 a.tmps.toList:=hv ρ1 ρ3 _ j3 (ht.mono g4.ext);have hkeep:∀b,b<n0->ρ3 b=ρ b:=λb hb=>(j3 b (by omega)).trans (zmK g4.ext g3 b (by omega));have base:∀x0,okX x0=true->zoy σ2 n0 ρ m w lo rd l x0 t2 (m2.put m.next (.loop {r with state:= .exhausted})) x0 {a with defers:=mark++a.defers} (w3.putObj l' (.loop {r' with state:= .exhausted})):=
    λx0 hx0=>⟨rfl,hx0,ρ3,htt,hmk,hp,hrd.mono (g4.ext.trans he3),hkeep⟩
   refine⟨r'.pending,_,run_endLoop i1 hb',?_⟩;cases hpd:r.pend with
   |none=>
    rw[hpd] at hx i3 base;simp only at hx;subst hx;cases hpp:r'.pending with
    |none=>rw[hpp] at base;exact base .normal rfl
    |some c=>rw[hpp] at i3;exact i3.elim
   |some y=>
    rw[hpd] at hx i3 base;simp only at hx;obtain⟨hx1,rfl⟩:=hx;cases hpp:r'.pending with
    |none=>rw[hpp] at i3;cases x<;>exact i3.elim
    |some c=>
     rw[hpp] at i3 base;cases x with
     |ret=>cases c<;>first|(exact i3.elim)|skip
           exact wpIn_ret (base .ret rfl)
     |exit i=>cases c<;>first|(exact i3.elim)|skip
              rename_i j;have:i=j:=i3;subst this;exact wpIn_exit (base (.exit _) rfl)
     |_=>cases hx1
end
section
variable{σ1 σ2:Sig}{n0:Nat}
noncomputable section
end
end
end Go.Ab
namespace Go.Ab
noncomputable section
section
def leaf(k:Nat):Value:= .func (.method "") #[.int .i64 k] #[]
def znu(fs:Array Value):Nat:=match fs.getD 0 undef with
 | .int _ n=>n.toNat
 |_=>0
structure Tie where
 (L sz whole:Nat)
 elems:List (Nat×Nat):=[]
 cells:List Value:=[]
def erN(ds:List Value):Nat->Value->Value
 |_, .func (.method _) fs _=>ds.getD (znu fs) undef
 |n+1, .iface t v=> .iface t (erN ds n v)
 |n+1, .agg cs=> .agg (cs.toList.map (erN ds n)).toArray
 |n+1, .tuple cs=> .tuple (cs.toList.map (erN ds n)).toArray
 |_,v=>v
def er(ds:List Value)(v:Value):Value:=erN ds 6 v
def zc8(len:Nat):Nat->Value->Bool
 |_, .func (.method _) fs _=>decide (znu fs<len)
 |_, .bool _|_, .int .. |_, .float .. |_, .complex .. |_, .string _|_, .nilFunc|_, .nilIface|_, .map none=>true
 |_, .pointer a=>a.isNone
 |_, .slice a n c=>a.isNone&&n==0&&c==0
 |n+1, .iface _ v=>zc8 len n v
 |n+1, .agg cs=>cs.toList.all (zc8 len n)
 |n+1, .tuple cs=>cs.toList.all (zc8 len n)
 |_,_=>false
variable{ds:List Value}{ts:List Tie}{ρ:Rho}
def zEi:Nat->Value->Value->Bool
 |_, .func (.method _) fs _, .func (.method _) gs _=>znu fs==znu gs
 |_, .bool a, .bool b=>a==b
 |_, .int k a, .int l b=>k==l&&a==b
 |_, .string a, .string b=>a==b
 |_, .nilIface, .nilIface|_, .nilFunc, .nilFunc|_, .map none, .map none|_, .pointer none, .pointer none|_, .slice none 0 0, .slice none 0 0=>true
 |n+1, .iface s a, .iface t b=>s==t&&zEi n a b
 |n+1, .agg a, .agg b=>a.size==b.size&&(List.range a.size).all λi=>zEi n (a.getD i undef) (b.getD i undef)
 |n+1, .tuple a, .tuple b=>a.size==b.size&&(List.range a.size).all λi=>zEi n (a.getD i undef) (b.getD i undef)
 |_,_,_=>false
end
def zBt(P:Program)(f:FuncId)(args:List Value)(v:Value):Prop:=
 ∀w,CallsIn Fence.wide 0 P f args.toArray w λe w'=>e= .returned v∧RowKit.Below w.heap.size w w'
inductive zzS where
 |bin (op:BinOp) (t:TypeId) (x y v:Value)
 |un (op:UnOp) (x v:Value)
 |conv (s d:TypeId) (x v:Value)
 |call (f:FuncId) (args:List Value) (v:Value)
def zd7:BinOp->Bool
 | .eql| .neq=>true
 |_=>false
def zrf(P:Program)(t:TypeId):Bool:=match P.underlying t with
 |some (.slice _)=>true
 |_=>false
def zzS.Holds(P:Program)(ds:List Value):zzS->Prop
 | .bin op t x y v=>zc8 ds.length 6 v=true∧match zd7 op with
   |true=>∀xo yo w,(do eqGuard op t xo yo (er ds x) (er ds y);binOp op t (er ds x) (er ds y):Sem Value).run P w= .ok (er ds v) w
   |false=>zcm P (binOp op t (er ds x) (er ds y))=some (er ds v)
 | .un op x v=>zc8 ds.length 6 v=true∧zcm P (Op.unary op (er ds x))=some (er ds v)
 | .conv s d x v=>zc8 ds.length 6 v=true∧zrf P d=false∧zcm P (convert s d (er ds x))=some (er ds v)
 | .call f args v=>zc8 ds.length 6 v=true∧zBt P f (args.map (er ds)) (er ds v)
inductive zFJ where
 |len (t:TypeId) (j:Nat) (v:Value)
 |idx (t:TypeId) (j:Nat) (i:Value) (b:Nat)
def zIF(len:Nat)(fs:List zFJ)(o:Op)(r:Operand->Value):Option Value:=match o with
 | .indexAddr t x i=>match r x with
   | .chan (some (j+1))=>if zc8 len 6 (r i) then fs.findSome? fun
     | .idx t' j' i' b=>if t==t'&&j==j'&&zEi 6 (r i) i' then some (ptr b 0) else none
     |_=>none
     else none
   |_=>none
 | .call c=>match c.callee,c.argTypes[0]?,c.args[0]? with
   | .builtin .len,some t,some x=>match r x with
     | .chan (some (j+1))=>fs.findSome? fun
       | .len t' j' v=>if t==t'&&j==j' then some v else none
       |_=>none
     |_=>none
   |_,_,_=>none
 |_=>none
def zjX(eq:Value->Value->Bool)(a b:Array Value):Bool:=a.size==b.size&&(List.range a.size).all λi=>eq (a.getD i undef) (b.getD i undef)
def zgZ:Nat->Value->Value->Bool
 |n+1, .func (.method a) fs cs, .func (.method b) gs ds=>a==b&&zjX (zgZ n) fs gs&&zjX (zgZ n) cs ds
 |n+1, .iface s a, .iface t b=>s==t&&zgZ n a b
 |n+1, .agg a, .agg b=>zjX (zgZ n) a b
 |n+1, .tuple a, .tuple b=>zjX (zgZ n) a b
 |_,a,b=>vEq a b
theorem zgK{eq:Value->Value->Bool}(h:∀a b,eq a b=true->a=b){a b:Array Value}(H:zjX eq a b=true):a=b:=by simp only[zjX,bT,beq_iff_eq,List.all_eq_true,List.mem_range] at H;exact zrZ H.1 λi hi=>h _ _ (H.2 i hi)
theorem zy8:∀(n:Nat) (a b:Value),zgZ n a b=true->a=b:=by
 intro n
 induction n with
 |zero=>intro a b h;unfold zgZ at h;exact zrL h
 |succ n ih=>
  intro a b h;unfold zgZ at h;split at h
  ·rename_i hn;cases hn;simp only[bT,beq_iff_eq] at h;rw[h.1.1,zgK ih h.1.2,zgK ih h.2]
  ·rename_i hn;cases hn;simp only[bT,beq_iff_eq] at h;rw[h.1,ih _ _ h.2]
  ·rename_i hn;cases hn;rw[zgK ih h]
  ·rename_i hn;cases hn;rw[zgK ih h]
  ·exact zrL h
end
end Go.Ab
namespace Go.Ab
section
abbrev U(x:BitVec 32):Value:= .int .u32 (x.toNat:Int)
abbrev I(n:Int):Value:= .int .i64 n
abbrev B(b:Bool):Value:= .bool b
variable{P:Program}{ds:List Value}{t:TypeId}{x y v:Value}
theorem zBG(a:BitVec 32):IntKind.u32.wrap (a.toNat:Int)=(a.toNat:Int):=by simp only[IntKind.wrap,IntKind.signed,IntKind.bits];have:=a.isLt;simp;omega
theorem zeE(a:BitVec 32):BitVec.ofInt 32 (a.toNat:Int)=a:=by simp
theorem zgG{op:BinOp}{a b r:BitVec 32}(h:binOp op t (U a) (U b)=pure (.int .u32 (IntKind.u32.wrap (r.toNat:Int)))):zcm P (binOp op t (U a) (U b))=some (U r):=by rw[h,zBG];rfl
theorem zmA{a b:BitVec 32}(hl:zc8 ds.length 6 v=true)(hx:er ds x=U a)(hy:er ds y=U b)(hv:er ds v=U (a|||b)):zzS.Holds P ds (.bin .or t x y v):=
 ⟨hl,by show zcm P (binOp .or t (er ds x) (er ds y))=some (er ds v);rw[hx,hy,hv];exact zgG (show Op.intBits .or .u32 _ _=_ by simp only[Op.intBits];show pure (Value.int .u32 (IntKind.u32.wrap ((BitVec.ofInt 32 _|||BitVec.ofInt 32 _).toNat:Int)))=_;rw[zeE,zeE])⟩
theorem zlf{a b:BitVec 32}(hl:zc8 ds.length 6 v=true)(hx:er ds x=U a)(hy:er ds y=U b)(hv:er ds v=U (a&&&b)):zzS.Holds P ds (.bin .and t x y v):=
 ⟨hl,by show zcm P (binOp .and t (er ds x) (er ds y))=some (er ds v);rw[hx,hy,hv];exact zgG (show Op.intBits .and .u32 _ _=_ by simp only[Op.intBits];show pure (Value.int .u32 (IntKind.u32.wrap ((BitVec.ofInt 32 _&&&BitVec.ofInt 32 _).toNat:Int)))=_;rw[zeE,zeE])⟩
theorem zg7{a b:BitVec 32}(hl:zc8 ds.length 6 v=true)(hx:er ds x=U a)(hy:er ds y=U b)(hv:er ds v=U (a&&& ~~~b)):zzS.Holds P ds (.bin .andNot t x y v):=
 ⟨hl,by show zcm P (binOp .andNot t (er ds x) (er ds y))=some (er ds v);rw[hx,hy,hv];exact zgG (show Op.intBits .andNot .u32 _ _=_ by simp only[Op.intBits];show pure (Value.int .u32 (IntKind.u32.wrap ((BitVec.ofInt 32 _&&& ~~~(BitVec.ofInt 32 _)).toNat:Int)))=_;rw[zeE,zeE])⟩
theorem za4(n:Int):IntKind.u32.wrap n=n % 4294967296:=by simp[IntKind.wrap,IntKind.signed,IntKind.bits]
theorem zjY{a:BitVec 32}{yk:IntKind}{b:Int}(hl:zc8 ds.length 6 v=true)(hx:er ds x=U a)(hy:er ds y= .int yk b)(hv:er ds v=U (a>>>b.toNat))(hb:0<=b):zzS.Holds P ds (.bin .shr t x y v):=
 ⟨hl,by
  show zcm P (binOp .shr t (er ds x) (er ds y))=some (er ds v);rw[hx,hy,hv];show zcm P (Op.shift .shr .u32 _ yk _)=_;unfold Op.shift;rw[if_neg (by omega)];show some (Value.int .u32 _)=_;congr 2;rw[BitVec.toNat_ushiftRight,Nat.shiftRight_eq_div_pow,Int.fdiv_eq_ediv_of_nonneg _ (Int.pow_nonneg (by decide))];have hlt:=a.isLt;show(a.toNat:Int)/2 ^ (min b.toNat 32)=_;rcases Nat.le_total b.toNat 32 with h|h
  ·rw[Nat.min_eq_left h]
   norm_cast
  ·rw[Nat.min_eq_right h];have h1:a.toNat/2 ^ b.toNat=0:=Nat.div_eq_of_lt (lL hlt (Nat.pow_le_pow_right (by decide) h));rw[h1];omega⟩
theorem zj0{a:BitVec 32}{yk:IntKind}{b:Int}(hl:zc8 ds.length 6 v=true)(hx:er ds x=U a)(hy:er ds y= .int yk b)(hv:er ds v=U (a<<<b.toNat))(hb:0<=b):zzS.Holds P ds (.bin .shl t x y v):=
 ⟨hl,by
  show zcm P (binOp .shl t (er ds x) (er ds y))=some (er ds v);rw[hx,hy,hv];show zcm P (Op.shift .shl .u32 _ yk _)=_;unfold Op.shift;rw[if_neg (by omega)];show some (Value.int .u32 _)=_;congr 2;rw[BitVec.toNat_shiftLeft,Nat.shiftLeft_eq,za4];show(a.toNat:Int)*2 ^ (min b.toNat 32) % 4294967296=_;rcases Nat.le_total b.toNat 32 with h|h
  ·rw[Nat.min_eq_left h];rw[Int.natCast_emod,Int.natCast_mul,Int.natCast_pow];rfl
  ·rw[Nat.min_eq_right h];have h1:a.toNat*2 ^ b.toNat % 2 ^ 32=0:=by obtain⟨k,hk⟩:=Nat.le.dest h;rw[<-hk,Nat.pow_add,<-Nat.mul_assoc,Nat.mul_right_comm];exact Nat.mul_mod_left _ _
   rw[h1];omega⟩
end
end Go.Ab
namespace Go.Ab
noncomputable section
section
variable{P:Program}{σ σ':Sig}{n0:Nat}
abbrev R:=Option (Out×Mem)
end
section
variable{P:Program}{E:Env}{n0:Nat}
structure zb8 where
 tk:zpE
 m:Mem
 v:Value
 m':Mem
def zb8.Ok(P:Program)(c:zb8):Prop:=Grow c.m c.m'∧match c.tk with
 | .call f args=>zc5 Sig.none P f args c.m c.v c.m'
 | .round l args=>zex Sig.none P l args c.m c.v c.m'
 | .code .. =>False
open Classical in
def tab:List zb8->zdv
 |[],_,_=>none
 |c::L,tk,m=>if tk=c.tk∧m=c.m then some (.val c.v,c.m') else tab L tk m
def zuO(P:Program)(L:List zb8):Prop:=(∀c∈L,c.Ok P)∧∀c∈L,∀d∈L,c.tk=d.tk->c.m=d.m->c.v=d.v∧c.m'=d.m'
theorem zhr:∀{L:List zb8} {tk:zpE} {m m':Mem} {o:Out},tab L tk m=some (o,m')->∃c∈L,tk=c.tk∧m=c.m∧o= .val c.v∧m'=c.m'
 |[],_,_,_,_,h=>by cases h
 |c::L,tk,m,m',o,h=>by
  unfold tab at h;split at h
  ·rename_i hc;cases h;exact⟨c,by simp,hc.1,hc.2,rfl,rfl⟩
  ·obtain⟨d,h1,h2⟩:=zhr h;exact⟨d,by simp[h1],h2⟩
theorem zsY:∀{L:List zb8},(∀c∈L,∀d∈L,c.tk=d.tk->c.m=d.m->c.v=d.v∧c.m'=d.m')->∀c∈L,tab L c.tk c.m=some (.val c.v,c.m')
 |[],_,c,h=>by cases h
 |d::L,hg,c,h=>by
  unfold tab;by_cases e:c.tk=d.tk∧c.m=d.m
  ·rw[if_pos e];obtain⟨h1,h2⟩:=hg c h d (by simp) e.1 e.2;rw[h1,h2]
  ·rw[if_neg e];rcases List.mem_cons.1 h with rfl|h
   ·exact absurd ⟨rfl,rfl⟩ e
   ·exact zsY (λa ha b hb=>hg a (by simp[ha]) b (by simp[hb])) c h
theorem zrd{L:List zb8}(h:zuO P L):zdh Sig.none P (tab L):=by
 refine⟨λf args m v m' hr=>?_,λl args m v m' hr=>?_,λrd c t m x t' m' hr=>?_⟩
 ·obtain⟨c,hc,h1,rfl,h3,rfl⟩:=zhr hr;have:=(h.1 c hc).2;rw[<-h1] at this;cases h3;exact this
 ·obtain⟨c,hc,h1,rfl,h3,rfl⟩:=zhr hr;have:=(h.1 c hc).2;rw[<-h1] at this;cases h3;exact this
 ·obtain⟨c,hc,h1,rfl,h3,rfl⟩:=zhr hr;cases h3
theorem znO{L:List zb8}(h:zuO P L):∀tk m o m',tab L tk m=some (o,m')->Grow m m':=by intro tk m o m' hr;obtain⟨c,hc,h1,rfl,h3,rfl⟩:=zhr hr;exact(h.1 c hc).1
def zub(E:Env)(self:zdv)(base:Nat):List (Nat×SOp)->List Value->Mem->Option (List Value×Mem)
 |[],t,m=>some (t,m)
 |(i,o)::rest,t,m=>match zbz E self (base+i) o t m with
  |some (t',m')=>zub E self base rest t' m'
  |none=>none
def zh8(P:Program)(o:SOp)(r:Operand->Value)(m:Mem):Option (zpE×Mem):=match cls o.op with
 | .eff=>match zeZ P 0 o r m with
   |some (.call f args,m1)=>some (.call f args,m1)
   |some (.round l args,m1)=>some (.round l args,m1)
   |_=>none
 |_=>none
abbrev zj8:zdv:=λ_ _=>none
def zfF(E:Env)(L:List zb8)(id:Nat)(o:SOp)(t:List Value)(m:Mem)(K:List zb8->Value->Mem->Prop):Prop:=
 (∃v m',opA E zj8 id o t m=some (v,m')∧K L v m')∨
 (∃tk m1 v m2,zh8 E.P o (ev · t) m=some (tk,m1)∧(⟨tk,m1,v,m2⟩:zb8).Ok E.P∧(∀c∈L,c.tk=tk->c.m=m1->c.v=v∧c.m'=m2)∧K (⟨tk,m1,v,m2⟩::L) v m2)
def XW(E:Env)(base:Nat):List (Nat×SOp)->List zb8->List Value->Mem->(List zb8->List Value->Mem->Prop)->Prop
 |[],L,t,m,Q=>Q L t m
 |(i,o)::rest,L,t,m,Q=>gOk o.guard t=true∧
  ((wanted o.guard t=true∧zfF E L (base+i) o t m λL' v m'=>XW E base rest L' (zdP o.dst v t) m' Q)∨(wanted o.guard t=false∧XW E base rest L (zdP o.dst undef t) m Q))
theorem znx{self:zdv}{id:Nat}{o:SOp}{t:List Value}{m:Mem}{r:Value×Mem}(h:opA E zj8 id o t m=some r):opA E self id o t m=some r:=by
 unfold opA at h⊢;split at h
 ·exact h
 ·exact h
 ·exact h
 ·split at h
  ·exact h
  ·cases h
  ·cases h
  ·cases h
theorem zrr{id:Nat}{o:SOp}{r:Operand->Value}{m m1:Mem}{q:Req}(hq:∀v,q≠ .val v)(h:zeZ P 0 o r m=some (q,m1)):zeZ P id o r m=some (q,m1):=by
 unfold zeZ at h⊢;split at h<;>first|exact h|skip
 split at h<;>first|exact h|skip
 split at h<;>first|exact h|skip
 rename_i s x _ _;cases hap:zaV P 0 _ (r s) (r x) m with
 |none=>rw[hap] at h;cases h
 |some q'=>rw[hap] at h;cases h;exact absurd rfl (hq _)
theorem ztc{L:List zb8}{id:Nat}{o:SOp}{t:List Value}{m m1:Mem}{tk:zpE}{v:Value}{m2:Mem}(h:zh8 E.P o (ev · t) m=some (tk,m1))(hl:tab L tk m1=some (.val v,m2)):opA E (tab L) id o t m=some (v,m2):=by
 unfold zh8 at h;split at h
 ·rename_i hc;unfold opA;rw[hc];simp only;split at h
  ·rename_i f args m1' he;cases h;rw[zrr (id:=id) (λv=>by simp) he];simp only[hl]
  ·rename_i l args m1' he;cases h;rw[zrr (id:=id) (λv=>by simp) he];simp only[hl]
  ·cases h
 ·cases h
theorem zuO.cons{L:List zb8}{c:zb8}(h:zuO P L)(hc:c.Ok P)(hk:∀d∈L,d.tk=c.tk->d.m=c.m->d.v=c.v∧d.m'=c.m'):zuO P (c::L):=by
 refine⟨λd hd=>?_,λa ha b hb e1 e2=>?_⟩
 ·rcases List.mem_cons.1 hd with rfl|hd
  ·exact hc
  ·exact h.1 d hd
 ·rcases List.mem_cons.1 ha with ia|ia<;>rcases List.mem_cons.1 hb with ib|ib
  ·subst ia;subst ib;exact⟨rfl,rfl⟩
  ·subst ia;obtain⟨h1,h2⟩:=hk b ib e1.symm e2.symm;exact⟨h1.symm,h2.symm⟩
  ·subst ib;exact hk a ia e1 e2
  ·exact h.2 a ia b ib e1 e2
theorem XW.run{base:Nat}{Q:List zb8->List Value->Mem->Prop}:∀{xs:List (Nat×SOp)} {L:List zb8} {t:List Value} {m:Mem},zuO E.P L->XW E base xs L t m Q->
  ∃L' t' m',(∀c∈L,c∈L')∧zuO E.P L'∧zub E (tab L') base xs t m=some (t',m')∧Q L' t' m'
 |[],L,t,m,hL,h=>⟨L,t,m,λ_ h=>h,hL,rfl,h⟩
 |(i,o)::rest,L,t,m,hL,h=>by
  obtain⟨hg,⟨hw,hs⟩|⟨hw,hs⟩⟩:=h
  ·rcases hs with⟨v,m',ho,hk⟩|⟨tk,m1,v,m2,hr,hok,hc,hk⟩
   ·obtain⟨L',t',m'',h1,h2,h3,h4⟩:=XW.run hL hk;refine⟨L',t',m'',h1,h2,?_,h4⟩;unfold zub zbz;rw[if_neg (by simp[hg]),if_pos hw,znx ho];exact h3
   ·obtain⟨L',t',m'',h1,h2,h3,h4⟩:=XW.run (hL.cons hok hc) hk;refine⟨L',t',m'',λc hc=>h1 c (by simp[hc]),h2,?_,h4⟩;unfold zub zbz;rw[if_neg (by simp[hg]),if_pos hw,ztc hr (zsY h2.2 ⟨tk,m1,v,m2⟩ (h1 _ (List.mem_cons_self)))];exact h3
  ·obtain⟨L',t',m'',h1,h2,h3,h4⟩:=XW.run hL hs;refine⟨L',t',m'',h1,h2,?_,h4⟩;unfold zub zbz;rw[if_neg (by simp[hg]),if_neg (by simp[hw])];exact h3
def zgQ:Nat->List SOp->List (Nat×SOp)
 |_,[]=> []
 |i,o::l=>(i,o)::zgQ (i+1) l
theorem zmP{self:zdv}:∀{ops:List SOp} {base i:Nat} {t:List Value} {m:Mem},zea E self (base+i) ops t m=zub E self base (zgQ i ops) t m
 |[],_,_,_,_=>rfl
 |o::l,base,i,t,m=>by
  unfold zea zgQ zub;cases zbz E self (base+i) o t m with
  |none=>rfl
  |some q=>exact zmP (i:=i+1)
def zph(ops:List SOp):List (Nat×List Nat)->Option (List (Nat×SOp))
 |[]=>some []
 |(i,re)::l=>match ops[i]?,zph ops l with
  |some o,some xs=>if re.isEmpty then some ((i,o)::xs) else none
  |_,_=>none
theorem zr0{self:zdv}{base:Nat}{ops:List SOp}:∀{ord:List (Nat×List Nat)} {xs:List (Nat×SOp)} {hist:List (Nat×Mem)} {t:List Value} {m:Mem},zph ops ord=some xs->zfn E self base ops ord hist t m=zub E self base xs t m
 |[],xs,hist,t,m,h=>by cases h;rfl
 |(i,re)::l,xs,hist,t,m,h=>by
  unfold zph at h;split at h
  ·rename_i o xs' ho hx;split at h
   ·rename_i he;cases h;have he:re=[]:=by simpa using he
    subst he;unfold zfn zub;simp only[ho];rw[if_pos (.inr rfl)];cases zbz E self (base+i) o t m with
    |none=>rfl
    |some q=>exact zr0 hx
   ·cases h
  ·cases h
def zlX:List (Nat×Option Mem)->Nat->Option Mem
 |[],_=>none
 |(i,x)::l,k=>if i=k then x else zlX l k
def reP(E:Env)(o:SOp)(t:List Value)(m:Mem)(h:List (Nat×Option Mem)):List Nat->Prop
 |[]=>True
 |e::l=>(∃v,zck E o (ev · t) m=some v∧∃me,zlX h e=some me∧∃u,zck E o (ev · t) me=some u∧E.eqv v u=true)∧reP E o t m h l
def ReW(E:Env)(o:SOp)(t:List Value)(m:Mem)(h:List (Nat×Option Mem)):List Nat->Prop
 |[]=>True
 |e::l=>gOk o.guard t=true∧(wanted o.guard t=true->reP E o t m h (e::l))
def zfU:Bool->Mem->Option Mem
 |true,m=>some m
 |false,_=>none
def YW(E:Env)(base:Nat):List (Nat×SOp×List Nat×Bool)->List (Nat×Option Mem)->List zb8->List Value->Mem->(List zb8->List Value->Mem->Prop)->Prop
 |[],_,L,t,m,Q=>Q L t m
 |(i,o,re,keep)::rest,h,L,t,m,Q=>ReW E o t m h re∧XW E base [(i,o)] L t m λL' t' m'=>YW E base rest ((i,zfU keep m)::h) L' t' m' Q
def drY(E:Env)(self:zdv)(base:Nat):List (Nat×SOp×List Nat×Bool)->List (Nat×Mem)->List Value->Mem->Option (List Value×Mem)
 |[],_,t,m=>some (t,m)
 |(i,o,re,_)::rest,H,t,m=>if wanted o.guard t=false∨zAf E o t m H re=true then match zbz E self (base+i) o t m with
  |some (t',m')=>drY E self base rest ((i,m)::H) t' m'
  |none=>none
  else none
def zd8:List (Nat×Option Mem)->List (Nat×Mem)->Prop
 |[],[]=>True
 |(i,x)::h,(j,m)::H=>i=j∧(x=none∨x=some m)∧zd8 h H
 |_,_=>False
theorem zd8.look:∀{h:List (Nat×Option Mem)} {H:List (Nat×Mem)} {k:Nat} {m:Mem},zd8 h H->zlX h k=some m->zlT H k=some m
 |[],[],_,_,_,h=>by cases h
 |[],_::_,_,_,hh,_=>hh.elim
 |_::_,[],_,_,hh,_=>by unfold zd8 at hh;exact hh.elim
 |(i,x)::h,(j,y)::H,k,m,hh,hk=>by
  obtain⟨rfl,h2,h3⟩:=hh;unfold zlX at hk;unfold zlT;split at hk
  ·rw[if_pos (by assumption)];rcases h2 with rfl|rfl
   ·cases hk
   ·exact hk
  ·rw[if_neg (by assumption)];exact h3.look hk
theorem reP.ok{o:SOp}{t:List Value}{m:Mem}{h:List (Nat×Option Mem)}{H:List (Nat×Mem)}(hh:zd8 h H):∀{re:List Nat},reP E o t m h re->zAf E o t m H re=true
 |[],_=>rfl
 |e::l,hr=>by obtain⟨⟨v,h1,me,h2,u,h3,h4⟩,h5⟩:=hr;have:=reP.ok hh h5;unfold zAf at this⊢;rw[List.all_cons,this,Bool.and_true];simp only[hh.look h2,h1,h3,h4]
theorem ReW.ok{o:SOp}{t:List Value}{m:Mem}{h:List (Nat×Option Mem)}{H:List (Nat×Mem)}(hh:zd8 h H){re:List Nat}(hr:ReW E o t m h re):wanted o.guard t=false∨zAf E o t m H re=true:=by
 cases re with
 |nil=>exact .inr rfl
 |cons e l=>
  cases hw:wanted o.guard t with
  |false=>exact .inl rfl
  |true=>exact .inr (reP.ok hh (hr.2 hw))
theorem zyn(k:Bool)(m:Mem):zfU k m=none∨zfU k m=some m:=by cases k<;>simp[zfU]
theorem zd8.cons{i:Nat}{k:Bool}{m:Mem}{h:List (Nat×Option Mem)}{H:List (Nat×Mem)}(hh:zd8 h H):zd8 ((i,zfU k m)::h) ((i,m)::H):=by unfold zd8;exact⟨rfl,zyn k m,hh⟩
theorem YW.run{base:Nat}{Q:List zb8->List Value->Mem->Prop}:∀{ys:List (Nat×SOp×List Nat×Bool)} {h:List (Nat×Option Mem)} {H:List (Nat×Mem)} {L:List zb8} {t:List Value} {m:Mem},zuO E.P L->zd8 h H->YW E base ys h L t m Q->
  ∃L' t' m',(∀c∈L,c∈L')∧zuO E.P L'∧drY E (tab L') base ys H t m=some (t',m')∧Q L' t' m'
 |[],h,H,L,t,m,hL,_,hh=>⟨L,t,m,λ_ h=>h,hL,rfl,hh⟩
 |(i,o,re,k)::rest,h,H,L,t,m,hL,hH,hh=>by
  obtain⟨hre,hg,⟨hw,hs⟩|⟨hw,hs⟩⟩:=hh
  ·rcases hs with⟨v,m',ho,hk⟩|⟨tk,m1,v,m2,hr,hok,hc,hk⟩
   ·obtain⟨L',t',m'',h1,h2,h3,h4⟩:=YW.run (H:=(i,m)::H) hL hH.cons hk;refine⟨L',t',m'',h1,h2,?_,h4⟩;unfold drY zbz;rw[if_pos (hre.ok hH),if_neg (by simp[hg]),if_pos hw,znx ho];exact h3
   ·obtain⟨L',t',m'',h1,h2,h3,h4⟩:=YW.run (H:=(i,m)::H) (hL.cons hok hc) hH.cons hk;refine⟨L',t',m'',λc hc=>h1 c (by simp[hc]),h2,?_,h4⟩;unfold drY zbz;rw[if_pos (hre.ok hH),if_neg (by simp[hg]),if_pos hw,ztc hr (zsY h2.2 ⟨tk,m1,v,m2⟩ (h1 _ (List.mem_cons_self)))];exact h3
  ·obtain⟨L',t',m'',h1,h2,h3,h4⟩:=YW.run (H:=(i,m)::H) hL hH.cons hs;refine⟨L',t',m'',h1,h2,?_,h4⟩;unfold drY zbz;rw[if_pos (hre.ok hH),if_neg (by simp[hg]),if_neg (by simp[hw])];exact h3
def zqd(ops:List SOp):List (Nat×List Nat)->Option (List (Nat×SOp×List Nat×Bool))
 |[]=>some []
 |(i,re)::l=>match ops[i]?,zqd ops l with
  |some o,some ys=>some ((i,o,re,l.any λp=>p.2.contains i)::ys)
  |_,_=>none
theorem zqz{self:zdv}{base:Nat}{ops:List SOp}:∀{ord:List (Nat×List Nat)} {ys:List (Nat×SOp×List Nat×Bool)} {hist:List (Nat×Mem)} {t:List Value} {m:Mem},zqd ops ord=some ys->zfn E self base ops ord hist t m=drY E self base ys hist t m
 |[],ys,hist,t,m,h=>by cases h;rfl
 |(i,re)::l,ys,hist,t,m,h=>by
  unfold zqd at h;split at h
  ·rename_i o ys' ho hx;cases h;unfold zfn drY;simp only[ho];split
   ·cases zbz E self (base+i) o t m with
    |none=>rfl
    |some q=>exact zqz hx
   ·rfl
  ·cases h
def bump(m:Mem)(n:Nat):Mem:=m.bump n
def LW(n0:Nat)(rd:Option Nat)(B:List Value->Mem->(Exit->List Value->Mem->Prop)->Prop):Nat->List Value->Mem->(Exit->List Value->Mem->Prop)->Prop
 |0,_,_,_=>False
 |N+1,t,m,Q=>∃t1 m1,View Sig.none Sig.none n0 rd t m t1 m1∧B t1 m1 λx t' m'=>match x with
  | .normal=>LW n0 rd B N t' m' Q
  |x=>∃t2 m2,View Sig.none Sig.none n0 rd t' m' t2 m2∧Q x t2 m2
def WX(E:Env)(n0:Nat)(rd:Option Nat):zan->List Value->Mem->(Exit->List Value->Mem->Prop)->Prop
 | .skip,t,m,Q=>Q .normal t m
 | .exit i,t,m,Q=>Q (.exit i) t m
 | .ret,t,m,Q=>Q .ret t m
 | .seq a b,t,m,Q=>WX E n0 rd a t m λx t' m'=>match x with
   | .normal=>WX E n0 rd b t' m' Q
   |x=>Q x t' m'
 | .cond c a b,t,m,Q=>match ev c t with
   | .bool v=>(v=true->WX E n0 rd a t m Q)∧(v=false->WX E n0 rd b t m Q)
   |_=>False
 | .block i b,t,m,Q=>WX E n0 rd b t m λx t' m'=>Q (match x with| .exit k=>if k=i then .normal else .exit k|x=>x) t' m'
 | .loop b,t,m,Q=>∃N,LW n0 rd (WX E n0 rd b) N t m Q
 | .reg ops,t,m,Q=>n0<=m.next∧XW E m.next (zgQ 0 ops) [] t (m.bump ops.length) λ_=>Q .normal
 | .dreg ops ord,t,m,Q=>n0<=m.next∧match zph ops ord with
   |some xs=>XW E m.next xs [] t (m.bump ops.length) λ_=>Q .normal
   |none=>match zqd ops ord with
    |some ys=>YW E m.next ys [] [] t (m.bump ops.length) λ_=>Q .normal
    |none=>False
 | .scope b,t,m,Q=>WX E n0 rd b t m λx t' m'=>(∀l,x≠ .goto l)∧Q x t' m'
 | .label _,t,m,Q=>Q .normal t m
 | .rfn f ps sa sb,t,m,Q=>∃x t' m',TOk Sig.none Sig.none E.P n0 rd (.rfn f ps sa sb) t m x t' m'∧Q x t' m'
 |_,_,_,_=>False
structure zkh(E:Env):Prop where
 eqv:∀v u,E.eqv v u=true->v=u
 sym:zgT Sig.none E
 mixed:E.P.follows .mixedOrders=true
theorem ziA{b:zan}{rd:Option Nat}{Q:Exit->List Value->Mem->Prop}(hB:∀{t:List Value} {m:Mem} {Q:Exit->List Value->Mem->Prop},WX E n0 rd b t m Q->∃x t' m',TOk Sig.none Sig.none E.P n0 rd b t m x t' m'∧Q x t' m'):
  ∀{N:Nat} {t:List Value} {m:Mem},LW n0 rd (WX E n0 rd b) N t m Q->∃K x t' m',zcb Sig.none Sig.none E.P n0 rd b K t m x t' m'∧Q x t' m'
 |0,_,_,h=>h.elim
 |N+1,t,m,h=>by
  obtain⟨t1,m1,hv,hb⟩:=h;obtain⟨x,t2,m2,h1,h2⟩:=hB hb;by_cases hx:x= .normal
  ·subst hx;obtain⟨K,x,t3,m3,h3,h4⟩:=ziA hB h2;exact⟨K+1,x,t3,m3,zcb.pre hv (zcb.more h1 h3),h4⟩
  ·have h2:∃t3 m3,View Sig.none Sig.none n0 rd t2 m2 t3 m3∧Q x t3 m3:=by cases x<;>first|exact absurd rfl hx|exact h2
   obtain⟨t3,m3,h3,h4⟩:=h2;exact⟨1,x,t3,m3,zcb.pre hv (zcb.last (TOk.view h1 h3) hx),h4⟩
theorem WX.ok(hE:zkh E){rd:Option Nat}:∀{c:zan} {t:List Value} {m:Mem} {Q:Exit->List Value->Mem->Prop},WX E n0 rd c t m Q->∃x t' m',TOk Sig.none Sig.none E.P n0 rd c t m x t' m'∧Q x t' m':=by
 intro c
 induction c with
 |skip=>intro t m Q h;refine⟨.normal,t,m,?_,h⟩;intro k ρ w a l lo h1 h2 h3 h4 h5 h6;rw[zkx h1];exact wpIn_skip ⟨rfl,rfl,ρ,h3,h4,(zaN.refl h2).fpost,h6,λ_ _=>rfl⟩
 |exit i=>intro t m Q h;refine⟨.exit i,t,m,?_,h⟩;intro k ρ w a l lo h1 h2 h3 h4 h5 h6;rw[zkE h1];exact wpIn_exit ⟨rfl,rfl,ρ,h3,h4,(zaN.refl h2).fpost,h6,λ_ _=>rfl⟩
 |ret=>intro t m Q h;refine⟨.ret,t,m,?_,h⟩;intro k ρ w a l lo h1 h2 h3 h4 h5 h6;rw[zmO h1];exact wpIn_ret ⟨rfl,rfl,ρ,h3,h4,(zaN.refl h2).fpost,h6,λ_ _=>rfl⟩
 |seq a b iha ihb=>
  intro t m Q h;obtain⟨x,t1,m1,h1,h2⟩:=iha h;by_cases hx:x= .normal
  ·subst hx;obtain⟨x,t2,m2,h3,h4⟩:=ihb h2;exact⟨x,t2,m2,TOk.seq h1 h3,h4⟩
  ·refine⟨x,t1,m1,TOk.seq_out h1 hx,?_⟩;cases x<;>first|exact absurd rfl hx|exact h2
 |cond c a b iha ihb=>
  intro t m Q h;simp only[WX] at h;split at h
  ·rename_i v hv;cases v with
   |true=>obtain⟨x,t1,m1,h1,h2⟩:=iha (h.1 rfl);exact⟨x,t1,m1,TOk.cond true hv h1,h2⟩
   |false=>obtain⟨x,t1,m1,h1,h2⟩:=ihb (h.2 rfl);exact⟨x,t1,m1,TOk.cond false hv h1,h2⟩
  ·exact h.elim
 |block i b ih=>intro t m Q h;obtain⟨x,t1,m1,h1,h2⟩:=ih h;refine⟨_,t1,m1,TOk.block h1,?_⟩;cases x<;>exact h2
 |loop b ih=>intro t m Q h;obtain⟨N,h⟩:=h;obtain⟨K,x,t1,m1,h1,h2⟩:=ziA (λh=>ih h) h;exact⟨x,t1,m1,TOk.loop h1,h2⟩
 |reg ops=>intro t m Q h;obtain⟨hn,h⟩:=h;obtain⟨L,t',m',_,h2,h3,h4⟩:=XW.run ⟨by simp,by simp⟩ h;refine⟨.normal,t',m',TOk.of_code hn ?_,h4⟩;intro k ρ w a l lo k1 k2 k3 k4 k5 k6;obtain⟨n,ops',rfl,hst⟩:=zm7 k1;refine zv9 rfl hE.sym (zrd h2) hst k2 k3 k4 ?_ (rd:=rd);have:=zmP (E:=E) (self:=tab L) (ops:=ops) (base:=m.next) (i:=0) (t:=t) (m:=m.bump ops.length);rw[h3] at this;simp only[zao];rw[show m.next=m.next+0 from rfl,this]
 |dreg ops ord=>
  intro t m Q h;obtain⟨hn,h⟩:=h;split at h
  ·rename_i xs hx;obtain⟨L,t',m',_,h2,h3,h4⟩:=XW.run ⟨by simp,by simp⟩ h;refine⟨.normal,t',m',TOk.of_code hn ?_,h4⟩;intro k ρ w a l lo k1 k2 k3 k4 k5 k6;obtain⟨n,ops',rfl,hst,ho⟩:=zho k1;refine zlz (E:=E) (self:=tab L) hE.sym (zrd h2) (znO h2) hE.eqv hE.mixed hst ho k2 k3 k4 ?_ (rd:=rd);simp only[zao];rw[zr0 hx,h3]
  ·split at h
   ·rename_i ys hx;obtain⟨L',t',m',_,h2,h3,h4⟩:=YW.run (H:=[]) ⟨by simp,by simp⟩ (by unfold zd8;trivial) h;refine⟨.normal,t',m',TOk.of_code hn ?_,h4⟩;intro k ρ w a l lo k1 k2 k3 k4 k5 k6;obtain⟨n,ops',rfl,hst,ho⟩:=zho k1;refine zlz (E:=E) (self:=tab L') hE.sym (zrd h2) (znO h2) hE.eqv hE.mixed hst ho k2 k3 k4 ?_ (rd:=rd);simp only[zao];rw[zqz hx,h3]
   ·exact h.elim
 |scope b ih=>intro t m Q h;obtain⟨x,t1,m1,h1,h2,h3⟩:=ih h;exact⟨x,t1,m1,TOk.scope h1 h2,h3⟩
 |label i=>intro t m Q h;refine⟨.normal,t,m,?_,h⟩;intro k ρ w a l lo h1 h2 h3 h4 h5 h6;obtain rfl:=ziL h1;exact wpIn_label ⟨rfl,rfl,ρ,h3,h4,(zaN.refl h2).fpost,h6,λ_ _=>rfl⟩
 |goto=>intro t m Q h;exact h.elim
 |again=>intro t m Q h;exact h.elim
 |rfn f ps sa sb=>intro t m Q h;exact h
end
section
variable{P:Program}{E:Env}{n0:Nat}
abbrev JJ:Value:= .chan (some 0)
def lk:List (Nat×Value)->Nat->Value
 |[],_=>JJ
 |(k,v)::l,n=>if k=n then v else lk l n
def T(n:Nat)(l:List (Nat×Value)):List Value:=(List.range n).map (lk l)
theorem zc4(k:Nat)(v:Value)(l:List (Nat×Value))(n:Nat):lk ((k,v)::l) n=if k=n then v else lk l n:=rfl
theorem zoZ{n k:Nat}{l:List (Nat×Value)}(h:k<n):(T n l).getD k undef=lk l k:=by simp[T,gD',h]
theorem zbY(n:Nat)(l:List (Nat×Value)):(T n l).length=n:=by simp[T]
theorem zwB{n k:Nat}{l:List (Nat×Value)}(h:k<n):ev (.tmp k) (T n l)=lk l k:=zoZ h
theorem zvh(t:List Value)(v:Value):ev (.const v) t=v:=rfl
theorem zzD(t:List Value)(f:FuncId):ev (.func f) t= .func (.func f) #[] #[]:=rfl
theorem zpQ(t:List Value)(g:Nat):ev (.global g) t=ptr g 0:=rfl
theorem zG6{n k:Nat}{l:List (Nat×Value)}{v:Value}(h:k<n):(T n l).set k v=T n ((k,v)::l):=by
 apply List.ext_getElem?;intro i;rw[List.getElem?_set];by_cases e:k=i
 ·subst e;simp[T,lk,h]
 ·rw[if_neg e];simp only[T,gM'];rcases Nat.lt_or_ge i n with hi|hi
  ·rw[List.getElem?_range hi];simp[lk,e]
  ·rw[List.getElem?_eq_none (by simpa using hi)];rfl
def zhW:Nat->List Value->List (Nat×Value)
 |_,[]=> []
 |i,v::l=>(i,v)::zhW (i+1) l
theorem zjh:∀(l:List Value) (i k:Nat),lk (zhW i l) k=if i<=k∧k<i+l.length then l.getD (k-i) undef else JJ
 |[],i,k=>by simp[zhW,lk];omega
 |v::l,i,k=>by
  rw[zhW,zc4,zjh l (i+1) k];by_cases h:i=k
  ·subst h;simp
  ·rw[if_neg h];by_cases h2:i+1<=k∧k<i+1+l.length
   ·rw[if_pos h2,if_pos ⟨by omega,by simp;omega⟩];have:k-i=(k-(i+1))+1:=by omega
    rw[this];simp
   ·rw[if_neg h2,if_neg (by simp;omega)]
def RV(n0:Nat)(Φ:List (Nat×Nat))(v v':Value):Prop:=∀(ρ ρ':Rho) (w:Value),(∀b,b<n0->ρ' b=ρ b)->(∀p∈Φ,ρ' p.2=ρ p.1)->zaq Sig.none ρ v w->zaq Sig.none ρ' v' w
def rb(n0:Nat)(Φ:List (Nat×Nat))(a b:Nat):Prop:=(a=b∧b<n0)∨(a,b)∈Φ
theorem rb.eq{Φ:List (Nat×Nat)}{a b:Nat}(h:rb n0 Φ a b){ρ ρ':Rho}(h1:∀b,b<n0->ρ' b=ρ b)(h2:∀p∈Φ,ρ' p.2=ρ p.1):ρ' b=ρ a:=by
 rcases h with⟨rfl,h⟩|h
 ·exact h1 _ h
 ·exact h2 _ h
section
variable{Φ:List (Nat×Nat)}
theorem zIf(v:Value):RV n0 Φ v JJ:=λ_ _ _ _ _ _=> .junk
theorem zwi{a b o:Nat}(h:rb n0 Φ a b):RV n0 Φ (.pointer (some ⟨a,o,none⟩)) (.pointer (some ⟨b,o,none⟩)):=λρ ρ' _ h1 h2 hv=>by
 cases hv with
 |ptr hp=>exact .ptr ((h.eq h1 h2).trans hp)
theorem ztr{v:Value}(h:plain v=true):RV n0 Φ v v:=λρ ρ' w h1 h2 hv=>by rw[<-zbG h hv];exact zaF _ h
theorem zJt{n:Nat}{l l':List (Nat×Value)}(h:∀p∈l',RV n0 Φ (lk l p.1) p.2){ρ ρ':Rho}(h1:∀b,b<n0->ρ' b=ρ b)(h2:∀p∈Φ,ρ' p.2=ρ p.1){v:List Value}(hv:zat Sig.none ρ (T n l) v):zat Sig.none ρ' (T n l') v:=by
 refine⟨by rw[<-hv.1,zbY,zbY],λi hi=>?_⟩;rw[zbY] at hi;have hr:=hv.2 i (by rwa[zbY]);rw[zoZ hi] at hr⊢;have key:∀l':List (Nat×Value),(∀p∈l',RV n0 Φ (lk l p.1) p.2)->RV n0 Φ (lk l i) (lk l' i):=by
  intro l'
  induction l' with
  |nil=>exact λ_=>zIf _
  |cons p l' ih=>
   intro h;obtain⟨k,v⟩:=p;rw[zc4];by_cases e:k=i
   ·subst e;rw[if_pos rfl];exact h (k,v) (by simp)
   ·rw[if_neg e];exact ih λq hq=>h q (by simp[hq])
 exact key l' h _ _ _ h1 h2 hr
def RO(n0:Nat)(Φ:List (Nat×Nat)):zaS->zaS->Prop
 | .cells c rw sz, .cells c' rw' sz'=>rw=rw'∧sz=sz'∧c.n=c'.n∧∀i,i<c.n->RV n0 Φ (c.get i) (c'.get i)
 | .map es rw, .map es' rw'=>rw=rw'∧es.length=es'.length∧∀(i:Nat) (e e':Value×Value),es[i]? =some e->es'[i]? =some e'->RV n0 Φ e.1 e'.1∧RV n0 Φ e.2 e'.2
 |_,_=>False
theorem zhw(c:Cells){i:Nat}(h:i<c.n):c.list.getD i undef=c.get i:=by rw[gD',Cells.list_get,if_pos h];rfl
theorem RO.rel{ρ ρ':Rho}(h1:∀b,b<n0->ρ' b=ρ b)(h2:∀p∈Φ,ρ' p.2=ρ p.1){w:World}{x:Nat×Nat×Nat}{o o':zaS}(h:RO n0 Φ o o')(hR:zgu Sig.none ρ w x o):zgu Sig.none ρ' w x o'∧wr o=wr o':=by
 cases o with
 |cells c rw sz=>
  cases o' with
  |cells c' rw' sz'=>obtain⟨rfl,rfl,hn,h⟩:=h;obtain⟨cs,t,fz,g1,g2,g3,g4⟩:=hR;rw[Cells.list_length] at g2 g4;refine⟨⟨cs,t,fz,g1,by rw[Cells.list_length,<-hn];exact g2,g3,λi hi=>?_⟩,rfl⟩;rw[Cells.list_length,<-hn] at hi;have:=g4 i hi;rw[zhw c hi] at this;rw[zhw c' (hn▸hi)];exact h i hi _ _ _ h1 h2 this
  |_=>exact h.elim
 |map es rw=>
  cases o' with
  |map es' rw'=>obtain⟨rfl,hn,h⟩:=h;obtain⟨es2,ck,g1,g2,g3,g4⟩:=hR;refine⟨⟨es2,ck,g1,g2,hn▸g3,λi e he=>?_⟩,rfl⟩;have hi:i<es.length:=hn▸(List.getElem?_eq_some_iff.1 he).1;obtain⟨e2,k1,k2,k3⟩:=g4 i _ (gE' hi);obtain⟨j1,j2⟩:=h i _ _ (gE' hi) he;exact⟨e2,k1,j1 _ _ _ h1 h2 k2,j2 _ _ _ h1 h2 k3⟩
  |_=>exact h.elim
 |_=>exact h.elim
end
theorem zaq.restrict{ρ ρ1 ρ2:Rho}(hd:∀b x,ρ b=some x->ρ2 b=ρ1 b){v u u1:Value}(h:zaq Sig.none ρ v u)(h1:zaq Sig.none ρ1 v u1):zaq Sig.none ρ2 v u1:=by
 induction h generalizing u1 with
 |bool b=>cases h1;exact .bool _
 |int k n=>cases h1;exact .int _ _
 |float k n=>cases h1;exact .float _ _
 |complex k a b=>cases h1;exact .complex _ _ _
 |string s=>cases h1;exact .string _
 |nilFunc=>cases h1;exact .nilFunc
 |nilIface=>cases h1;exact .nilIface
 |nilMap=>cases h1;exact .nilMap
 |nilPtr=>cases h1;exact .nilPtr
 |nilSlice=>cases h1;exact .nilSlice
 |ptr h=>cases h1 with|ptr h'=>exact .ptr ((hd _ _ h).trans h')
 |slice h hc hn=>cases h1 with|slice h' hc' hn'=>exact .slice ((hd _ _ h).trans h') hc' hn'
 |lost a c=>cases h1 with|lost a c=>exact .lost a c
 |map h=>cases h1 with|map h'=>exact .map ((hd _ _ h).trans h')
 |iface t _ ih=>cases h1 with|iface t h'=>exact .iface t (ih h')
 |sym h=>exact h.elim
 |func hy hm e1 _ e3 _ ih2 ih4=>cases h1 with
  |sym h=>exact h.elim
  |func hy' hm' f1 f2 f3 f4=>exact .func hy' hm' f1 (λi hi=>ih2 i hi (f2 i hi)) f3 (λi hi=>ih4 i hi (f4 i hi))
  |yield h=>exact absurd rfl (hy _)
  |meth h'=>exact .meth (ih2 0 (by simp) (by simpa using h'))
 |meth _ ih=>cases h1 with
  |func hy' hm' f1 f2 f3 f4=>
   refine .func hy' hm' f1 (λi hi=>?_) f3 (λi hi=>by simp at hi);have h0:i=0:=by simp at hi;omega
   subst h0;exact ih (f2 0 (by simp))
  |meth h'=>exact .meth (ih h')
 |yield h=>cases h1 with
  |func hy=>exact absurd rfl (hy _)
  |yield h'=>exact .yield ((hd _ _ h).trans h')
 |junk=>exact .junk
 |tie h=>exact h.elim
 |agg e1 _ ih=>cases h1 with|agg f1 f2=>exact .agg f1 λi hi=>ih i hi (f2 i hi)
 |tuple e1 _ ih=>cases h1 with|tuple f1 f2=>exact .tuple f1 λi hi=>ih i hi (f2 i hi)
theorem zat.restrict{ρ ρ1 ρ2:Rho}(hd:∀b x,ρ b=some x->ρ2 b=ρ1 b){l u u1:List Value}(h:zat Sig.none ρ l u)(h1:zat Sig.none ρ1 l u1):zat Sig.none ρ2 l u1:=⟨h1.1,λi hi=>(h.2 i hi).restrict hd (h1.2 i hi)⟩
theorem zgu.restrict{ρ ρ1 ρ2:Rho}(hd:∀b x,ρ b=some x->ρ2 b=ρ1 b){w w1:World}{x:Nat×Nat×Nat}{o:zaS}(h:zgu Sig.none ρ w x o)(h1:zgu Sig.none ρ1 w1 x o):zgu Sig.none ρ2 w1 x o:=by
 cases o with
 |cells c rw sz=>obtain⟨_,_,_,_,_,_,g4⟩:=h;obtain⟨cs',t,fz,k1,k2,k3,k4⟩:=h1;exact⟨cs',t,fz,k1,k2,k3,λi hi=>(g4 i hi).restrict hd (k4 i hi)⟩
 |map es rw=>obtain⟨es',c,_,_,_,g4⟩:=h;obtain⟨es2,c2,k1,k2,k3,k4⟩:=h1;exact⟨es2,c2,k1,k2,k3,λi e he=>by obtain⟨_,_,f1,f2⟩:=g4 i e he;obtain⟨e',j1,j2,j3⟩:=k4 i e he;exact⟨e',j1,f1.restrict hd j2,f2.restrict hd j3⟩⟩
 |strIter s pos=>exact h1
 |loop r=>obtain⟨_,_,_,_,g4,_⟩:=h;obtain⟨r',k1,k2,k3,k4,k5⟩:=h1;exact⟨r',k1,k2,k3,g4.restrict hd k4,k5⟩
 |frz tag=>exact h1
structure zwp(m m1:Mem)(v1 v:Value)(m':Mem)(Φ:List (Nat×Nat)):Prop where
 next:m.next<=m'.next
 new:∀p∈Φ,m.next<=p.1∧m.next<=p.2∧p.2<m'.next
 nodup:(Φ.map (·.2)).Nodup
 nodup1:(Φ.map (·.1)).Nodup
 val:RV m.next Φ v1 v
 get:(∀b,m.next<=b->m.get b=none)->∀b o,m'.get b=some o->(b<m.next∧∃o1,m1.get b=some o1∧((o1=o∧m.get b=some o)∨RO m.next Φ o1 o))∨(∃a,(a,b)∈Φ∧∃o1,m1.get a=some o1∧RO m.next Φ o1 o)
 grow:∀b,b<m.next->m.get b=none->m'.get b=none
def reρ(n:Nat)(Φ:List (Nat×Nat))(ρ ρ1:Rho):Rho:=λb=>if b<n then ρ b else match Φ.find? (λp=>p.2==b) with
 |some p=>ρ1 p.1
 |none=>none
theorem zib:∀{Φ:List (Nat×Nat)} {p:Nat×Nat},(Φ.map (·.2)).Nodup->p∈Φ->Φ.find? (λq=>q.2==p.2)=some p
 |[],p,_,h=>by cases h
 |q::Φ,p,hn,h=>by
  simp only[List.map_cons,List.nodup_cons] at hn;rw[List.find?_cons];rcases List.mem_cons.1 h with rfl|h
  ·simp
  ·have:q.2≠p.2:=λe=>hn.1 (e▸List.mem_map_of_mem h);rw[show(q.2==p.2)=false by simpa using this];exact zib hn.2 h
theorem zy6{n:Nat}{Φ:List (Nat×Nat)}{ρ ρ1:Rho}(hn:(Φ.map (·.2)).Nodup){p:Nat×Nat}(hp:p∈Φ)(hge:n<=p.2):reρ n Φ ρ ρ1 p.2=ρ1 p.1:=by unfold reρ;rw[if_neg (by omega),zib hn hp]
theorem ztw{n:Nat}{Φ:List (Nat×Nat)}{ρ ρ1:Rho}{b:Nat}{x:Nat×Nat×Nat}(h:reρ n Φ ρ ρ1 b=some x)(hb:¬b<n):∃a,(a,b)∈Φ∧ρ1 a=some x:=by
 unfold reρ at h;rw[if_neg hb] at h;split at h
 ·rename_i p hp;have h1:=List.mem_of_find?_eq_some hp;have h2:p.2=b:=by simpa using List.find?_some hp
  exact⟨p.1,by rw[<-h2];exact h1,h⟩
 ·cases h
theorem zs0:∀{Φ:List (Nat×Nat)} {a b c:Nat},(Φ.map (·.1)).Nodup->(a,b)∈Φ->(a,c)∈Φ->b=c
 |[],_,_,_,_,h,_=>by cases h
 |q::Φ,a,b,c,hn,h1,h2=>by
  simp only[List.map_cons,List.nodup_cons] at hn;rcases List.mem_cons.1 h1 with e1|h1<;>rcases List.mem_cons.1 h2 with e2|h2
  ·exact(Prod.mk.inj (e1.trans e2.symm)).2
  ·exact absurd (List.mem_map_of_mem (f:=(·.1)) h2) (by rw[<-e1] at hn;exact hn.1)
  ·exact absurd (List.mem_map_of_mem (f:=(·.1)) h1) (by rw[<-e2] at hn;exact hn.1)
  ·exact zs0 hn.2 h1 h2
theorem zwp.ret{m m1 m':Mem}{v1 v:Value}{Φ:List (Nat×Nat)}(ht:zwp m m1 v1 v m' Φ){ρ:Rho}{w:World}(hR:Rel Sig.none ρ m w){e:Ending}{w1:World}(h:zF4 Sig.none m.next ρ m w v1 m1 e w1):Ret Sig.none ρ m w v m' e w1:=by
 obtain⟨u,ρ1,rfl,hu,hp,hk⟩:=h;have hlow:∀b,b<m.next->reρ m.next Φ ρ ρ1 b=ρ1 b:=λb hb=>by unfold reρ;rw[if_pos hb,hk b hb]
 have hlow':∀b,b<m.next->reρ m.next Φ ρ ρ1 b=ρ b:=λb hb=>by unfold reρ;rw[if_pos hb]
 have hnew:∀p∈Φ,reρ m.next Φ ρ ρ1 p.2=ρ1 p.1:=λp hp=>zy6 ht.nodup hp (ht.new p hp).2.1;have h64:64<=m.next:=by
  rcases Nat.lt_or_ge m.next 64 with h|h
  ·have:=hR.glob m.next h;rw[hR.dom _ (lR' _)] at this;cases this
  ·exact h
 have hdom:∀b x,ρ b=some x->b<m.next:=λb x hb=>by
  rcases Nat.lt_or_ge b m.next with h|h
  ·exact h
  ·rw[hR.dom b h] at hb;cases hb
 have src:∀b o x,m'.get b=some o->reρ m.next Φ ρ ρ1 b=some x->∃a o1,m1.get a=some o1∧ρ1 a=some x∧wr o1=wr o∧zgu Sig.none (reρ m.next Φ ρ ρ1) w1 x o∧((a=b∧b<m.next)∨((a,b)∈Φ∧m.next<=a)):=by
  intro b o x hb hx;rcases ht.get hR.fresh b o hb with⟨hlt,o1,g1,g2⟩|⟨a,ha,o1,g1,g2⟩
  ·rw[hlow b hlt] at hx;have hobj:=hp.rel.obj b o1 x g1 hx;rcases g2 with⟨rfl,g2⟩|g2
   ·refine⟨b,o1,g1,hx,rfl,?_, .inl ⟨rfl,hlt⟩⟩;have h0:=hR.obj b o1 x g2 (by rw[<-hk b hlt];exact hx);exact h0.restrict (λc y hc=>hlow c (hdom c y hc)) hobj
   ·obtain⟨k1,k2⟩:=g2.rel hlow hnew hobj;exact⟨b,o1,g1,hx,k2,k1, .inl ⟨rfl,hlt⟩⟩
  ·rw[hnew _ ha] at hx;obtain⟨k1,k2⟩:=g2.rel hlow hnew (hp.rel.obj a o1 x g1 hx);exact⟨a,o1,g1,hx,k2,k1, .inr ⟨ha,(ht.new _ ha).1⟩⟩
 have bnd:∀b o,m'.get b=some o->b<m'.next:=λb o hb=>by
  rcases ht.get hR.fresh b o hb with⟨hlt,_⟩|⟨a,ha,_⟩
  ·exact lL hlt ht.next
  ·exact(ht.new _ ha).2.2
 refine⟨u,reρ m.next Φ ρ ρ1,rfl,ht.val _ _ _ hlow hnew hu,⟨⟨λb hb=>?_,λg hg=>?_,λb o x hb hx=>?_,λb1 b2 o1 o2 x1 x2 hne g1 g2 k1 k2 hw=>?_,λb hb=>?_⟩,λb x hb=>?_,ht.next,hp.size,hp.os,hp.tape,hp.output,hp.frame,λb o x hb hx hlt=>?_⟩,λb hb e=>?_⟩
 ·cases hx:reρ m.next Φ ρ ρ1 b with
  |none=>rfl
  |some x=>obtain⟨a,ha,_⟩:=ztw hx (by have:=ht.next;omega);have:=(ht.new _ ha).2.2;simp only at this;omega
 ·rw[hlow' g (by omega)];exact hR.glob g hg
 ·obtain⟨a,o1,_,_,_,k,_⟩:=src b o x hb hx;exact k
 ·obtain⟨a1,p1,i1,i2,i3,_,i4⟩:=src b1 o1 x1 g1 k1;obtain⟨a2,p2,j1,j2,j3,_,j4⟩:=src b2 o2 x2 g2 k2;refine hp.rel.inj a1 a2 p1 p2 x1 x2 (λe=>hne ?_) i1 j1 i2 j2 (i3.trans hw);subst e;rcases i4 with⟨rfl,i4⟩|⟨i4,i5⟩<;>rcases j4 with⟨rfl,j4⟩|⟨j4,j5⟩
  ·rfl
  ·omega
  ·omega
  ·exact zs0 ht.nodup1 i4 j4
 ·cases hx:m'.get b with
  |none=>rfl
  |some o=>have:=bnd b o hx;omega
 ·rw[hlow' b (hdom b x hb)];exact hb
 ·obtain⟨a,o1,i1,i2,i3,_,_⟩:=src b o x hb hx;obtain⟨b0,o0,x0,q1,q2,q3,q4⟩:=hp.img a o1 x i1 i2 hlt;exact⟨b0,o0,x0,q1,q2,q3,λhw=>q4 (i3.trans hw)⟩
 ·rw[hlow' b hb];exact e
theorem zwp.call{f:FuncId}{args:List Value}{m m1 m':Mem}{v1 v:Value}{Φ:List (Nat×Nat)}(ht:zwp m m1 v1 v m' Φ)(h:zgP Sig.none Sig.none P m.next f args m v1 m1):zc5 Sig.none P f args m v m'∧Grow m m':=
 ⟨λρ w args' hR ha=>(h ρ w args' hR ha).mono λ_ _ h=>ht.ret hR h,ht.next,ht.grow⟩
theorem zg5{m m1:Mem}{v1 v:Value}(hv:RV m.next [] v1 v)(h:∀b,b<m.next->m1.get b=m.get b):∃Φ,zwp m m1 v1 v m Φ:=by
 refine⟨[],lR' _,by simp,by simp,by simp,hv,λhf b o hb=>?_,λb _ e=>e⟩;rcases Nat.lt_or_ge b m.next with hlt|hge
 ·exact .inl ⟨hlt,o,(h b hlt).trans hb, .inl ⟨rfl,hb⟩⟩
 ·rw[hf b hge] at hb;cases hb
theorem WX.call(hE:zkh E){f:FuncId}{s:zal}{args:List Value}{m m':Mem}{v:Value}(hf:zaG E.P f=some s)
  (h:args.length<=s.ntmps∧WX E m.next none s.body (T s.ntmps (zhW 0 args)) m λx t m1=>(x= .normal∨x= .ret)∧∃vs,zeh E.P t m1 s.results=some vs∧∃Φ,zwp m m1 (zdb vs) v m' Φ):zc5 Sig.none E.P f args m v m'∧Grow m m':=by
 obtain⟨hl,h⟩:=h;obtain⟨x,t,m1,h1,h2,vs,h3,Φ,h4⟩:=WX.ok hE h;refine h4.call (zgP.of_code hf h2 (TOk.pre ?_ h1) h3);intro ρ w ts l hR ht hrd;refine⟨ρ,hR,⟨by rw[<-ht.1,zbY];simp;omega,λi hi=>?_⟩,hrd,λ_ _=>rfl,λb o x hb hx=>⟨b,o,x,hb,hx,rfl,rfl⟩⟩;rw[zbY] at hi;rw[zoZ hi,zjh];split
 ·rename_i hh;have:=ht.2 i (by simp;omega);rw[gD',aB' (by omega),<-gD'] at this;simpa using this
 ·exact .junk
theorem ztH{t:List Value}{m:Mem}:zeh P t m []=some []:=rfl
theorem zuV{t:List Value}{m:Mem}{k:Nat}{l:List ResultVar}:zeh P t m (.tmp k::l)=(zeh P t m l).map (t.getD k undef::·):=by show(match zeh P t m l with|some vs=>some (t.getD k undef::vs)|none=>none)=_;cases zeh P t m l<;>rfl
theorem zpM{t:List Value}{m:Mem}{k:Nat}{ty:TypeId}{l:List ResultVar}:zeh P t m (.cell k ty::l)=(zdo P ty (t.getD k undef) m).bind λv=>(zeh P t m l).map (v::·):=by show(match zdo P ty (t.getD k undef) m,zeh P t m l with|some v,some vs=>some (v::vs)|_,_=>none)=_;cases zdo P ty (t.getD k undef) m<;>cases zeh P t m l<;>rfl
theorem zBB{v:Value}:zdb [v]=v:=rfl
theorem zDo{a b:Value}{l:List Value}:zdb (a::b::l)= .tuple (a::b::l).toArray:=rfl
end
section
variable{P:Program}{E:Env}{n0:Nat}{base i:Nat}{rest:List (Nat×SOp)}{L:List zb8}{t:List Value}{m:Mem}{Q:List zb8->List Value->Mem->Prop}{ty rt:TypeId}{d:Tmp}
def okP{α:Type}(x:Option α)(k:α->Prop):Prop:=match x with
 |some a=>k a
 |none=>False
theorem zcq{α:Type}{x:Option α}{k:α->Prop}:okP x k↔∃a,x=some a∧k a:=by cases x<;>simp[okP]
theorem zgd{α β:Type}{x:Option α}{f:α->β}{k:β->Prop}:okP (x.map f) k↔okP x λa=>k (f a):=by cases x<;>simp[okP]
theorem zhI{o:SOp}(h:cls o.op≠ .eff)(r:Operand->Value):zh8 P o r m=none:=by
 unfold zh8;split
 ·rename_i hc;exact absurd hc h
 ·rfl
theorem zbg{o:SOp}(hg:o.guard=none)(hc:cls o.op= .pure):XW E base ((i,o)::rest) L t m Q↔okP (zl5 E o (ev · t)) λv=>XW E base rest L (zdP o.dst v t) m Q:=by
 rw[XW,hg,zcq];simp only[gOk,wanted,zfF,opA,hc,zhI (o:=o) (by rw[hc];simp),true_and,Bool.true_eq_false,false_and,or_false,reduceCtorEq,exists_false];constructor
 ·rintro⟨v,m',h1,h2⟩;split at h1
  ·rename_i u hu;cases h1;exact⟨_,hu,h2⟩
  ·cases h1
 ·rintro⟨v,h1,h2⟩;exact⟨v,m,by rw[h1],h2⟩
theorem zfS{o:SOp}(hg:o.guard=none)(hc:cls o.op= .read):XW E base ((i,o)::rest) L t m Q↔okP (zck E o (ev · t) m) λv=>XW E base rest L (zdP o.dst v t) m Q:=by
 rw[XW,hg,zcq];simp only[gOk,wanted,zfF,opA,hc,zhI (o:=o) (by rw[hc];simp),true_and,Bool.true_eq_false,false_and,or_false,reduceCtorEq,exists_false];constructor
 ·rintro⟨v,m',h1,h2⟩;split at h1
  ·rename_i u hu;cases h1;exact⟨_,hu,h2⟩
  ·cases h1
 ·rintro⟨v,h1,h2⟩;exact⟨v,m,by rw[h1],h2⟩
theorem ziX{o:SOp}(hg:o.guard=none)(hc:cls o.op= .make):XW E base ((i,o)::rest) L t m Q↔okP (zdc E.P o (ev · t)) λq=>XW E base rest L (zdP o.dst (q.2 (base+i)) t) (m.put (base+i) q.1) Q:=by
 rw[XW,hg,zcq];simp only[gOk,wanted,zfF,opA,hc,zhI (o:=o) (by rw[hc];simp),true_and,Bool.true_eq_false,false_and,or_false,reduceCtorEq,exists_false];constructor
 ·rintro⟨v,m',h1,h2⟩;split at h1
  ·rename_i u hu;cases h1;exact⟨_,hu,h2⟩
  ·cases h1
 ·rintro⟨v,h1,h2⟩;exact⟨_,_,by rw[h1],h2⟩
theorem zna{o:SOp}{q:Option (Value×Mem)}(hg:o.guard=none)(hc:cls o.op= .eff)(he:zeZ E.P (base+i) o (ev · t) m=q.map λp=>(.val p.1,p.2))(hr:zh8 E.P o (ev · t) m=none):
  XW E base ((i,o)::rest) L t m Q↔okP q λp=>XW E base rest L (zdP o.dst p.1 t) p.2 Q:=by
 rw[XW,hg,zcq];simp only[gOk,wanted,zfF,opA,hc,hr,he,true_and,Bool.true_eq_false,false_and,or_false,reduceCtorEq,exists_false];constructor
 ·rintro⟨v,m',h1,h2⟩;cases q with
  |none=>cases h1
  |some p=>cases h1;exact⟨p,rfl,h2⟩
 ·rintro⟨p,rfl,h2⟩;exact⟨p.1,p.2,rfl,h2⟩
def zmy(E:Env)(L:List zb8)(tk:zpE)(m:Mem)(K:List zb8->Value->Mem->Prop):Prop:=∃v m2,(⟨tk,m,v,m2⟩:zb8).Ok E.P∧(∀c∈L,c.tk=tk->c.m=m->c.v=v∧c.m'=m2)∧K (⟨tk,m,v,m2⟩::L) v m2
theorem zjE{o:SOp}{tk:zpE}{m1:Mem}(hg:o.guard=none)(hr:zh8 E.P o (ev · t) m=some (tk,m1))(h:zmy E L tk m1 λL' v m'=>XW E base rest L' (zdP o.dst v t) m' Q):XW E base ((i,o)::rest) L t m Q:=by rw[XW,hg];obtain⟨v,m2,h1,h2,h3⟩:=h;exact⟨rfl, .inl ⟨rfl, .inr ⟨tk,m1,v,m2,hr,h1,h2,h3⟩⟩⟩
theorem zzh{x:Operand}:XW E base ((i,⟨some d, .move x,ty,none⟩)::rest) L t m Q↔XW E base rest L (t.set d (ev x t)) m Q:=zbg rfl rfl
theorem zqc{x:Operand}:XW E base ((i,⟨some d, .assign x,ty,none⟩)::rest) L t m Q↔XW E base rest L (t.set d (ev x t)) m Q:=zbg rfl rfl
def zqQ(c a b:Value):Option Value:=match c with
 | .bool c=>some (if c then a else b)
 |_=>none
theorem zoW{c:Bool}{a b:Value}:zqQ (.bool c) a b=some (if c then a else b):=rfl
theorem zaD{o:SOp}{r:Operand->Value}(hs:∀o r,E.sym o r=none):zl5 E o r=za9 E.P o r:=by
 unfold zl5;cases za9 E.P o r with
 |none=>exact hs o r
 |some v=>rfl
theorem zbB{o:SOp}{r:Operand->Value}(hs:∀o r,E.sym o r=none):zck E o r m=zem E.P o r m:=by
 unfold zck;cases zem E.P o r m with
 |none=>exact hs o r
 |some v=>rfl
variable(hs:∀o r,E.sym o r=none)
include hs
def GD(c:Value)(b:Bool)(A B:Prop):Prop:=gOk (some (0,b)) [c]=true∧match c with
 | .bool c=>(c=b->A)∧(c≠b->B)
 |_=>B
omit hs in
theorem zjt(c b:Bool)(A B:Prop):GD (.bool c) b A B↔((c=b->A)∧(c≠b->B)):=by unfold GD;exact⟨λh=>h.2,λh=>⟨rfl,h⟩⟩
theorem zr7{self:zdv}{id:Nat}{dst:Option Tmp}{op:Op}{g:Option (Tmp×Bool)}:opA E self id ⟨dst,op,ty,g⟩ t m=opA E self id ⟨dst,op,ty,none⟩ t m:=by unfold opA;simp only[zaD hs,zbB hs];rfl
omit hs in
theorem zod{dst:Option Tmp}{op:Op}{g:Option (Tmp×Bool)}{r:Operand->Value}:zh8 P ⟨dst,op,ty,g⟩ r m=zh8 P ⟨dst,op,ty,none⟩ r m:=rfl
theorem zm4{dst:Option Tmp}{op:Op}{g:Tmp}{b:Bool}:XW E base ((i,⟨dst,op,ty,some (g,b)⟩)::rest) L t m Q↔GD (t.getD g undef) b (XW E base ((i,⟨dst,op,ty,none⟩)::rest) L t m Q) (XW E base rest L (zdP dst undef t) m Q):=by
 have e1:gOk (some (g,b)) t=gOk (some (0,b)) [t.getD g undef]:=rfl;have e2:wanted (some (g,b)) t=wanted (some (0,b)) [t.getD g undef]:=rfl;have e3:∀K,zfF E L (base+i) ⟨dst,op,ty,some (g,b)⟩ t m K↔zfF E L (base+i) ⟨dst,op,ty,none⟩ t m K:=λK=>by unfold zfF;rw[zr7 hs,zod]
 have hx:∀(o:SOp),XW E base ((i,o)::rest) L t m Q=(gOk o.guard t=true∧((wanted o.guard t=true∧zfF E L (base+i) o t m λL' v m'=>XW E base rest L' (zdP o.dst v t) m' Q)∨(wanted o.guard t=false∧XW E base rest L (zdP o.dst undef t) m Q))):=λ_=>rfl;rw[hx,hx];simp only[e1,e2,e3];generalize XW E base rest L (zdP dst undef t) m Q=B;generalize(zfF E L (base+i) {dst:=dst,op:=op,type:=ty,guard:=none} t m λL' v m'=>XW E base rest L' (zdP dst v t) m' Q)=A;unfold GD;simp only[gOk,wanted,true_and,Bool.true_eq_false,false_and,or_false];refine and_congr_right λhg=>?_;cases hc:t.getD g undef with
 |bool c=>
  simp only[List.getD_cons_zero];by_cases e:c=b
  ·simp[e]
  ·simp[e]
 |_=>simp
theorem zza{a b c:Operand}:XW E base ((i,⟨some d, .pick c a b,ty,none⟩)::rest) L t m Q↔okP (zqQ (ev c t) (ev a t) (ev b t)) λv=>XW E base rest L (t.set d v) m Q:=by rw[zbg rfl rfl,zaD hs];cases h:ev c t<;>simp only[za9,h,zqQ]<;>rfl
def zcG(P:Program)(op:BinOp)(ty:TypeId)(x y:Value):Option Value:=if plain x&&plain y then zcm P (binOp op ty x y) else none
theorem zAN{op:BinOp}{yt:TypeId}{x y:Operand}(h:zd7 op=false):XW E base ((i,⟨some d, .binOp op ty x y yt,rt,none⟩)::rest) L t m Q↔okP (zcG E.P op ty (ev x t) (ev y t)) λv=>XW E base rest L (t.set d v) m Q:=by rw[zbg rfl (by cases op<;>first|rfl|cases h),zaD hs];rfl
theorem zDK{yt:TypeId}{x y:Operand}:XW E base ((i,⟨some d, .binOp .eql ty x y yt,rt,none⟩)::rest) L t m Q↔okP (eqA E.P .eql ty x y (ev x t) (ev y t) m) λv=>XW E base rest L (t.set d v) m Q:=by rw[zfS rfl rfl,zbB hs];rfl
theorem zCz{yt:TypeId}{x y:Operand}:XW E base ((i,⟨some d, .binOp .neq ty x y yt,rt,none⟩)::rest) L t m Q↔okP (eqA E.P .neq ty x y (ev x t) (ev y t) m) λv=>XW E base rest L (t.set d v) m Q:=by rw[zfS rfl rfl,zbB hs];rfl
def unV(P:Program)(op:UnOp)(x:Value):Option Value:=if plain x then zcm P (Op.unary op x) else none
theorem zFH{op:UnOp}{x:Operand}:XW E base ((i,⟨some d, .unOp op ty x,rt,none⟩)::rest) L t m Q↔okP (unV E.P op (ev x t)) λv=>XW E base rest L (t.set d v) m Q:=by rw[zbg rfl rfl,zaD hs];rfl
def zwU(P:Program):Value->Option Value
 | .pointer (some a)=>some (.pointer (some a))
 | .func (.func f) a c=>some (.func (.func f) a c)
 | .func (.yield l) a c=>some (.func (.yield l) a c)
 | .func (.methodOf ty nm) a c=>if(zaB P ty nm).isSome then some (.func (.methodOf ty nm) a c) else none
 |_=>none
theorem zmd{x:Operand}:XW E base ((i,⟨some d, .nilCheck x,ty,none⟩)::rest) L t m Q↔okP (zwU E.P (ev x t)) λv=>XW E base rest L (t.set d v) m Q:=by rw[zbg rfl rfl,zaD hs];rfl
def zaf(P:Program)(s f:Nat):Option Nat:=match P.underlying s with
 |some (.struct fs)=>match fs[f]? with
  |some fl=>match zbc P fl.type with
   |some (_+1)=>some fl.offset
   |_=>none
  |none=>none
 |_=>none
def zx3(v:Value)(n:Nat):Option Value:=match v with
 | .pointer (some ⟨b,o,none⟩)=>some (.pointer (some ⟨b,o+n,none⟩))
 |_=>none
omit hs in
theorem ztD{b o n:Nat}:zx3 (.pointer (some ⟨b,o,none⟩)) n=some (.pointer (some ⟨b,o+n,none⟩)):=rfl
theorem zkS{x:Operand}{f off:Nat}(hf:zaf E.P ty f=some off):XW E base ((i,⟨some d, .fieldAddr ty x f,rt,none⟩)::rest) L t m Q↔okP (zx3 (ev x t) off) λv=>XW E base rest L (t.set d v) m Q:=by
 rw[zbg rfl rfl,zaD hs];have:za9 E.P ⟨some d, .fieldAddr ty x f,rt,none⟩ (ev · t)=zx3 (ev x t) off:=by
  simp only[za9];unfold zaf at hf;split at hf
  ·rename_i fs hu;split at hf
   ·rename_i fl hfl;split at hf
    ·rename_i n hz;cases hf;rw[hu];unfold zx3;split
     ·rename_i h1 h2;cases h1;simp only[h2,hfl,hz]
     ·rename_i h1;split
      ·rename_i b o h2;exact absurd h2 (h1 _ _ _ rfl)
      ·rfl
    ·cases hf
   ·cases hf
  ·cases hf
 rw[this];rfl
theorem zuN{x:Operand}{f:Nat}:XW E base ((i,⟨some d, .field ty x f,rt,none⟩)::rest) L t m Q↔okP (za9 E.P ⟨some d, .field ty x f,rt,none⟩ (ev · t)) λv=>XW E base rest L (t.set d v) m Q:=by rw[zbg rfl rfl,zaD hs];rfl
def zHG(P:Program)(ty:TypeId)(x i:Value):Option Value:=match P.underlying ty,x,i with
 |some (.array len e), .pointer (some ⟨b,o,none⟩), .int _ n=>if 0<=n∧n<len then match zbc P e with
   |some s=>some (ptr b (o+n.toNat*s))
   |none=>none
  else none
 |some (.slice e), .slice (some ⟨b,o,none⟩) len _, .int _ n=>if 0<=n∧n<len then match zbc P e with
   |some s=>some (ptr b (o+n.toNat*s))
   |none=>none
  else none
 |_,_,_=>none
theorem zlk{x y:Operand}:XW E base ((i,⟨some d, .indexAddr ty x y,rt,none⟩)::rest) L t m Q↔okP (zHG E.P ty (ev x t) (ev y t)) λv=>XW E base rest L (t.set d v) m Q:=by rw[zbg rfl rfl,zaD hs];rfl
theorem zoO{x:Operand}{k:Nat}:XW E base ((i,⟨some d, .extract x k,ty,none⟩)::rest) L t m Q↔okP (match ev x t with| .tuple vs=>vs[k]? |_=>none) λv=>XW E base rest L (t.set d v) m Q:=by rw[zbg rfl rfl,zaD hs];rfl
theorem zmj{f:FuncId}{a c:Array Operand}:XW E base ((i,⟨some d, .makeFunc (.func f) a c,ty,none⟩)::rest) L t m Q↔XW E base rest L (t.set d (.func (.func f) (a.map (ev · t)) (c.map (ev · t)))) m Q:=by rw[zbg rfl rfl,zaD hs];rfl
theorem zlK{nm:String}{a c:Array Operand}:XW E base ((i,⟨some d, .makeFunc (.method nm) a c,ty,none⟩)::rest) L t m Q↔okP (zjZ nm (a.map (ev · t)).toList (c.map (ev · t)).toList) λv=>XW E base rest L (t.set d v) m Q:=by rw[zbg rfl rfl,zaD hs];rfl
theorem zvv{ps:Array (Nat×Operand)}:XW E base ((i,⟨some d, .build ty ps,rt,none⟩)::rest) L t m Q↔okP (zaT E.P ty (ps.toList.map λp=>(p.1,ev p.2 t))) λv=>XW E base rest L (t.set d v) m Q:=by rw[zbg rfl rfl,zaD hs];rfl
theorem zvc{x:Operand}{l h:Option Operand}:XW E base ((i,⟨some d, .slice ty x l h none,rt,none⟩)::rest) L t m Q↔okP (zb5 E.P ty (ev x t) (l.map (ev · t)) (h.map (ev · t))) λv=>XW E base rest L (t.set d v) m Q:=by rw[zbg rfl rfl,zaD hs];rfl
theorem zxa{a:Operand}:XW E base ((i,⟨some d, .load ty a,rt,none⟩)::rest) L t m Q↔okP (zdo E.P ty (ev a t) m) λv=>XW E base rest L (t.set d v) m Q:=by rw[zfS rfl rfl,zbB hs];rfl
theorem zqR{x k:Operand}{ok:Bool}:XW E base ((i,⟨some d, .lookup ty x k ok,rt,none⟩)::rest) L t m Q↔okP (ze7 E.P ty (ev x t) (ev k t) ok m) λv=>XW E base rest L (t.set d v) m Q:=by rw[zfS rfl rfl,zbB hs];rfl
def zbU(P:Program)(s e:TypeId)(x:Value)(m:Mem):Option Value:=zem P ⟨none, .convert s e (.const x),0,none⟩ (ev · []) m
theorem zoB{s e:TypeId}{x:Operand}:XW E base ((i,⟨some d, .convert s e x,rt,none⟩)::rest) L t m Q↔okP (zbU E.P s e (ev x t) m) λv=>XW E base rest L (t.set d v) m Q:=by rw[zfS rfl rfl,zbB hs];rfl
theorem zCF{x:Operand}:XW E base ((i,⟨some d, .call ⟨.builtin .len,#[x],#[ty]⟩,rt,none⟩)::rest) L t m Q↔okP (lenA E.P ty (ev x t) m) λv=>XW E base rest L (t.set d v) m Q:=by rw[zfS rfl rfl,zbB hs];rfl
omit hs
def zdy(P:Program)(t:TypeId):Option (List Value):=match zbT P t with
 |some z=>if plain z then some z.cells.toList else none
 |none=>none
theorem ztW:XW E base ((i,⟨some d, .alloc ty,rt,none⟩)::rest) L t m Q↔okP (zdy E.P ty) λz=>XW E base rest L (t.set d (.pointer (some ⟨base+i,0,none⟩))) (m.put (base+i) (.cells (.ofList z) true 0)) Q:=by
 rw[ziX rfl rfl];have:zdc E.P ⟨some d, .alloc ty,rt,none⟩ (ev · t)=(zdy E.P ty).map λz=>(.cells (.ofList z) true 0,λid=>ptr id 0):=by
  simp only[zdc,zdy];cases zbT E.P ty with
  |none=>rfl
  |some z=>cases h:plain z<;>simp
 rw[this,zgd];rfl
def zr8(v:Value):Option (List Value):=if zdn v then none else some v.cells.toList
theorem zAw{x:Operand}:XW E base ((i,⟨some d, .box ty x,rt,none⟩)::rest) L t m Q↔okP (zr8 (ev x t)) λz=>XW E base rest L (t.set d (.pointer (some ⟨base+i,0,none⟩))) (m.put (base+i) (.cells (.ofList z) true 0)) Q:=by
 rw[ziX rfl rfl];have:zdc E.P ⟨some d, .box ty x,rt,none⟩ (ev · t)=(zr8 (ev x t)).map λz=>(.cells (.ofList z) true 0,λid=>ptr id 0):=by simp only[zdc,zr8];cases h:zdn (ev x t)<;>simp
 rw[this,zgd];rfl
theorem zi0{n:Nat}{ps:Array (Nat×Operand)}:XW E base ((i,⟨some d, .buildSlice ty n ps,rt,none⟩)::rest) L t m Q↔okP (zdc E.P ⟨some d, .buildSlice ty n ps,rt,none⟩ (ev · t)) λq=>XW E base rest L (t.set d (q.2 (base+i))) (m.put (base+i) q.1) Q:=ziX rfl rfl
theorem zpA:XW E base ((i,⟨some d, .makeMap ty none,rt,none⟩)::rest) L t m Q↔XW E base rest L (t.set d (.map (some (base+i)))) (m.put (base+i) (.map [] true)) Q:=ziX rfl rfl
theorem zvu{a x:Operand}:XW E base ((i,⟨none, .store ty a x,rt,none⟩)::rest) L t m Q↔okP (zcZ E.P ty (ev a t) (ev x t) m) λm'=>XW E base rest L t m' Q:=by
 rw[zna (q:=(zcZ E.P ty (ev a t) (ev x t) m).map λm'=>(undef,m')) rfl rfl,zgd]
 ·rfl
 ·simp only[zeZ];cases zcZ E.P ty (ev a t) (ev x t) m<;>rfl
 ·simp only[zh8,cls,zeZ];cases zcZ E.P ty (ev a t) (ev x t) m<;>rfl
theorem zrT{a x:Operand}{ts:Array TypeId}:XW E base ((i,⟨some d, .call ⟨.builtin .append,#[a,x],ts⟩,rt,none⟩)::rest) L t m Q↔okP (zaV E.P (base+i) ts (ev a t) (ev x t) m) λq=>XW E base rest L (t.set d q.1) q.2 Q:=by
 rw[zna (q:=zaV E.P (base+i) ts (ev a t) (ev x t) m) rfl rfl]
 ·rfl
 ·simp[zeZ]
 ·simp only[zh8,cls,zeZ];cases h:zaV E.P 0 ts (ev a t) (ev x t) m<;>simp[h]
theorem zyX{dst:Option Tmp}{f:FuncId}{args:Array Operand}{ts:Array TypeId}(hc:zab E.P f=true):XW E base ((i,⟨dst, .call ⟨.value (.func f),args,ts⟩,rt,none⟩)::rest) L t m Q↔zmy E L (.call f (args.toList.map (ev · t))) m λL' v m'=>XW E base rest L' (zdP dst v t) m' Q:=by
 have hr:zh8 E.P ⟨dst, .call ⟨.value (.func f),args,ts⟩,rt,none⟩ (ev · t) m=some (.call f (args.toList.map (ev · t)),m):=by simp[zh8,cls,zeZ,ev,hc]
 refine⟨λh=>?_,zjE rfl hr⟩;obtain⟨_,⟨_,h⟩|⟨h,_⟩⟩:=h
 ·rcases h with⟨v,m',h1,_⟩|⟨tk,m1,v,m2,h1,h2,h3,h4⟩
  ·simp[opA,cls,zeZ,ev,hc] at h1
  ·rw[hr] at h1;cases h1;exact⟨v,m2,h2,h3,h4⟩
 ·cases h
theorem zmy.of{f:FuncId}{args:List Value}{v:Value}{m':Mem}{K:List zb8->Value->Mem->Prop}(h:zc5 Sig.none E.P f args m v m'∧Grow m m')(hL:∀c∈L,c.tk= .call f args->c.m=m->c.v=v∧c.m'=m')(hK:K (⟨.call f args,m,v,m'⟩::L) v m'):zmy E L (.call f args) m K:=
 ⟨v,m',⟨h.2,h.1⟩,hL,hK⟩
section
variable{k:IntKind}{a b:Int}
theorem zxo:zcG P .lss ty (.int k a) (.int k b)=some (.bool (decide (a<b))):=by cases k<;>rfl
theorem zyt:zcG P .leq ty (.int k a) (.int k b)=some (.bool (decide (a<=b))):=by cases k<;>rfl
theorem zzK:zcG P .gtr ty (.int k a) (.int k b)=some (.bool (decide (b<a))):=by cases k<;>rfl
theorem zyb:zcG P .geq ty (.int k a) (.int k b)=some (.bool (decide (b<=a))):=by cases k<;>rfl
theorem zzO:zcG P .add ty (.int k a) (.int k b)=some (.int k (k.wrap (a+b))):=by cases k<;>rfl
theorem zxw:zcG P .sub ty (.int k a) (.int k b)=some (.int k (k.wrap (a-b))):=by cases k<;>rfl
theorem zx1:zcG P .mul ty (.int k a) (.int k b)=some (.int k (k.wrap (a*b))):=by cases k<;>rfl
theorem zjP(h:b≠0):zcG P .rem ty (.int k a) (.int k b)=some (.int k (a.tmod b)):=by
 have e:binOp .rem ty (.int k a) (.int k b)=Op.intDiv .rem k a b:=by cases k<;>rfl
 show zcm P (binOp .rem ty (.int k a) (.int k b))=_;rw[e];unfold Op.intDiv;rw[if_neg h];rfl
theorem zA1{x y:Operand}:eqA P .eql ty x y (.int k a) (.int k b) m=some (.bool (decide (a=b))):=by cases k<;>rfl
theorem zw7{x y:Operand}:eqA P .neq ty x y (.int k a) (.int k b) m=some (.bool (!decide (a=b))):=by cases k<;>rfl
theorem zCR{a:Bool}:unV P .not (.bool a)=some (.bool (!a)):=rfl
theorem zaC{α β:Type}(s:Sem α)(f:α->Sem β){a:α}(h:runP P s=some a):runP P (s>>=f)=runP P (f a):=by
 induction s with
 |pure x=>simp only[runP,sI] at h;subst h;rfl
 |program k ih=>exact ih P h
 |mark e k ih=>exact ih h
 |_=>simp[runP] at h
theorem zdd{t:TypeId}{d:TypeDesc}(h:P.underlying t=some d):runP P (underlying t)=some d:=by
 show runP P (match P.underlying t with|some d=>pure d|none=>stuck "no such type")=_
 rw[h];rfl
theorem zdV{s e:TypeId}{k k' j:IntKind}{n:Int}(h:P.underlying e=some (.int k))(h':P.underlying s=some (.int j)):zbU P s e (.int k' n) m=some (.int k (k.wrap n)):=by
 have hp:plain (.int k' n)=true:=rfl;have hc:zcm P (convert s e (.int k' n))=some (.int k (k.wrap n)):=by unfold zcm convert;rw[zaC _ _ (zdd h'),zaC _ _ (zdd h)];rfl
 unfold zbU zem;simp only[ev,hp,if_true,h];exact hc
theorem zfy{e:TypeId}{p:Option Addr}{n c:Nat}(h:P.underlying ty=some (.slice e)):lenA P ty (.slice p n c) m=some (.int .i64 n):=by unfold lenA;rw[h]
end
theorem zoP{e:TypeId}{x y:Operand}{p:Addr}(h:P.underlying ty=some (.pointer e)):eqA P .eql ty x y (.pointer (some p)) (.pointer none) m=some (.bool false):=by unfold eqA;simp[h,plain,zaP]
theorem zmq{e:TypeId}{x y:Operand}{p:Addr}(h:P.underlying ty=some (.pointer e)):eqA P .neq ty x y (.pointer (some p)) (.pointer none) m=some (.bool true):=by unfold eqA;simp[h,plain,zaP]
def ld1(o:Option zaS)(n:Nat):Option Value:=match o with
 |some (.cells c _ _)=>c.nth n
 |_=>none
def ldN(o:Option zaS)(n k:Nat):Option Value:=match o with
 |some (.cells c _ _)=>(c.sub n k).map λl=> .agg l.toArray
 |_=>none
theorem zFm{b o:Nat}(h:lay P ty=some none):zdo P ty (.pointer (some ⟨b,o,none⟩)) m=ld1 (m.get b) o:=by unfold zdo ld1;rw[h];rfl
theorem zFq{b o n:Nat}(h:lay P ty=some (some n)):zdo P ty (.pointer (some ⟨b,o,none⟩)) m=ldN (m.get b) o n:=by
 unfold zdo ldN;rw[h];simp only;split
 ·rename_i c _ _ hc;simp only[hc];cases c.sub o n<;>rfl
 ·rename_i hc;split
  ·rename_i h2;exact absurd h2 (hc _ _ _)
  ·rfl
theorem zsH{c:Cells}{w:Bool}{sz n:Nat}:ld1 (some (.cells c w sz)) n=c.nth n:=rfl
theorem zru{c:Cells}{w:Bool}{sz n k:Nat}:ldN (some (.cells c w sz)) n k=(c.sub n k).map λl=> .agg l.toArray:=rfl
theorem zbV{c:Cells}{n:Nat}(h:n<c.n):c.nth n=some (c.get n):=by unfold Cells.nth;rw[if_pos h]
theorem za7{l:List Value}{n:Nat}:(ofL l).nth n=l[n]? :=by rw[Cells.nth_eq,Cells.ofList_list]
theorem zCN{c:Cells}{o n:Nat}(h:o+n<=c.n):c.sub o n=some (c.seg o n):=by unfold Cells.sub;rw[if_pos h]
theorem zap{c:Cells}{o:Nat}{l:List Value}:(c.write o l).n=c.n:=rfl
theorem zbA{c:Cells}{o n:Nat}{l:List Value}:(c.write o l).get n=if o<=n∧n<o+l.length then l.getD (n-o) undef else c.get n:=by
 have e:(c.write o l).t=Cells.putAll c.t o l:=rfl;have ed:(c.write o l).d=c.d:=rfl;unfold Cells.get;rw[e,ed,Cells.putAll_get];by_cases h:o<=n∧n<o+l.length
 ·rw[if_pos h,if_pos h,gE' (by omega),gD',gE' (by omega)];rfl
 ·rw[if_neg h,if_neg h]
theorem zbW{l:List Value}:(ofL l).n=l.length:=rfl
theorem zf7{l:List Value}{n:Nat}(h:n<l.length):(ofL l).get n=l.getD n undef:=by have:=za7 (l:=l) (n:=n);rw[zbV (by exact h)] at this;rw[gD',<-this];rfl
def st1(o:Option zaS)(b n k:Nat)(l:List Value)(m:Mem):Option Mem:=match o with
 |some (.cells c true sz)=>if l.length=k∧n+k<=c.n∧l.all oneCell=true then some (m.put b (.cells (c.write n l) true sz)) else none
 |_=>none
theorem zCK{b o n:Nat}{v:Value}(h:zbc P ty=some n):zcZ P ty (.pointer (some ⟨b,o,none⟩)) v m=st1 (m.get b) b o n v.cells.toList m:=by unfold zcZ st1;rw[h];simp only[Array.length_toList];rfl
theorem zqs{c:Cells}{sz b n k:Nat}{l:List Value}:st1 (some (.cells c true sz)) b n k l m=if l.length=k∧n+k<=c.n∧l.all oneCell=true then some (m.put b (.cells (c.write n l) true sz)) else none:=rfl
theorem zrO{l:List Value}:(Value.agg l.toArray).cells.toList=l:=by simp[Value.cells]
theorem zrM{k:IntKind}{n:Int}:(Value.int k n).cells.toList=[.int k n]:=rfl
theorem zoJ{b:Bool}:(Value.bool b).cells.toList=[.bool b]:=rfl
theorem zrR{p:Option Addr}:(Value.pointer p).cells.toList=[.pointer p]:=rfl
theorem zlQ{p:Option Addr}{n c:Nat}:(Value.slice p n c).cells.toList=[.slice p n c]:=rfl
theorem zyR{l:List Value}:zr8 (.agg l.toArray)=some l:=by simp[zr8,zdn,Value.cells]
theorem zxD{k:IntKind}{n:Int}:zr8 (.int k n)=some [.int k n]:=rfl
theorem zz0{p:Option Addr}:zr8 (.pointer p)=some [.pointer p]:=rfl
theorem zsz{p:Option Addr}{n c:Nat}:zr8 (.slice p n c)=some [.slice p n c]:=rfl
theorem zfl(m:Mem)(a b:Nat):(m.bump a).bump b=m.bump (a+b):=by show(⟨_,_⟩:Mem)=⟨_,_⟩;rw[Nat.add_assoc]
theorem zbp(m:Mem)(a b:Nat)(o:zaS):(m.bump a).put b o=(m.put b o).bump a:=rfl
theorem zA9{m:Mem}{b:Nat}{o:zaS}:(m.put b o).get b=some o:=by rw[gP,if_pos rfl]
end
end
end Go.Ab
