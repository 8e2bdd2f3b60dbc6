/- Part. -/
import Derived.LaidMore
import Derived.Test.YtdhcheegbnnlbaaGreatDoorA20
set_option linter.all false
open Go.Ab.Mem renaming next_bump → bN, next_put → nP, get_bump → gB, get_put → gP
open List renaming getD_eq_getElem?_getD → gD', getElem?_eq_getElem → gE', length_append → aL, getElem?_map → gM', length_map → lM
open Option.some renaming injEq → sI
open Prod.mk renaming injEq → pI
open Nat renaming le_refl → lR'
open Go.Ab.Cells renaming ofList → ofL
namespace Go.Ab
section
variable{σ:Sig}
noncomputable def gMem (g:Nat)(cells:List Value):Mem:=⟨64,Tr.put g .leaf g (some (.cells (.ofList cells) false 1))⟩
theorem gMem_get(g:Nat)(cells:List Value)(b:Nat):(gMem g cells).get b=if b=g then some (.cells (.ofList cells) false 1) else none:=by
 show(Tr.put g .leaf g _).get b=_
 rw[Tr.get_put _ _ _ _ _ (lR' g),Tr.get_leaf]
theorem gMem_sealed(g:Nat)(cells:List Value):Sealed (gMem g cells):=λb o h=>by
 rw[gMem_get] at h
 split at h
 ·cases h;rfl
 ·cases h
theorem gMem_rel{g:Nat}{cells:List Value}{w:World}(hg:g<64)(hne:cells≠ [])(hp:cells.all plain=true)(h:∀(i:Nat) v,cells[i]? =some v->w.cell? ⟨g,i,none⟩=some v):Rel σ ρ0 (gMem g cells) w:=by
 refine⟨(m0_rel (σ:=σ) w).dom,(m0_rel (σ:=σ) w).glob,λb o x hb hx=>?_,λb1 b2 o1 o2 x1 x2 _ h1 _ _ _ hw=>?_,λb hb=>?_⟩
 ·rw[gMem_get] at hb
  split at hb
  ·rename_i hbg
   subst hbg
   cases hb
   have hρ:ρ0 b=some (b,0,0):=by simp[ρ0,hg]
   rw[hρ] at hx
   cases hx
   show CellsRel σ ρ0 w (b,0,0) (ofL cells).list false 1
   rw[Cells.ofList_list]
   obtain⟨v0,hv0⟩:∃v0,cells[0]? =some v0:=by
    cases cells with
    |nil=>exact absurd rfl hne
    |cons v l=>exact⟨v,rfl⟩
   have h0:=h 0 v0 hv0
   unfold World.cell? at h0
   cases hb2:w.heap[b]? with
   |none=>simp[hb2] at h0
   |some ob=>
    cases ob with
    |cells cs' t fz=>
     have hall:∀(i:Nat) v,cells[i]? =some v->cs'[i]? =some v:=λi v hv=>by
      have:=h i v hv
      simpa [World.cell?,hb2] using this
     refine⟨cs',t,fz,hb2,?_,⟨λe=>(by cases e),λ_=>rfl⟩,λi hi=>?_⟩
     ·have hl:cells.length-1<cells.length:=by
       have:=List.length_pos_iff.2 hne
       omega
      have:=hall (cells.length-1) _ (gE' hl)
      have:=(Array.getElem?_eq_some_iff.1 this).1
      simp only
      omega
     ·have h1:=gE' hi
      have h2:=hall i _ h1
      rw[gD',h1,Array.getD_eq_getD_getElem?,Nat.zero_add,h2]
      exact plain_refl ρ0 (List.all_eq_true.1 hp _ (List.getElem_mem hi))
    |_=>simp[hb2] at h0
  ·cases hb
 ·rw[gMem_sealed g cells b1 o1 h1] at hw
  cases hw
 ·rw[gMem_get,if_neg (by simp[gMem] at hb;omega)]
end
section
variable{σ:Sig}
def arrCells(f:DataW Unit->Option (List Value))(k:Nat):List (DataW Unit)->Option (List Value)
 |[]=>some []
 |d::ds=>match f d,arrCells f k ds with
  |some a,some b=>if a.length=k then some (a++b) else none
  |_,_=>none
def strCells(P:Program)(f:TypeId->DataW Unit->Option (List Value)):List Field->List (DataW Unit)->Nat->Option (List Value)
 |[],[],_=>some []
 |x::fs,d::ds,off=>match f x.type d,strCells P f fs ds (off+P.cellsOf x.type) with
  |some a,some b=>if x.offset=off∧a.length=P.cellsOf x.type then some (a++b) else none
  |_,_=>none
 |_,_,_=>none
def dataCells(P:Program):Nat->TypeId->DataW Unit->Option (List Value)
 |0,_,_=>none
 |n+1,t,d=>match P.underlying t,d with
  |some (.int k), .lit (.int j a)=>if k=j then some [.int k a] else none
  |some .bool, .lit (.bool b)=>some [.bool b]
  |some .string, .lit (.string s)=>some [.string ⟨s.toArray⟩]
  |some (.array len e), .agg ds=>if ds.length=len∧P.cellsOf t=len*P.cellsOf e then arrCells (dataCells P n e) (P.cellsOf e) ds else none
  |some (.struct fs), .agg ds=>match strCells P (dataCells P n) fs.toList ds 0 with
   |some l=>if l.length=P.cellsOf t then some l else none
   |none=>none
  |_,_=>none
theorem arr_eq{f:DataW Unit->Option (List Value)}{k:Nat}:∀{ds:List (DataW Unit)} {l cs:List Value},arrCells f k ds=some l->cs.length=ds.length*k->
  (∀(i:Nat) d a,ds[i]? =some d->f d=some a->(cs.drop (i*k)).take k=a)->cs=l
 |[],l,cs,h,hl,_=>by
  simp only[arrCells,sI] at h
  subst h
  exact List.eq_nil_of_length_eq_zero (by simpa using hl)
 |d::ds,l,cs,h,hl,hc=>by
  simp only[arrCells] at h
  split at h
  ·rename_i a b ha hb
   split at h
   ·rename_i hk
    simp only[sI] at h
    subst h
    have h0:cs.take k=a:=by simpa using hc 0 d a (by simp) ha
    have hl':cs.length=ds.length*k+k:=by rw[hl,List.length_cons,Nat.add_mul,Nat.one_mul]
    have h1:cs.drop k=b:=arr_eq hb (by rw[List.length_drop];omega) λi d' a' hd hf=>by
     have:=hc (i+1) d' a' (by simpa using hd) hf
     rw[List.drop_drop]
     rw[Nat.add_mul,Nat.one_mul,Nat.add_comm] at this
     exact this
    rw[<-List.take_append_drop k cs,h0,h1]
   ·cases h
  ·cases h
theorem str_eq{P:Program}{f:TypeId->DataW Unit->Option (List Value)}:∀{fs:List Field} {ds:List (DataW Unit)} {off:Nat} {l cs:List Value},strCells P f fs ds off=some l->cs.length=off+l.length->
  (∀(i:Nat) x d a,fs[i]? =some x->ds[i]? =some d->f x.type d=some a->(cs.drop x.offset).take (P.cellsOf x.type)=a)->cs.drop off=l
 |[],[],off,l,cs,h,hl,_=>by
  simp only[strCells,sI] at h
  subst h
  exact List.drop_eq_nil_of_le (by simpa using Nat.le_of_eq hl)
 |x::fs,d::ds,off,l,cs,h,hl,hc=>by
  simp only[strCells] at h
  split at h
  ·rename_i a b ha hb
   split at h
   ·rename_i hk
    obtain⟨ho,hk⟩:=hk
    simp only[sI] at h
    subst h
    have h0:(cs.drop off).take (P.cellsOf x.type)=a:=by
     have:=hc 0 x d a (by simp) (by simp) ha
     rwa[ho] at this
    rw[aL] at hl
    have h1:cs.drop (off+P.cellsOf x.type)=b:=str_eq hb (by omega) λi x' d' a' hx hd hf=>hc (i+1) x' d' a' (by simpa using hx) (by simpa using hd) hf
    rw[<-List.take_append_drop (P.cellsOf x.type) (cs.drop off),h0,List.drop_drop,h1]
   ·cases h
  ·cases h
 |[],_::_,_,_,_,h,_,_=>by simp[strCells] at h
 |_::_,[],_,_,_,h,_,_=>by simp[strCells] at h
theorem data_eq{P:Program}{W:World}{enc:TypeId×Value->Unit}{base:Nat}{sp:Nat->Bool}{held:Bool}:∀(n:Nat) {t:TypeId} {d:DataW Unit} {l cs:List Value} {fuel:Nat} {p:List MemPlace},
  dataCells P n t d=some l->DataW.trod enc P W base sp held fuel t cs=some (d,p)->cs=l
 |0,t,d,l,cs,fuel,p,h,_=>by simp[dataCells] at h
 |n+1,t,d,l,cs,fuel,p,h,ht=>by
  simp only[dataCells] at h
  split at h
  ·rename_i k j a hu
   split at h
   ·rename_i hkj
    subst hkj
    simp only[sI] at h
    subst h
    obtain⟨x,e1,e2,_⟩:=DataW.trod_int hu ht
    simp only[pI,DataW.lit.injEq,Lit.int.injEq] at e2
    rw[e1,e2.1.2]
   ·cases h
  ·rename_i b hu
   simp only[sI] at h
   subst h
   obtain⟨x,e1,e2⟩:=DataW.trod_bool hu ht
   simp only[pI,DataW.lit.injEq,Lit.bool.injEq] at e2
   rw[e1,e2.1]
  ·rename_i s hu
   simp only[sI] at h
   subst h
   obtain⟨x,e1,e2,_⟩:=DataW.trod_string hu ht
   simp only[pI,DataW.lit.injEq,Lit.string.injEq] at e2
   rw[e1,e2.1]
  ·rename_i len e ds hu
   split at h
   ·rename_i hc
    obtain⟨hc1,hc2⟩:=hc
    obtain⟨xs,m,rfl,hx,hlen,hn,hel⟩:=DataW.trod_array hu ht
    simp only[pI,DataW.agg.injEq] at hx
    refine arr_eq h (by rw[hlen,hc2,hc1]) λi d' a hd hf=>?_
    have hil:i<len:=by rw[<-hc1];exact(List.getElem?_eq_some_iff.1 hd).1
    have h1:(xs.map (·.1))[i]? =some d':=by rw[<-hx.1];exact hd
    rw[gM'] at h1
    cases hxi:xs[i]? with
    |none=>rw[hxi] at h1;cases h1
    |some x=>
     rw[hxi] at h1
     simp only[Option.map_some,sI] at h1
     have h2:=hel i hil
     rw[hxi] at h2
     obtain⟨x1,x2⟩:=x
     simp only at h1
     subst h1
     exact data_eq n hf h2
   ·cases h
  ·rename_i fs ds hu
   split at h
   ·rename_i l' hl'
    split at h
    ·rename_i hlen'
     simp only[sI] at h
     subst h
     obtain⟨xs,m,rfl,hx,hlen,hn,hel⟩:=DataW.trod_struct hu ht
     simp only[pI,DataW.agg.injEq] at hx
     have:=str_eq (cs:=cs) hl' (by rw[hlen,hlen',Nat.zero_add]) λi x d' a hxf hd hf=>?_
     ·simpa using this
     ·have h1:(xs.map (·.1))[i]? =some d':=by rw[<-hx.1];exact hd
      rw[gM'] at h1
      cases hxi:xs[i]? with
      |none=>rw[hxi] at h1;cases h1
      |some y=>
       rw[hxi] at h1
       simp only[Option.map_some,sI] at h1
       have h2:=hel i x (by simpa using hxf)
       rw[hxi] at h2
       obtain⟨y1,y2⟩:=y
       simp only at h1
       subst h1
       exact data_eq n hf h2
    ·cases h
   ·cases h
  ·cases h
def tabsOf(P:Program):List (String×DataW Unit)->Option (List (Nat×List Value))
 |[]=>some []
 |(n,d)::r=>match P.globalNamed n with
  |none=>none
  |some g=>match(P.globals[g]?).map (·.type) with
   |none=>none
   |some t=>match dataCells P 8 t d,tabsOf P r with
    |some (v::l),some tl=>if g<64∧(v::l).all plain=true then some ((g,v::l)::tl) else none
    |_,_=>none
theorem tabs_laid{P:Program}{W:World}:∀{laid:List (String×DataW Unit)} {tabs:List (Nat×List Value)} {ps:List MemPlace},tabsOf P laid=some tabs->DataW.LaidVars P W laid ps->
  ∀q∈tabs,q.1<64∧q.2≠ []∧q.2.all plain=true∧∀(i:Nat) v,q.2[i]? =some v->W.cell? ⟨q.1,i,none⟩=some v
 |[],tabs,ps,h,_=>by
  simp only[tabsOf,sI] at h
  subst h
  intro q hq
  cases hq
 |(n,d)::r,tabs,ps,h,hl=>by
  obtain⟨g0,t0,cs0,f0,p0,q0,hg0,ht0,hv0,hd0,hr,_⟩:=hl
  simp only[tabsOf] at h
  rw[hg0] at h
  simp only at h
  rw[ht0] at h
  simp only at h
  split at h
  ·rename_i v l tl hdc htl
   split at h
   ·rename_i hc
    simp only[sI] at h
    subst h
    intro q hq
    rcases List.mem_cons.1 hq with rfl|hq
    ·refine⟨hc.1,by simp,hc.2,λi u hu=>?_⟩
     have hcs:=data_eq 8 hdc hd0
     rw[World.var?_cell hg0 hv0 i,<-Array.getElem?_toList,hcs]
     exact hu
    ·exact tabs_laid htl hr q hq
   ·cases h
  ·cases h
noncomputable def gMems (tabs:List (Nat×List Value)):Tr AObj:=match tabs with
 |[]=> .leaf
 |(g,l)::r=>Tr.put g (gMems r) g (some (.cells (.ofList l) false 1))
noncomputable def tabMem (tabs:List (Nat×List Value)):Mem:=⟨64,gMems tabs⟩
theorem gMems_get:∀{tabs:List (Nat×List Value)} {b:Nat} {o:AObj},(gMems tabs).get b=some o->∃l,(b,l)∈tabs∧o= .cells (.ofList l) false 1
 |[],b,o,h=>by rw[gMems,Tr.get_leaf] at h;cases h
 |(g,l)::r,b,o,h=>by
  rw[gMems,Tr.get_put _ _ _ _ _ (lR' g)] at h
  split at h
  ·rename_i e
   cases h
   exact⟨l,by simp[e],rfl⟩
  ·obtain⟨l',h1,h2⟩:=gMems_get h
   exact⟨l',List.mem_cons_of_mem _ h1,h2⟩
theorem tabMem_sealed(tabs:List (Nat×List Value)):Sealed (tabMem tabs):=λb o h=>by
 obtain⟨l,_,rfl⟩:=gMems_get (tabs:=tabs) h
 rfl
theorem tabMem_rel{tabs:List (Nat×List Value)}{w:World}(h:∀q∈tabs,q.1<64∧q.2≠ []∧q.2.all plain=true∧∀(i:Nat) v,q.2[i]? =some v->w.cell? ⟨q.1,i,none⟩=some v):Rel σ ρ0 (tabMem tabs) w:=by
 refine⟨(m0_rel (σ:=σ) w).dom,(m0_rel (σ:=σ) w).glob,λb o x hb hx=>?_,λb1 b2 o1 o2 x1 x2 _ h1 _ _ _ hw=>?_,λb hb=>?_⟩
 ·obtain⟨l,hm,rfl⟩:=gMems_get (tabs:=tabs) hb
  obtain⟨q1,q2,q3,q4⟩:=h _ hm
  have:=(gMem_rel (σ:=σ) q1 q2 q3 q4).obj b (.cells (.ofList l) false 1) x (by rw[gMem_get,if_pos rfl]) hx
  exact this
 ·rw[tabMem_sealed tabs b1 o1 h1] at hw
  cases hw
 ·cases hg:(tabMem tabs).get b with
  |none=>rfl
  |some o=>
   obtain⟨l,hm,_⟩:=gMems_get (tabs:=tabs) hg
   have:=(h _ hm).1
   simp[tabMem] at hb
   omega
end
end Go.Ab
namespace Go.Ab
open Go.RowKit Go.ChangeShapes
noncomputable section
section
variable{P:Program}{ρ:Rho}{m M:Mem}{w:World}
def radd(ρ:Rho)(b k off:Nat):Rho:=λy=>if y=b then some (k,off,0) else ρ y
theorem radd_ext(hR:Rel Sig.none ρ m w){k off:Nat}:Ext ρ (radd ρ m.next k off):=λb x hb=>by
 unfold radd
 rw[if_neg (λe=>by rw[e,hR.dom _ (lR' _)] at hb;cases hb)]
 exact hb
theorem get_add{C:Cells}(b:Nat):((m.put m.next (.cells C false 1)).bump 1).get b=if b=m.next then some (.cells C false 1) else m.get b:=by
 rw[gB,gP]
theorem add_nx(hm:Fresh m){C:Cells}:Nx m ((m.put m.next (.cells C false 1)).bump 1):=by
 refine⟨by rw[bN,nP];omega,⟨by rw[bN,nP];have:=hm.n64;omega,λb hb=>?_⟩,λy hy=>?_⟩
 ·rw[bN,nP] at hb
  rw[get_add,if_neg (by omega)]
  exact hm.none b (by omega)
 ·rw[get_add,if_neg (by omega)]
theorem add_sealed(hs:Sealed m){C:Cells}:Sealed ((m.put m.next (.cells C false 1)).bump 1):=λb o hb=>by
 rw[get_add] at hb
 split at hb
 ·cases hb;rfl
 ·exact hs b o hb
theorem add_rel(hR:Rel Sig.none ρ m w)(hs:Sealed m)(hm:Fresh m){C:Cells}{k off:Nat}{cs:Array Value}{t:TypeId}{fz:Nat×Nat}(h1:w.heap[k]? =some (.cells cs t fz))(h2:off+C.n<=cs.size)
  (h3:∀i,i<C.n->plain (C.get i)=true∧cs.getD (off+i) undef=C.get i):Rel Sig.none (radd ρ m.next k off) ((m.put m.next (.cells C false 1)).bump 1) w:=by
 refine⟨λb hb=>?_,λg hg=>?_,λb o x hb hx=>?_,λb1 b2 o1 o2 x1 x2 hne g1 g2 k1 k2 hw=>?_,λb hb=>?_⟩
 ·rw[bN,nP] at hb
  unfold radd
  rw[if_neg (by omega)]
  exact hR.dom b (by omega)
 ·unfold radd
  rw[if_neg (by have:=hm.n64;omega)]
  exact hR.glob g hg
 ·rw[get_add] at hb
  unfold radd at hx
  split at hb
  ·rename_i e
   rw[if_pos e] at hx
   cases hb
   cases hx
   refine⟨cs,t,fz,h1,by rw[Cells.list_length];simpa using h2,⟨λe=>(by cases e),λe=>(by cases e)⟩,λi hi=>?_⟩
   rw[Cells.list_length] at hi
   rw[list_getD _ hi,(h3 i hi).2]
   exact plain_refl _ (h3 i hi).1
  ·rename_i e
   rw[if_neg e] at hx
   exact(hR.obj b o x hb hx).keep (radd_ext hR) rfl
 ·rw[add_sealed hs b1 o1 g1] at hw
  cases hw
 ·rw[(add_nx hm).fresh.none b hb]
theorem open_sl{H:Type}{enc:TypeId×Value->H}{base:Nat}{spare:Nat->Bool}{held:Bool}{t e:TypeId}{sz len cap:Nat}{a:Option Addr}{d:DataW H}{p:List MemPlace}{Q:List Value->Prop}
  (hR:Rel Sig.none ρ m w) (hs:Sealed m) (hm:Fresh m) (ht:P.underlying t=some (.slice e)) (hc:P.cellsOf e=sz) (hsz:0<sz)
  (hQ:∀n l y,DataW.trod enc P w base spare held n e l=some y->Q l∧l.all plain=true)
  (h:DataW.Trod enc P w base spare held t (.slice a len cap) d p) (hn:a=none->len=0∧cap=0) (hle:len<=cap):
  ∃m' ρ' a' C,Rel Sig.none ρ' m' w∧Sealed m'∧Ext ρ ρ'∧Nx m m'∧VRel Sig.none ρ' (.slice a' len C) (.slice a len cap)∧∃els:List (List Value),els.length=len∧(∀x∈els,Q x)∧
   (els=[]∨∃b cs,a'=some ⟨b,0,none⟩∧m'.get b=some (.cells cs false 1)∧∀(i:Nat) x,els[i]? =some x->cs.sub (i*sz) sz=some x):=by
 rcases trod_cells (sz:=sz) ht hc hsz h with rfl|⟨k,off,cs,tt,fz,rfl,h1,h2,h3⟩
 ·cases a with
  |none=>
   obtain⟨_,rfl⟩:=hn rfl
   exact⟨m,ρ,none,0,hR,hs,λ_ _ h=>h,Nx.refl hm, .nilSlice,[],rfl,λx hx=>(by cases hx), .inl rfl⟩
  |some a=>exact⟨m,ρ,some ⟨0,0,some 0⟩,0,hR,hs,λ_ _ h=>h,Nx.refl hm, .lost a cap,[],rfl,λx hx=>(by cases hx), .inl rfl⟩
 ·have hel:∀i,i<len->Q ((List.range sz).map λj=>cs.getD (off+(i*sz+j)) undef)∧((List.range sz).map λj=>cs.getD (off+(i*sz+j)) undef).all plain=true:=λi hi=>by
   obtain⟨n,y,h4⟩:=h3 i hi
   exact hQ n _ y h4
  have hC:∀i,i<len*sz->(ofL ((List.range (len*sz)).map λj=>cs.getD (off+j) undef)).get i=cs.getD (off+i) undef:=λi hi=>by
   rw[get_ofList (by simpa using hi)]
   simp[gD',hi]
  have hCn:(ofL ((List.range (len*sz)).map λj=>cs.getD (off+j) undef)).n=len*sz:=by rw[ofList_n,lM,List.length_range]
  refine⟨_,_,some ⟨m.next,0,none⟩,cap,add_rel hR hs hm (C:=ofL ((List.range (len*sz)).map λj=>cs.getD (off+j) undef)) h1 (by rw[hCn];exact h2) (λi hi=>?_),add_sealed hs,radd_ext hR,add_nx hm,
   .slice (b':=k) (off:=off) (sl:=0) (by simp[radd]) (.inl rfl) hle,(List.range len).map λi=>(List.range sz).map λj=>cs.getD (off+(i*sz+j)) undef,by simp,λx hx=>?_, .inr ⟨m.next,_,rfl,by rw[get_add,if_pos rfl],λi x hx=>?_⟩⟩
  ·rw[hCn] at hi
   rw[hC i hi]
   refine⟨?_,rfl⟩
   have hi1:i/sz<len:=Nat.div_lt_of_lt_mul (by rw[Nat.mul_comm];exact hi)
   have hi2:=Nat.mod_lt i hsz
   have h5:=List.all_eq_true.1 (hel _ hi1).2 (cs.getD (off+(i/sz*sz+i % sz)) undef) (List.mem_map.2 ⟨i % sz,List.mem_range.2 hi2,rfl⟩)
   rwa[Nat.div_add_mod'] at h5
  ·obtain⟨i,hi,rfl⟩:=List.mem_map.1 hx
   exact(hel i (List.mem_range.1 hi)).1
  ·rw[gM'] at hx
   have hi:i<len:=by
    rcases Nat.lt_or_ge i len with h|h
    ·exact h
    ·rw[List.getElem?_eq_none (by simpa using h)] at hx;cases hx
   rw[List.getElem?_range hi] at hx
   cases hx
   have hle2:i*sz+sz<=len*sz:=by rw[<-Nat.succ_mul];exact Nat.mul_le_mul_right _ hi
   refine sub_get (by simp) (by rw[hCn];exact hle2) λj hj=>?_
   rw[hC _ (by omega)]
   simp[gD',hj]
theorem of_all{α β:Type}{f:β->α}:∀{l:List α},(∀x∈l,∃y,x=f y)->∃ys:List β,l=ys.map f
 |[],_=>⟨[],rfl⟩
 |x::l,h=>by
  obtain⟨y,rfl⟩:=h x (by simp)
  obtain⟨ys,rfl⟩:=of_all (l:=l) λz hz=>h z (by simp[hz])
  exact⟨y::ys,rfl⟩
theorem con_drop{f:FuncId}{tabs:List (Nat×List Value)}{m0':Mem}{b:Bool}(h:CallOk Sig.none P f [] (tabMem tabs) (.bool b) m0')(hq:∀q∈tabs,q.1<64∧q.2.all plain=true)
  (hg:∀y o,(tabMem tabs).get y=some o->M.get y=some o):Con P f [] M (.bool b) M:=by
 refine⟨λρ w args' hR ha=>?_,Grow.rfl⟩
 have h0:Rel Sig.none ρ0 (tabMem tabs) w:=by
  refine⟨(m0_rel (σ:=Sig.none) w).dom,(m0_rel (σ:=Sig.none) w).glob,λb o x hb hx=>?_,λb1 b2 o1 o2 x1 x2 _ h1 _ _ _ hw=>?_,λb hb=>?_⟩
  ·obtain⟨l,hm,rfl⟩:=gMems_get (tabs:=tabs) hb
   obtain⟨q1,q2⟩:=hq _ hm
   have hx':ρ0 b=some (b,0,0):=by simp[ρ0,show b<64 from q1]
   rw[hx'] at hx
   cases hx
   obtain⟨cs,t,fz,e1,e2,e3,e4⟩:=hR.obj b _ (b,0,0) (hg b _ hb) (hR.glob b q1)
   refine⟨cs,t,fz,e1,e2,e3,λi hi=>?_⟩
   have hp:plain ((ofL l).list.getD i undef)=true:=by
    rw[Cells.ofList_list] at hi⊢
    exact all_getD q2 hi
   rw[<-plain_eq hp (e4 i hi)]
   exact plain_refl _ hp
  ·rw[tabMem_sealed tabs b1 o1 h1] at hw
   cases hw
  ·cases hgb:(tabMem tabs).get b with
   |none=>rfl
   |some o=>
    obtain⟨l,hm,_⟩:=gMems_get (tabs:=tabs) hgb
    have:=(hq _ hm).1
    simp[tabMem] at hb
    omega
 have ha':LRel Sig.none ρ0 [] args'.toList:=by
  have h1:=ha.1
  have:args'.toList=[]:=List.eq_nil_of_length_eq_zero h1.symm
  rw[this]
  exact LRel.nil _
 refine(h ρ0 w args' h0 ha').mono ?_
 rintro e w' ⟨v',ρ',rfl,hv,hP,_⟩
 rw[hv.bool_inv]
 have still:∀k,k<w.heap.size->w'.heap[k]? =w.heap[k]? :=λk hk=>hP.frame k hk λb o x hb hw _=>by rw[tabMem_sealed tabs b o hb] at hw;cases hw
 refine⟨_,ρ,rfl, .bool _,⟨⟨hR.dom,hR.glob,λb o x hb hx=>(hR.obj b o x hb hx).keep (Ext.refl ρ) (still _ (hR.obj b o x hb hx).lt),hR.inj,hR.fresh⟩,Ext.refl ρ,lR' _,hP.size,hP.os,hP.tape,hP.output,λk hk _=>still k hk,λb o x hb hx _=>⟨b,o,x,hb,hx,rfl,id⟩⟩,λ_ _ h=>h⟩
end
end
end Go.Ab
namespace Go.Ab
open Go.Proofs Go.RowKit Go.ChangeShapes
noncomputable section
set_option maxRecDepth 10000
section
variable{H:Type}{enc:TypeId×Value->H}{P:Program}{W:World}{base:Nat}{spare:Nat->Bool}{held:Bool}{v:Value}{d:DataW H}{p:List MemPlace}{r:Reach}{b0:Nat}{ρ:Rho}{m:Mem}
theorem trod_flds{t:TypeId}{fs:Array Field}{L:List (TypeId×Nat)}{n:Nat}{cs:List Value}{y:DataW H×List MemPlace}(hu:P.underlying t=some (.struct fs))(hf:fs.toList.map (λf=>(f.type,f.offset))=L)(h:DataW.trod enc P W base spare held n t cs=some y):
  ∃k,cs.length=P.cellsOf t∧∀(i:Nat) ty o,L[i]? =some (ty,o)->∃z,DataW.trod enc P W base spare held k ty ((cs.drop o).take (P.cellsOf ty))=some z:=by
 obtain⟨xs,k,_,_,hlen,hxs,hfs⟩:=DataW.trod_struct hu h
 refine⟨k,hlen,λi ty o hi=>?_⟩
 rw[<-hf,gM'] at hi
 cases hfi:fs.toList[i]? with
 |none=>rw[hfi] at hi;cases hi
 |some f=>
  rw[hfi] at hi
  simp only[Option.map_some,sI,pI] at hi
  obtain⟨rfl,rfl⟩:=hi
  have hlt:i<xs.length:=by
   have:=(List.getElem?_eq_some_iff.1 hfi).1
   simp at this
   omega
  have:=hfs i f (by simpa using hfi)
  rw[gE' hlt] at this
  exact⟨_,this⟩
theorem u32_of{n:Int}(hw:(Lit.int .u32 n).wf=true):∃a:BitVec 32,(Value.int .u32 n)=Um a:=by
 have h1:0<=n∧n<=4294967295:=by
  simp[Lit.wf,IntKind.min,IntKind.max,IntKind.signed,IntKind.bits] at hw
  omega
 refine⟨BitVec.ofNat 32 n.toNat,?_⟩
 rw[Um,BitVec.toNat_ofNat]
 congr 1
 omega
theorem slice_in{t e:TypeId}{n:Nat}{cs:List Value}{y:DataW H×List MemPlace}(hu:P.underlying t=some (.slice e))(h:DataW.trod enc P W base spare held n t cs=some y):∃a len cap,cs=[.slice a len cap]∧(a=none->len=0∧cap=0)∧len<=cap∧∃d p,DataW.Trod enc P W base spare held t (.slice a len cap) d p:=by
 have h0:=h
 rcases DataW.trod_slice hu h with⟨e,_⟩|⟨a,len,cap,_,_,_,_,e,_,_,hle,_⟩
 ·subst e
  exact⟨none,0,0,rfl,λ_=>⟨rfl,rfl⟩,lR' _,y.1,y.2,n,h0⟩
 ·subst e
  exact⟨some a,len,cap,rfl,λe=>(by cases e),hle,y.1,y.2,n,h0⟩
theorem Q.u3:Tryz.prog.underlying 3=some (.int .i64):=kr
theorem Q.u36:Tryz.prog.underlying 36=some (.int .u32):=kr
theorem Q.u9:Tryz.prog.underlying 9=some .string:=kr
theorem Q.u22:Tryz.prog.underlying 22=some (.slice 36):=kr
theorem Q.u25:Tryz.prog.underlying 25=some (.slice 38):=kr
theorem Q.u24:Tryz.prog.underlying 24=some (.struct (Tryz.prog.fieldsOf 24)):=kr
theorem Q.u38:Tryz.prog.underlying 38=some (.struct (Tryz.prog.fieldsOf 38)):=kr
theorem Q.f24:(Tryz.prog.fieldsOf 24).toList.map (λf=>(f.type,f.offset))=[(3,0),(3,1),(3,2),(3,3),(22,4)]:=kr
theorem Q.f38:(Tryz.prog.fieldsOf 38).toList.map (λf=>(f.type,f.offset))=[(3,0),(3,1),(3,2),(3,3),(3,4),(36,5),(9,6)]:=kr
theorem Q.c:Tryz.prog.cellsOf 3=1∧Tryz.prog.cellsOf 36=1∧Tryz.prog.cellsOf 9=1∧Tryz.prog.cellsOf 22=1∧Tryz.prog.cellsOf 24=5∧Tryz.prog.cellsOf 38=7:=⟨kr,kr,kr,kr,kr,kr⟩
theorem trod_op{n:Nat}{l:List Value}{y:DataW H×List MemPlace}(h:DataW.trod enc Tryz.prog W base spare held n 38 l=some y):(∃o:OpR,l=opL o)∧l.all plain=true:=by
 obtain⟨k,hl,hk⟩:=trod_flds Q.u38 Q.f38 h
 obtain⟨c3,c36,c9,_,_,c38⟩:=Q.c
 rw[c38] at hl
 obtain⟨z0,h0⟩:=hk 0 3 0 rfl
 obtain⟨z1,h1⟩:=hk 1 3 1 rfl
 obtain⟨z2,h2⟩:=hk 2 3 2 rfl
 obtain⟨z3,h3⟩:=hk 3 3 3 rfl
 obtain⟨z4,h4⟩:=hk 4 3 4 rfl
 obtain⟨z5,h5⟩:=hk 5 36 5 rfl
 obtain⟨z6,h6⟩:=hk 6 9 6 rfl
 rw[c3] at h0 h1 h2 h3 h4
 rw[c36] at h5
 rw[c9] at h6
 match l,hl with
 |[x0,x1,x2,x3,x4,x5,x6],_=>
  simp only[List.drop_succ_cons,List.drop_zero,List.take_succ_cons,List.take_zero] at h0 h1 h2 h3 h4 h5 h6
  obtain⟨n0,e0,_⟩:=DataW.trod_int Q.u3 h0
  obtain⟨n1,e1,_⟩:=DataW.trod_int Q.u3 h1
  obtain⟨n2,e2,_⟩:=DataW.trod_int Q.u3 h2
  obtain⟨n3,e3,_⟩:=DataW.trod_int Q.u3 h3
  obtain⟨n4,e4,_⟩:=DataW.trod_int Q.u3 h4
  obtain⟨n5,e5,_,w5⟩:=DataW.trod_int Q.u36 h5
  obtain⟨s,e6,_⟩:=DataW.trod_string Q.u9 h6
  obtain⟨a,ea⟩:=u32_of w5
  simp only[List.cons.injEq,and_true] at e0 e1 e2 e3 e4 e5 e6
  subst e0 e1 e2 e3 e4 e5 e6
  exact⟨⟨⟨n0,n1,n2,n3,n4,a,s⟩,by rw[ea];rfl⟩,rfl⟩
theorem trod_w{n:Nat}{l:List Value}{y:DataW H×List MemPlace}(h:DataW.trod enc Tryz.prog W base spare held n 36 l=some y):(∃a:BitVec 32,l=[Um a])∧l.all plain=true:=by
 obtain⟨n5,e5,_,w5⟩:=DataW.trod_int Q.u36 h
 obtain⟨a,ea⟩:=u32_of w5
 subst e5
 exact⟨⟨a,by rw[ea]⟩,rfl⟩
theorem open_opsR(hR:Rel Sig.none ρ m W)(hs:Sealed m)(hm:Fresh m)(hval:Value.okWide Tryz.prog W r b0 25 v)(h:DataW.Trod enc Tryz.prog W base spare held 25 v d p):
  ∃m' ρ' w l,Rel Sig.none ρ' m' W∧Sealed m'∧Ext ρ ρ'∧Nx m m'∧VRel Sig.none ρ' w v∧OpsAt m' w l:=by
 obtain⟨a,len,cap,rfl⟩:=WideShapes.okWide_slice Q.u25 hval
 obtain⟨n,h⟩:=h
 obtain⟨a',len',cap',e,hn,hle,d',p',h'⟩:=slice_in Q.u25 h
 simp only[Value.cells,List.cons.injEq,and_true,Value.slice.injEq] at e
 obtain⟨rfl,rfl,rfl⟩:=e
 obtain⟨m',ρ',a',C,h1,h2,h3,h4,h5,els,e1,e2,e3⟩:=open_sl hR hs hm Q.u25 Q.c.2.2.2.2.2 (by decide) (λn l y=>trod_op) h' hn hle
 obtain⟨ys,rfl⟩:=of_all e2
 rw[lM] at e1
 refine⟨m',ρ',_,ys,h1,h2,h3,h4,h5,a',C,by rw[e1],?_⟩
 rcases e3 with e3|⟨b,cs,f1,f2,f3⟩
 ·exact .inl (List.map_eq_nil_iff.1 e3)
 ·exact .inr ⟨b,cs,_,_,f1,f2,λi o ho=>f3 i _ (by rw[gM',ho];rfl)⟩
theorem open_boot(hR:Rel Sig.none ρ m W)(hs:Sealed m)(hm:Fresh m)(hval:Value.okWide Tryz.prog W r b0 24 v)(h:DataW.Trod enc Tryz.prog W base spare held 24 v d p):
  ∃m' ρ' b pv,Rel Sig.none ρ' m' W∧Sealed m'∧Ext ρ ρ'∧Nx m m'∧VRel Sig.none ρ' (.agg (bootL b pv).toArray) v∧ProgAt m' pv b.prog:=by
 obtain⟨cs,rfl,hsz⟩:=WideShapes.okWide_struct Q.u24 hval
 obtain⟨n,h⟩:=h
 obtain⟨k,hl,hk⟩:=trod_flds Q.u24 Q.f24 h
 obtain⟨c3,_,_,c22,c24,_⟩:=Q.c
 rw[c24] at hl
 obtain⟨z0,h0⟩:=hk 0 3 0 rfl
 obtain⟨z1,h1⟩:=hk 1 3 1 rfl
 obtain⟨z2,h2⟩:=hk 2 3 2 rfl
 obtain⟨z3,h3⟩:=hk 3 3 3 rfl
 obtain⟨z4,h4⟩:=hk 4 22 4 rfl
 rw[c3] at h0 h1 h2 h3
 rw[c22] at h4
 rw[show(Value.agg cs).cells=cs from rfl] at hl h0 h1 h2 h3 h4
 obtain⟨l⟩:=cs
 simp only at hl h0 h1 h2 h3 h4
 match l,hl with
 |[x0,x1,x2,x3,x4],_=>
  simp only[List.drop_succ_cons,List.drop_zero,List.take_succ_cons,List.take_zero] at h0 h1 h2 h3 h4
  obtain⟨n0,e0,_⟩:=DataW.trod_int Q.u3 h0
  obtain⟨n1,e1,_⟩:=DataW.trod_int Q.u3 h1
  obtain⟨n2,e2,_⟩:=DataW.trod_int Q.u3 h2
  obtain⟨n3,e3,_⟩:=DataW.trod_int Q.u3 h3
  obtain⟨a,len,cap,e4,hn,hle,d',p',h'⟩:=slice_in Q.u22 h4
  simp only[List.cons.injEq,and_true] at e0 e1 e2 e3 e4
  subst e0 e1 e2 e3 e4
  obtain⟨m',ρ',a',C,g1,g2,g3,g4,g5,els,e1,e2,e3⟩:=open_sl hR hs hm Q.u22 Q.c.2.1 (by decide) (λn l y=>trod_w) h' hn hle
  obtain⟨ys,rfl⟩:=of_all e2
  rw[lM] at e1
  refine⟨m',ρ',⟨n0,n1,n2,n3,ys⟩, .slice a' len C,g1,g2,g3,g4,LRel.agg (LRel.cons (.int _ _) (LRel.cons (.int _ _) (LRel.cons (.int _ _) (LRel.cons (.int _ _) (LRel.cons g5 (LRel.nil _)))))),a',C,by rw[e1],?_⟩
  rcases e3 with e3|⟨b,cs,f1,f2,f3⟩
  ·exact .inl (List.map_eq_nil_iff.1 e3)
  ·refine .inr ⟨b,cs,_,_,f1,f2,λi o ho=>?_⟩
   have:=f3 i _ (by rw[gM',ho];rfl)
   have:=sub_nth this (k:=0) (by decide)
   simpa using this
theorem stays_p{t:TypeId}(hr:Tryz.prog.readableRec t=true)(ht:t<Tryz.prog.types.size){W W':World}(h:DataW.Trod enc Tryz.prog W 0 (λ_=>true) true t v d p)(hb:Below W.heap.size W W'):
  DataW.Trod enc Tryz.prog W' 0 (λb=>decide (b<W.heap.size)) true t v d p:=
 Below.trod kr hr ht h hb (λx hx=>by obtain⟨n,h⟩:=h;exact DataW.trod_lt n _ _ _ h x hx)
theorem open_int(hval:Value.okWide Tryz.prog W r b0 3 v):∃n,v=In n:=WideShapes.okWide_int Q.u3 hval
end
end
end Go.Ab
