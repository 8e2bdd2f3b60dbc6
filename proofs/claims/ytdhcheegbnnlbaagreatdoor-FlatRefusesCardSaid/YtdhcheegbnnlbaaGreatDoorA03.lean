/- Part. -/
import Derived.Test.YtdhcheegbnnlbaaGreatDoorA02
import Derived.IntWalk
import Derived.Laws.Append
set_option linter.all false
open Go.Ab.Mem renaming get_put → gP
open List renaming getD_eq_getElem?_getD → gD', getElem?_eq_getElem → gE', length_append → aL, append_assoc → aA, getElem?_append_left → aB', getElem?_append_right → aC', getElem?_map → gM'
open Option.some renaming injEq → sI
open Prod.mk renaming injEq → pI
open Nat renaming le_refl → lR'
open Option renaming map_eq_some_iff → mE
open Bool renaming and_eq_true → bT, false_eq_true → bF
namespace Go.Ab
section
variable{σ:Sig}{P:Program}{ρ:Rho}{r r':Operand->Value}
theorem eqGuard_any{op:BinOp}{t:TypeId}{xo yo:Operand}{x y:Value}(h1:¬(x= .nilIface∧y= .nilIface))(h2:∀a b,¬(x= .agg a∧y= .agg b))(w:World):
  (eqGuard op t xo yo x y).run P w= .ok () w:=by
 unfold eqGuard
 cases op<;>first|rfl|skip
 all_goals
  cases x<;>cases y<;>first|rfl|(exact absurd ⟨rfl,rfl⟩ h1)|(exact absurd ⟨rfl,rfl⟩ (h2 _ _))
def ansA(op:BinOp)(b:Bool):Option Value:=match op with
 | .eql=>some (.bool b)
 | .neq=>some (.bool !b)
 |_=>none
theorem eq_run{op:BinOp}{t:TypeId}{xo yo:Operand}{x y v:Value}{b:Bool}{w:World}(ha:ansA op b=some v)(hb:∀op',(op'= .eql∨op'= .neq)->binOp op' t x y=(match op' with| .eql=>(do pure (.bool (<-Op.equal t x y)))|_=>(do pure (.bool (!(<-Op.equal t x y)))):Sem Value))
  (he:∀d,(Op.equalIn (d+1) t x y).run P w= .ok b w) (h1:¬(x= .nilIface∧y= .nilIface)) (h2:∀a b,¬(x= .agg a∧y= .agg b)):
  VRel σ ρ v v∧(do eqGuard op t xo yo x y;binOp op t x y:Sem Value).run P w= .ok v w:=by
 have heq:(Op.equal t x y).run P w= .ok b w:=he 9999
 cases op<;>first|(simp[ansA] at ha;done)|skip
 ·simp only[ansA,sI] at ha;subst ha
  exact⟨.bool _,by simp[eqGuard_any h1 h2,hb .eql (.inl rfl),heq]⟩
 ·simp only[ansA,sI] at ha;subst ha
  exact⟨.bool _,by simp[eqGuard_any h1 h2,hb .neq (.inr rfl),heq]⟩
theorem binOp_eq_free{t:TypeId}{x y:Value}(hx:match x with| .pointer _| .slice .. | .map _| .nilFunc| .func .. | .nilIface| .iface .. =>True|_=>False):
  ∀op',(op'=BinOp.eql∨op'=BinOp.neq)->binOp op' t x y=(match op' with| .eql=>(do pure (.bool (<-Op.equal t x y)))|_=>(do pure (.bool (!(<-Op.equal t x y)))):Sem Value):=by
 intro op' h
 rcases h with rfl|rfl
 ·cases x<;>first|exact absurd hx id|(cases y<;>rfl)
 ·cases x<;>first|exact absurd hx id|(cases y<;>rfl)
theorem eq1_run{t:TypeId}{x x' y y':Value}{m:Mem}{w:World}{b:Bool}(hR:Rel σ ρ m w)(hx:VRel σ ρ x x')(hy:VRel σ ρ y y')(h:eq1 P t x y m=some b):
  ∃d,P.underlying t=some d∧aggB d=false∧∀d,(Op.equalIn (d+1) t x' y').run P w= .ok b w:=by
 unfold eq1 at h
 split at h
 ·rename_i a b hu
  obtain rfl:=hx.bool_inv
  obtain rfl:=hy.bool_inv
  simp only[sI] at h
  subst h
  exact⟨_,hu,rfl,λd=>by simp[Op.equalIn,und_run hu]⟩
 ·rename_i k0 k a k' b hu
  obtain rfl:=hx.int_inv
  obtain rfl:=hy.int_inv
  split at h
  ·rename_i hk
   subst hk
   simp only[sI] at h
   subst h
   exact⟨_,hu,rfl,λd=>by simp[Op.equalIn,und_run hu]⟩
  ·cases h
 ·rename_i e hu
  cases hx
  cases hy
  simp only[sI] at h
  subst h
  exact⟨_,hu,rfl,λd=>by simp[Op.equalIn,und_run hu]⟩
 ·rename_i e a hu
  cases hx
  have:∃a',y'= .pointer (some a'):=by cases hy;exact⟨_,rfl⟩
  obtain⟨a',rfl⟩:=this
  simp only[sI] at h
  subst h
  exact⟨_,hu,rfl,λd=>by simp[Op.equalIn,und_run hu]⟩
 ·rename_i e a hu
  cases hy
  have:∃a',x'= .pointer (some a'):=by cases hx;exact⟨_,rfl⟩
  obtain⟨a',rfl⟩:=this
  simp only[sI] at h
  subst h
  exact⟨_,hu,rfl,λd=>by simp[Op.equalIn,und_run hu]⟩
 ·rename_i e b o b2 o2 hu
  obtain⟨c,off,sl,hρ,rfl⟩:=hx.ptr_inv
  obtain⟨c2,off2,sl2,hρ2,rfl⟩:=hy.ptr_inv
  split at h
  ·rename_i k hs
   split at h
   ·rename_i hbb
    subst hbb
    rw[hρ] at hρ2
    simp only[sI,pI] at hρ2
    obtain⟨rfl,rfl,rfl⟩:=hρ2
    simp only[sI] at h
    subst h
    refine⟨_,hu,rfl,λd=>?_⟩
    have:(sameAddr ⟨c,off+o,none⟩ ⟨c,off+o2,none⟩).run P w= .ok (o==o2) w:=by
     unfold sameAddr
     simp only[beq_self_eq_true,if_true]
     have e:((⟨c,off+o,none⟩:Addr)==⟨c,off+o2,none⟩)=(o==o2):=by
      rw[Bool.eq_iff_iff]
      simp
     rw[e]
     rfl
    simp[Op.equalIn,und_run hu,sz_run hs,this]
   ·rename_i hbb
    split at h
    ·rename_i cs sz cs2 sz2 hm hm2
     obtain⟨ca,ta,fa,g1,_,g3,_⟩:=(hR.obj b _ _ hm hρ:CellsRel σ ρ w (c,off,sl) cs.list true sz)
     obtain⟨cb,tb,fb,k1,_,k3,_⟩:=(hR.obj b2 _ _ hm2 hρ2:CellsRel σ ρ w (c2,off2,sl2) cs2.list true sz2)
     have hne:=hR.inj b b2 _ _ _ _ hbb hm hm2 hρ hρ2 rfl
     simp only at hne g1 k1
     rw[g3.1 rfl] at g1
     rw[k3.1 rfl] at k1
     simp only[sI] at h
     subst h
     refine⟨_,hu,rfl,λd=>?_⟩
     have:(sameAddr ⟨c,off+o,none⟩ ⟨c2,off2+o2,none⟩).run P w= .ok false w:=
      run_sameAddr_other w (λe=>hne (by simpa using congrArg Addr.block e)) g1 k1
     simp[Op.equalIn,und_run hu,sz_run hs,this]
    ·cases h
  ·cases h
 ·cases h
theorem part1{t:TypeId}{d:TypeDesc}{xs:Array Value}{off:Nat}{x:Value}{w:World}(hu:P.underlying t=some d)(ha:aggB d=false)(hx:xs[off]? =some x):(part t xs off).run P w= .ok x w:=by
 unfold part
 simp[isAgg_run hu,ha,hx]
theorem LRel.at? {l l':List Value}{i:Nat}{x:Value}(h:LRel σ ρ l l')(hx:l[i]? =some x):∃x',l'[i]? =some x'∧VRel σ ρ x x':=by
 obtain⟨hl,hv⟩:=h
 obtain⟨hi,e⟩:=List.getElem?_eq_some_iff.1 hx
 refine⟨l'[i]'(hl▸hi),gE' _,?_⟩
 have:=hv i hi
 rw[gD',gD',gE' hi,gE' (hl▸hi),e] at this
 exact this
theorem eqF_run{xs ys xs' ys':Array Value}{m:Mem}{w:World}(hR:Rel σ ρ m w)(hx:LRel σ ρ xs.toList xs'.toList)(hy:LRel σ ρ ys.toList ys'.toList)(d:Nat):∀{fs:List Field} {b:Bool},eqF P xs.toList ys.toList m fs=some b->
  (do
   for f in fs do
    if f.name≠ "_" then
     if !(<-Op.equalIn (d+1) f.type (<-part f.type xs' f.offset) (<-part f.type ys' f.offset)) then return false
   pure true:Sem Bool).run P w= .ok b w
 |[],b,h=>by
  simp only[eqF,sI] at h
  subst h
  simp
 |f::fs,b,h=>by
  unfold eqF at h
  split at h
  ·cases h
  ·rename_i hn
   split at h
   ·rename_i x y h1 h2
    split at h
    ·rename_i a c e1 e2
     obtain⟨x',k1,r1⟩:=hx.at? h1
     obtain⟨y',k2,r2⟩:=hy.at? h2
     obtain⟨dd,hu,ha,hq⟩:=eq1_run hR r1 r2 e1
     simp only[Array.getElem?_toList] at k1 k2
     simp only[sI] at h
     subst h
     have ih:=eqF_run hR hx hy d e2
     cases a with
     |false=>
      simp[hn,part1 hu ha k1,part1 hu ha k2,hq d]
     |true=>
      simp only[Bool.true_and]
      rw[<-ih]
      simp[hn,part1 hu ha k1,part1 hu ha k2,hq d]
    ·cases h
   ·cases h
theorem eq_sound{op:BinOp}{t:TypeId}{xo yo:Operand}{x x' y y' v:Value}{m:Mem}{w:World}(hR:Rel σ ρ m w)(hx:VRel σ ρ x x')(hy:VRel σ ρ y y')(h:eqA P op t xo yo x y m=some v):
  VRel σ ρ v v∧(do eqGuard op t xo yo x' y';binOp op t x' y':Sem Value).run P w= .ok v w:=by
 unfold eqA at h
 simp only at h
 split at h
 ·rename_i hp
  simp only[bT] at hp
  obtain rfl:=plain_eq hp.1 hx
  obtain rfl:=plain_eq hp.2 hy
  obtain⟨hv,hrun⟩:=runV_run (σ:=σ) (ρ:=ρ) h
  exact⟨hv,hrun w⟩
 ·rename_i hnp
  clear hnp
  split at h
  ·rename_i e b o b2 o2 hu
   obtain⟨c,off,sl,hρ,rfl⟩:=hx.ptr_inv
   obtain⟨c2,off2,sl2,hρ2,rfl⟩:=hy.ptr_inv
   split at h
   ·rename_i k hs
    split at h
    ·rename_i hbb
     subst hbb
     rw[hρ] at hρ2
     simp only[sI,pI] at hρ2
     obtain⟨rfl,rfl,rfl⟩:=hρ2
     refine eq_run (b:=o==o2) h (binOp_eq_free trivial) (λd=>?_) (by simp) (by simp)
     have:(sameAddr ⟨c,off+o,none⟩ ⟨c,off+o2,none⟩).run P w= .ok (o==o2) w:=by
      unfold sameAddr
      simp only[beq_self_eq_true,if_true]
      have e:((⟨c,off+o,none⟩:Addr)==⟨c,off+o2,none⟩)=(o==o2):=by
       rw[Bool.eq_iff_iff]
       simp
      rw[e]
      rfl
     simp[Op.equalIn,und_run hu,sz_run hs,this]
    ·rename_i hbb
     split at h
     ·rename_i cs sz cs2 sz2 hm hm2
      obtain⟨ca,ta,fa,g1,_,g3,_⟩:=(hR.obj b _ _ hm hρ:CellsRel σ ρ w (c,off,sl) cs.list true sz)
      obtain⟨cb,tb,fb,k1,_,k3,_⟩:=(hR.obj b2 _ _ hm2 hρ2:CellsRel σ ρ w (c2,off2,sl2) cs2.list true sz2)
      have hne:=hR.inj b b2 _ _ _ _ hbb hm hm2 hρ hρ2 rfl
      simp only at hne g1 k1
      rw[g3.1 rfl] at g1
      rw[k3.1 rfl] at k1
      refine eq_run (b:=false) h (binOp_eq_free trivial) (λd=>?_) (by simp) (by simp)
      have:(sameAddr ⟨c,off+o,none⟩ ⟨c2,off2+o2,none⟩).run P w= .ok false w:=
       run_sameAddr_other w (λe=>hne (by simpa using congrArg Addr.block e)) g1 k1
      simp[Op.equalIn,und_run hu,sz_run hs,this]
     ·cases h
   ·cases h
  ·rename_i e a hu
   cases hx
   have:∃a',y'= .pointer (some a'):=by cases hy;exact⟨_,rfl⟩
   obtain⟨a',rfl⟩:=this
   exact eq_run (b:=false) h (binOp_eq_free trivial) (λd=>by simp[Op.equalIn,und_run hu]) (by simp) (by simp)
  ·rename_i e a hu
   cases hy
   have:∃a',x'= .pointer (some a'):=by cases hx;exact⟨_,rfl⟩
   obtain⟨a',rfl⟩:=this
   exact eq_run (b:=false) h (binOp_eq_free trivial) (λd=>by simp[Op.equalIn,und_run hu]) (by simp) (by simp)
  ·rename_i e n c a n2 c2 hu
   cases hx
   have:∃a' c',y'= .slice (some a') n2 c':=by cases hy<;>exact⟨_,_,rfl⟩
   obtain⟨a',c',rfl⟩:=this
   exact eq_run (b:=false) h (binOp_eq_free trivial) (λd=>by simp[Op.equalIn,und_run hu]) (by simp) (by simp)
  ·rename_i e a n c n2 c2 hu
   cases hy
   have:∃a' c',x'= .slice (some a') n c':=by cases hx<;>exact⟨_,_,rfl⟩
   obtain⟨a',c',rfl⟩:=this
   exact eq_run (b:=false) h (binOp_eq_free trivial) (λd=>by simp[Op.equalIn,und_run hu]) (by simp) (by simp)
  ·rename_i k e a hu
   cases hx
   have:∃a',y'= .map (some a'):=by cases hy;exact⟨_,rfl⟩
   obtain⟨a',rfl⟩:=this
   exact eq_run (b:=false) h (binOp_eq_free trivial) (λd=>by simp[Op.equalIn,und_run hu]) (by simp) (by simp)
  ·rename_i k e a hu
   cases hy
   have:∃a',x'= .map (some a'):=by cases hx;exact⟨_,rfl⟩
   obtain⟨a',rfl⟩:=this
   exact eq_run (b:=false) h (binOp_eq_free trivial) (λd=>by simp[Op.equalIn,und_run hu]) (by simp) (by simp)
  ·rename_i hu
   cases hx
   have:∃f a c,y'= .func f a c:=by cases hy<;>exact⟨_,_,_,rfl⟩
   obtain⟨f,a,c,rfl⟩:=this
   exact eq_run (b:=false) h (binOp_eq_free trivial) (λd=>by simp[Op.equalIn,und_run hu]) (by simp) (by simp)
  ·rename_i hu
   cases hy
   have:∃f a c,x'= .func f a c:=by cases hx<;>exact⟨_,_,_,rfl⟩
   obtain⟨f,a,c,rfl⟩:=this
   exact eq_run (b:=false) h (binOp_eq_free trivial) (λd=>by simp[Op.equalIn,und_run hu]) (by simp) (by simp)
  ·rename_i ms t2 v2 hu
   cases hx
   have:∃a,y'= .iface t2 a:=by cases hy;exact⟨_,rfl⟩
   obtain⟨a,rfl⟩:=this
   exact eq_run (b:=false) h (binOp_eq_free trivial) (λd=>by simp[Op.equalIn,und_run hu]) (by simp) (by simp)
  ·rename_i ms t2 v2 hu
   cases hy
   have:∃a,x'= .iface t2 a:=by cases hx;exact⟨_,rfl⟩
   obtain⟨a,rfl⟩:=this
   exact eq_run (b:=false) h (binOp_eq_free trivial) (λd=>by simp[Op.equalIn,und_run hu]) (by simp) (by simp)
  ·rename_i fs xs ys hu
   obtain⟨xs',rfl,hxl⟩:=hx.agg_inv
   obtain⟨ys',rfl,hyl⟩:=hy.agg_inv
   split at h
   ·cases h
   ·rename_i hc
    simp only[Bool.or_eq_true,not_or,Bool.not_eq_true] at hc
    cases hf:eqF P xs.toList ys.toList m fs.toList with
    |none=>rw[hf] at h;cases h
    |some b=>
     rw[hf] at h
     have heq:(Op.equal t (.agg xs') (.agg ys')).run P w= .ok b w:=by
      have key:=eqF_run hR hxl hyl 9998 hf
      show(Op.equalIn (9999+1) t (.agg xs') (.agg ys')).run P w= .ok b w
      unfold Op.equalIn
      simp only[Sem.run_bind,und_run hu,Result.andThen_ok]
      rw[Array.forIn_toList] at key
      simpa [hc.1] using key
     have hg:∀xo yo,(eqGuard op t xo yo (.agg xs') (.agg ys')).run P w= .ok () w:=λxo yo=>by
      unfold eqGuard
      cases op<;>first|rfl|simp[hc.2]
     cases op<;>first|(simp at h;done)|skip
     ·simp only[Option.bind_some,sI] at h;subst h
      exact⟨.bool _,by simp[hg,show binOp .eql t (.agg xs') (.agg ys')=(do pure (.bool (<-Op.equal t (.agg xs') (.agg ys'))):Sem Value) from rfl,heq]⟩
     ·simp only[Option.bind_some,sI] at h;subst h
      exact⟨.bool _,by simp[hg,show binOp .neq t (.agg xs') (.agg ys')=(do pure (.bool (!(<-Op.equal t (.agg xs') (.agg ys')))):Sem Value) from rfl,heq]⟩
  ·cases h
theorem bytes_loop{ρ:Rho}(f:Value->ByteArray->Sem (ForInStep ByteArray))(hf:∀n s,f (.int .u8 n) s=pure (.yield (s.push (UInt8.ofNat n.toNat))))(w:World):∀{l l':List Value} {s out:ByteArray},LRel σ ρ l l'->bytesOf l s=some out->
  (forIn l' s f).run P w= .ok out w
 |[],l',s,out,hl,h=>by
  cases l' with
  |nil=>simp only[bytesOf,sI] at h;subst h;simp
  |cons=>exact absurd hl.1 (by simp)
 |v::l,l',s,out,hl,h=>by
  cases l' with
  |nil=>exact absurd hl.1 (by simp)
  |cons v' l'=>
   have hv:=hl.head
   unfold bytesOf at h
   split at h
   ·rename_i e;cases e
   ·rename_i e
    simp only[List.cons.injEq] at e
    obtain⟨rfl,rfl⟩:=e
    rw[hv.int_inv,List.forIn_cons,hf]
    simpa using bytes_loop f hf w hl.tail h
   ·cases h
theorem bytes_sound{s d:TypeId}{x x' v:Value}{m:Mem}{w:World}(hR:Rel σ ρ m w)(h:(match P.underlying s,P.underlying d,x with
   |some (.slice e),some .string, .slice (some ⟨b,o,none⟩) n _=>match P.underlying e,m.get b with
    |some (.int .u8),some (.cells cs _ _)=>match cs.sub o n with
     |some l=>(bytesOf l .empty).map .string
     |none=>none
    |_,_=>none
   |_,_,_=>none)=some v) (hx:VRel σ ρ x x'):∃v',VRel σ ρ v v'∧(convert s d x').run P w= .ok v' w:=by
 split at h
 ·rename_i e b o n c hs hd
  split at h
  ·rename_i cs rw_ sz he hm
   split at h
   ·rename_i l hl
    simp only[mE] at h
    obtain⟨out,hout,rfl⟩:=h
    obtain⟨b',off,sl,c',hρ,rfl,_,_⟩:=hx.slice_inv
    obtain⟨cs',hcs,hcell⟩:=(hR.obj b _ _ hm hρ:CellsRel σ ρ w (b',off,sl) cs.list rw_ sz).list
    rw[Cells.sub_eq] at hl
    obtain⟨l',hl1,hl2,hl3⟩:=sub_rel hcs hl
    refine⟨_, .string _,?_⟩
    have hload:(loadCells ⟨b',off+o,none⟩ n).run P w= .ok l'.toArray w:=by
     have:=loadCells_run (P:=P) (a:=⟨b',off+o,none⟩) (w:=w) l' 0 #[] λj v hj=>by
      have h3:=hcell (o+j) v (hl3 j v hj)
      rw[addr_add _ rfl]
      simpa [Nat.add_assoc] using h3
     rw[hl2] at this
     simpa [loadCells] using this
    simp[convert,und_run hs,und_run hd,und_run he,Conv.bytesToString,hload]
    rw[bytes_loop (σ:=σ) (ρ:=ρ) _ (λ_ _=>rfl) w hl1 hout]
    rfl
   ·cases h
  ·cases h
 ·cases h
theorem read_sound{o:SOp}{o':Oper}{v:Value}{m:Mem}{w:World}(h1:o'.op=o.op)(hr:∀x∈o.op.operands.toList,VRel σ ρ (r x) (r' x))(hR:Rel σ ρ m w)(h:readA P o r m=some v):
  Gives σ P ρ o' r' w v:=by
 rw[<-h1] at hr
 cases hop:o.op with
 |load t a=>
  rw[hop] at h1
  simp only[readA,hop] at h
  obtain⟨v',hv,hrun⟩:=load_sound (P:=P) hR (hr a (by simp[h1,Op.operands])) h
  exact⟨v',hv,by simp[execOp,h1,hrun]⟩
 |lookup t mp k ok=>
  rw[hop] at h1
  simp only[readA,hop] at h
  obtain⟨v',hv,hrun⟩:=lookup_sound (P:=P) hR (hr mp (by simp[h1,Op.operands])) (hr k (by simp[h1,Op.operands])) h
  exact⟨v',hv,by simp[execOp,h1,hrun]⟩
 |binOp op t x y u=>
  rw[hop] at h1
  simp only[readA,hop] at h
  obtain⟨hv,hrun⟩:=eq_sound (P:=P) hR (hr x (by simp[h1,Op.operands])) (hr y (by simp[h1,Op.operands])) h
  refine⟨v,hv,?_⟩
  have e:(execOp r' o').run P w=((do eqGuard op t x y (r' x) (r' y);binOp op t (r' x) (r' y):Sem Value).run P w).andThen λa w'=> .ok (.value a) w':=by
   simp only[execOp,h1,Sem.run_bind,Sem.run_pure]
  rw[e,hrun]
  rfl
 |convert s d x=>
  rw[hop] at h1
  simp only[readA,hop] at h
  split at h
  ·rename_i hp
   have hx:=plain_eq hp (hr x (by simp[h1,Op.operands]))
   have h':runV P (convert s d (r x))=some v:=by
    split at h
    ·cases h
    ·exact h
   obtain⟨hv,hrun⟩:=runV_run (σ:=σ) (ρ:=ρ) h'
   refine⟨v,hv,?_⟩
   rw[hx] at hrun
   simp[execOp,h1,hrun]
  ·obtain⟨v',hv,hrun⟩:=bytes_sound (P:=P) hR h (hr x (by simp[h1,Op.operands]))
   exact⟨v',hv,by simp[execOp,h1,hrun]⟩
 |call c=>
  rw[hop] at h1
  simp only[readA,hop] at h
  split at h
  ·rename_i t x hc hat hx
   have hmem:x∈c.args.toList:=by
    have:c.args.toList[0]? =some x:=by simpa using hx
    exact List.mem_of_getElem? this
   have hxr:=hr x (by rw[h1];simpa [Op.operands,Call.operands,hc] using hmem)
   obtain⟨hv,hrun⟩:=len_sound (P:=P) (ty:=o'.type) hat hR hxr h (c.args.map r') (by simp[hx])
   exact⟨v,hv,resolve_builtin h1 hc (λcs=>rfl) hrun⟩
  ·cases h
 |_=>simp[readA,hop] at h
end
section
variable{σ:Sig}{P:Program}{ρ:Rho}{r r':Operand->Value}
def GivesM(σ:Sig)(P:Program)(ρ:Rho)(m:Mem)(w:World)(o':Oper)(r':Operand->Value)(id:Nat)(v:Value)(m':Mem):Prop:=
 ∃x v' w' ρ',(execOp r' o').run P w= .ok x w'∧(x= .value v'∨(x= .skip∧v'=undef))∧VRel σ ρ' v v'∧Post σ ρ m w ρ' m' w'∧OldBut m.next id ρ ρ'
theorem old_upd{n id:Nat}{x:Nat×Nat×Nat}:OldBut n id ρ (upd ρ id x):=λb _ hb h=>by simpa [upd,hb] using h
theorem cells_new{w:World}{id:Nat}{cs:Cells}{ca:Array Value}{t:TypeId}{sz:Nat}(hid:ρ id=none)(h:LRel σ ρ cs.list ca.toList):
  ORel σ (upd ρ id (w.heap.size,0,0)) (w.alloc (.cells ca t)) (w.heap.size,0,0) (.cells cs true sz):=by
 refine⟨ca,t,(0,0),?_,?_,⟨λ_=>rfl,λ_=>rfl⟩,λi hi=>?_⟩
 ·show(w.heap.push _)[w.heap.size]? =_
  simp
 ·have:=h.1
  simp at this⊢
  omega
 ·have:=h.2 i hi
  rw[<-getD_toList] at this
  simpa using this.mono (upd_ext hid _)
theorem gives_cells{m:Mem}{w:World}{o':Oper}{id:Nat}{cs:Cells}{ca:Array Value}{t:TypeId}{sz:Nat}{v v':Value}(hR:Rel σ ρ m w)(hid:ρ id=none)(hlt:id<m.next)(h:LRel σ ρ cs.list ca.toList)
  (hrun:(execOp r' o').run P w= .ok (.value v') (w.alloc (.cells ca t))) (hv:VRel σ (upd ρ id (w.heap.size,0,0)) v v'):GivesM σ P ρ m w o' r' id v (m.put id (.cells cs true sz)):=
 ⟨_,v',_,_,hrun, .inl rfl,hv,Post.make hR hid hlt rfl (cells_new hid h),old_upd⟩
theorem zeros_rel{z:Value}{n s:Nat}(hp:plain z=true)(hs:z.cells.size=s)(hs0:0<s):LRel σ ρ (zeros z.cells.toList n) ((Array.range n).map (z.cells[· % z.cells.size]!)).toList:=by
 have hz:=(plain_refl (σ:=σ) ρ hp).cells (plain_noJunk hp)
 refine⟨by simp[zeros,Cells.zeros1],λi hi=>?_⟩
 have hn:i<n:=by simpa [zeros,Cells.zeros1] using hi
 have hmod:i % s<s:=Nat.mod_lt _ hs0
 have h1:(zeros z.cells.toList n).getD i undef=z.cells.toList.getD (i % s) undef:=by
  have hl:z.cells.toList.length=s:=by simpa using hs
  simp only[zeros,Cells.zeros1,gD',gM',List.getElem?_range hn,Option.map_some,Option.getD_some,hl]
 have h2:(((Array.range n).map (z.cells[· % z.cells.size]!)).toList).getD i undef=z.cells.toList.getD (i % s) undef:=by
  rw[gD',Array.getElem?_toList,Array.getElem?_map,Array.getElem?_range]
  simp only[hn,if_true,Option.map_some,Option.getD_some,hs]
  rw[gD',Array.getElem?_toList,Array.getElem!_eq_getD,Array.getD_eq_getD_getElem?,Array.getElem?_eq_getElem (by omega)]
  rfl
 rw[h1,h2]
 exact hz.at_ _
theorem make_sound{o:SOp}{o':Oper}{ob:AObj}{mk:Nat->Value}{m:Mem}{w:World}{id:Nat}(h1:o'.op=o.op)(hr:∀x∈o.op.operands.toList,VRel σ ρ (r x) (r' x))(hR:Rel σ ρ m w)(hid:ρ id=none)(hlt:id<m.next)
  (h:makeA P o r=some (ob,mk)):GivesM σ P ρ m w o' r' id (mk id) (m.put id ob):=by
 rw[<-h1] at hr
 have hptr:∀k,VRel σ (upd ρ id (w.heap.size,0,0)) (ptr id k) (ptr w.heap.size k):=λk=>by simpa using VRel.ptr (σ:=σ) (o:=k) (upd_same ρ id (w.heap.size,0,0))
 have hsl:∀n c,n<=c->VRel σ (upd ρ id (w.heap.size,0,0)) (.slice (some ⟨id,0,none⟩) n c) (.slice (some ⟨w.heap.size,0,none⟩) n c):=λn c hn=>by
  simpa using VRel.slice (σ:=σ) (o:=0) (upd_same ρ id (w.heap.size,0,0)) (.inl rfl) hn
 cases hop:o.op with
 |alloc t=>
  rw[hop] at h1
  simp only[makeA,hop] at h
  split at h
  ·rename_i z hz
   split at h
   ·rename_i hp
    simp only[sI,pI] at h
    obtain⟨rfl,rfl⟩:=h
    exact gives_cells hR hid hlt (by rw[Cells.ofList_list];exact(plain_refl (σ:=σ) ρ hp).cells (plain_noJunk hp)) (by simp[execOp,h1,Instr.alloc,zero_run hz,newVar,newRow];rfl) (hptr 0)
   ·cases h
  ·cases h
 |box t x=>
  rw[hop] at h1
  simp only[makeA,hop] at h
  cases hj:isJunk (r x) with
  |true=>rw[hj] at h;cases h
  |false=>
   rw[hj] at h
   simp only[bF,if_false,sI,pI] at h
   obtain⟨rfl,rfl⟩:=h
   exact gives_cells hR hid hlt (by rw[Cells.ofList_list];exact((hr x (by simp[h1,Op.operands])).cells hj)) (by simp[execOp,h1,Instr.box,newVar,newRow];rfl) (hptr 0)
 |buildSlice t len parts=>
  rw[hop] at h1
  rw[h1] at hr
  simp only[makeA,hop] at h
  split at h
  ·rename_i e hu
   split at h
   ·rename_i s z hs hz
    split at h
    ·rename_i hc
     simp only[bT,decide_eq_true_eq,beq_iff_eq] at hc
     obtain⟨⟨⟨hp,h24⟩,hzs⟩,hs0⟩:=hc
     simp only[mE,pI] at h
     obtain⟨out,hf,rfl,rfl⟩:=h
     obtain⟨hl1,hl2⟩:=parts_rel (r:=r) (r':=r') (parts:=parts) λp hpp=>hr p.2 (by simp only[Op.operands];exact List.mem_map.2 ⟨p,hpp,rfl⟩)
     by_cases hn:len*s=0
     ·have hzero:LRel σ ρ (zeros z.cells.toList (len*s)) []:=by rw[hn];exact LRel.nil ρ
      obtain⟨out',ho',hf'⟩:=fill_sound (place':=λi=>some (i*s,s)) hzero (λi p hp=>hp) hl1 hl2 hf
      refine gives_cells (t:=e) hR hid hlt (by rw[Cells.ofList_list];exact ho') ?_ (hsl len len (lR' _))
      have hn':¬2 ^ 24<len*s:=by omega
      have e0:((Array.range (len*s)).map λx=>(#[]:Array Value)[x % (#[]:Array Value).size]!)= #[]:=by rw[hn];simp
      rw[show([]:List Value).toArray= #[] from rfl] at hf'
      simp only[execOp,h1,Instr.buildSlice,Sem.run_bind,und_run hu,sz_run hs,Result.andThen_ok,if_pos hn,if_neg hn',Sem.run_pure,gt_iff_lt]
      rw[e0,hf']
      simp[newRow]
     ·have hzero:=zeros_rel (σ:=σ) (ρ:=ρ) (n:=len*s) hp hzs hs0
      obtain⟨out',ho',hf'⟩:=fill_sound (place':=λi=>some (i*s,s)) hzero (λi p hp=>hp) hl1 hl2 hf
      refine gives_cells (t:=e) hR hid hlt (by rw[Cells.ofList_list];exact ho') ?_ (hsl len len (lR' _))
      have hn':¬2 ^ 24<len*s:=by omega
      rw[Array.toArray_toList] at hf'
      simp only[execOp,h1,Instr.buildSlice,Sem.run_bind,und_run hu,sz_run hs,Result.andThen_ok,if_neg hn,if_neg hn',zero_run hz,Sem.run_pure,gt_iff_lt]
      rw[hf']
      simp[newRow]
    ·cases h
   ·cases h
  ·cases h
 |makeMap t hint=>
  rw[hop] at h1
  have hmap:ORel σ (upd ρ id (w.heap.size,0,0)) (w.alloc (.map #[] 0)) (w.heap.size,0,0) (.map [] true):=by
   refine⟨#[],0,?_,MapKept.stamped_empty 0,rfl,λi e he=>by simp at he⟩
   show(w.heap.push _)[w.heap.size]? =_
   simp
  have hv:VRel σ (upd ρ id (w.heap.size,0,0)) (.map (some id)) (.map (some w.heap.size)):= .map (upd_same ρ id (w.heap.size,0,0))
  simp only[makeA,hop] at h
  cases hint with
  |none=>
   simp only[sI,pI] at h
   obtain⟨rfl,rfl⟩:=h
   exact⟨_,_,_,_,by simp[execOp,h1,Instr.makeMap], .inl rfl,hv,Post.make hR hid hlt rfl hmap,old_upd⟩
  |some x=>
   simp only at h
   split at h
   ·rename_i k e q n hu hx
    simp only[sI,pI] at h
    obtain⟨rfl,rfl⟩:=h
    have hxr:=hr x (by simp[h1,Op.operands])
    rw[hx] at hxr
    have hxx:=hxr.int_inv
    exact⟨_,_,_,_,by simp[execOp,h1,Instr.makeMap,und_run hu,hxx,asInt,asIntOf], .inl rfl,hv,Post.make hR hid hlt rfl hmap,old_upd⟩
   ·cases h
 |range t x=>
  rw[hop] at h1
  simp only[makeA,hop] at h
  split at h
  ·rename_i s hu hx
   simp only[sI,pI] at h
   obtain⟨rfl,rfl⟩:=h
   have hxr:=hr x (by simp[h1,Op.operands])
   rw[hx] at hxr
   have hxx:=hxr.string_inv
   have hit:ORel σ (upd ρ id (w.heap.size,0,0)) (w.alloc (.stringIter s 0)) (w.heap.size,0,0) (.strIter s 0):=by
    refine⟨?_,rfl⟩
    show(w.heap.push _)[w.heap.size]? =_
    simp
   exact⟨_,_,_,_,by simp[execOp,h1,Instr.range,und_run hu,hxx], .inl rfl,hptr 0,Post.make hR hid hlt rfl hit,old_upd⟩
  ·cases h
 |makeSlice t l c=>
  rw[hop] at h1
  simp only[makeA,hop] at h
  split at h
  ·rename_i e n k hu hl hc
   split at h
   ·rename_i i z hi hz
    split at h
    ·rename_i hcond
     simp only[bT,decide_eq_true_eq,beq_iff_eq] at hcond
     obtain⟨⟨⟨⟨⟨⟨hp,hn0⟩,hnk⟩,hk40⟩,hbytes⟩,hzs⟩,hs0⟩:=hcond
     simp only[sI,pI] at h
     obtain⟨rfl,rfl⟩:=h
     have hlr:=hr l (by simp[h1,Op.operands])
     have hcr:=hr c (by simp[h1,Op.operands])
     rw[hl] at hlr
     rw[hc] at hcr
     have hll:=hlr.int_inv
     have hcc:=hcr.int_inv
     have hw1:IntKind.i64.wrap n=n:=IntWalk.i64_in _ ⟨by omega,by omega⟩
     have hw2:IntKind.i64.wrap k=k:=IntWalk.i64_in _ ⟨by omega,by omega⟩
     have hsz:(sizeOf e).run P w= .ok i.size w:=by simp[sizeOf,info_run hi]
     have ht:((k<0||(i.bytes:Int)*k>2 ^ 48)||n<0||n>k)=false:=by
      simp only[Bool.or_eq_false_iff,decide_eq_false_iff_not]
      exact⟨⟨⟨by omega,by omega⟩,by omega⟩,by omega⟩
     refine gives_cells (t:=e) hR hid hlt (by rw[Cells.fill_list];exact zeros_rel (σ:=σ) (ρ:=ρ) (n:=k.toNat*i.size) hp hzs hs0) ?_ (hsl n.toNat k.toNat (by omega))
     by_cases hn:k.toNat*i.size=0
     ·have e0:((Array.range (k.toNat*i.size)).map (z.cells[· % z.cells.size]!))= #[]:=by rw[hn];simp
      have e1:((Array.range 0).map λx=>(#[]:Array Value)[x % (#[]:Array Value).size]!)= #[]:=by simp
      rw[e0]
      simp only[execOp,h1,Instr.makeSlice,Sem.run_bind,und_run hu,Result.andThen_ok,hll,hcc,asInt,asIntOf,Sem.run_pure,info_run hi,hw1,hw2,ht,bF,↓reduceIte,run_askRoom,hsz,hn,newRow]
      rw[e1]
      simp
     ·simp only[execOp,h1,Instr.makeSlice,Sem.run_bind,und_run hu,Result.andThen_ok,hll,hcc,asInt,asIntOf,Sem.run_pure,info_run hi,hw1,hw2,ht,bF,↓reduceIte,run_askRoom,hsz,if_neg hn,zero_run hz,newRow]
      simp
    ·cases h
   ·cases h
  ·cases h
 |_=>simp[makeA,hop] at h
end
section
variable{σ:Sig}{P:Program}{ρ:Rho}{r r':Operand->Value}
structure Turned(w w':World)(k:Nat)(o:Obj):Prop where
 at_:w'.heap[k]? =some o
 far:∀j,j≠k->w'.heap[j]? =w.heap[j]?
 size:w'.heap.size=w.heap.size
 os:w'.os=w.os
 tape:w'.tape=w.tape
 output:w'.output=w.output
theorem Turned.refl{w:World}{k:Nat}{o:Obj}(h:w.heap[k]? =some o):Turned w w k o:=⟨h,λ_ _=>rfl,rfl,rfl,rfl,rfl⟩
theorem setCell_turned{w:World}{b off:Nat}{ca:Array Value}{t:TypeId}{fz:Nat×Nat}(h:w.heap[b]? =some (.cells ca t fz))(v:Value):
  Turned w (w.setCell ⟨b,off,none⟩ v) b (.cells (ca.setIfInBounds off v) t fz):=by
 refine⟨?_,λj hj=>?_,by simp,rfl,rfl,rfl⟩
 ·simp[World.setCell,Array.getElem?_modify,h]
 ·simp only[World.setCell,Array.getElem?_modify]
  rw[if_neg (λe=>hj e.symm)]
theorem store_one{w:World}{b off:Nat}{ca:Array Value}{t:TypeId}(h:w.heap[b]? =some (.cells ca t (0,0)))(ho:off<ca.size){v:Value}(hv:oneCell v=true):
  (store ⟨b,off,none⟩ v).run P w= .ok () (w.setCell ⟨b,off,none⟩ v):=by
 have hc:w.cell? ⟨b,off,none⟩=some ca[off]:=by simp[World.cell?,h,ho]
 have hf:w.frozen? ⟨b,off,none⟩=false:=by simp[World.frozen?,h]
 cases v<;>first|(simp[oneCell] at hv;done)|simp[store,Sem.run,hc,hf]
theorem storeCells_run{b off:Nat}{t:TypeId}:∀(vs:List Value) (i:Nat) (w:World) (ca:Array Value),w.heap[b]? =some (.cells ca t (0,0))->off+i+vs.length<=ca.size->vs.all oneCell=true->
  ∃w' ca',(storeCells ⟨b,off,none⟩ vs i).run P w= .ok () w'∧Turned w w' b (.cells ca' t (0,0))∧ca'.toList=splice ca.toList (off+i) vs:=by
 intro vs
 induction vs with
 |nil=>intro i w ca h _ _;exact⟨w,ca,by simp[storeCells], .refl h,by simp[splice]⟩
 |cons v vs ih=>
  intro i w ca h hlen hall
  simp only[List.length_cons] at hlen
  simp only[List.all_cons,bT] at hall
  have ht:=setCell_turned (off:=off+i) h v
  obtain⟨w',ca',h1,h2,h3⟩:=ih (i+1) (w.setCell ⟨b,off+i,none⟩ v) _ ht.at_ (by simp;omega) hall.2
  refine⟨w',ca',?_,⟨h2.at_,λj hj=>(h2.far j hj).trans (ht.far j hj),h2.size.trans ht.size,h2.os.trans ht.os,h2.tape.trans ht.tape,h2.output.trans ht.output⟩,?_⟩
  ·have hs:=store_one (P:=P) h (off:=off+i) (by omega) hall.1
   simp only[storeCells,addr_add ⟨b,off,none⟩ rfl,Sem.run_bind,hs,Result.andThen_ok]
   exact h1
  ·rw[h3,Array.toList_setIfInBounds]
   exact splice_cons ca.toList (off+i) v vs (by simp;omega)
theorem Post.turn{m:Mem}{w w':World}(hR:Rel σ ρ m w){b:Nat}{ob ob':AObj}{x:Nat×Nat×Nat}{o:Obj}(hm:m.get b=some ob)(hρ:ρ b=some x)(hw:wr ob=true)
  (ht:Turned w w' x.1 o) (hob:ORel σ ρ w' x ob'):Post σ ρ m w ρ (m.put b ob') w':=by
 refine⟨⟨λc hc=>hR.dom c hc,hR.glob,λc oc y hc hy=>?_,λb1 b2 o1 o2 x1 x2 hne h1 h2 g1 g2 hww=>?_,λc hc=>by
  rw[gP,if_neg (λe=>by rw[e] at hc;rw[hR.fresh b hc] at hm;cases hm)];exact hR.fresh c hc⟩,Ext.refl ρ,lR' _,Nat.le_of_eq ht.size.symm,ht.os,ht.tape,ht.output,λk _ hf=>?_,λc oc y hc hy hlt=>?_⟩
 ·rw[gP] at hc
  by_cases e:c=b
  ·subst e
   rw[if_pos rfl] at hc
   cases hc
   rw[hρ] at hy
   cases hy
   exact hob
  ·rw[if_neg e] at hc
   refine(hR.obj c oc y hc hy).keep (Ext.refl ρ) (ht.far _ ?_)
   exact λe'=>hR.inj b c ob oc x y (λe''=>e e''.symm) hm hc hρ hy hw e'.symm
 ·have key:∀{c oc y},(m.put b ob').get c=some oc->ρ c=some y->∃oc',m.get c=some oc'∧(wr oc=true->wr oc'=true):=λ{c oc y} hc _=>by
   rw[gP] at hc
   by_cases e:c=b
   ·subst e;exact⟨ob,hm,λ_=>hw⟩
   ·rw[if_neg e] at hc;exact⟨oc,hc,id⟩
  obtain⟨o1',k1,k2⟩:=key h1 g1
  obtain⟨o2',k3,_⟩:=key h2 g2
  exact hR.inj b1 b2 o1' o2' x1 x2 hne k1 k3 g1 g2 (k2 hww)
 ·exact ht.far k (λe=>hf b ob x hm hw hρ e.symm)
 ·rw[gP] at hc
  by_cases e:c=b
  ·subst e
   exact⟨c,ob,y,hm,hy,rfl,λ_=>hw⟩
  ·rw[if_neg e] at hc
   exact⟨c,oc,y,hc,hy,rfl,id⟩
theorem three{A B D:List Value}{n i:Nat}(h:A.length=n):(A++B++D)[i]? =if i<n then A[i]? else if i<n+B.length then B[i-n]? else D[i-(n+B.length)]? :=by
 by_cases c1:i<n
 ·rw[if_pos c1,aA,aB' (by omega)]
 ·rw[if_neg c1]
  by_cases c2:i<n+B.length
  ·rw[if_pos c2,aA,aC' (by omega),aB' (by omega),h]
  ·rw[if_neg c2,aC' (by rw[aL];omega),aL,h]
theorem all_one{new new':List Value}(hn:LRel σ ρ new new')(hall:new.all oneCell=true):new'.all oneCell=true:=by
 rw[List.all_eq_true] at hall⊢
 intro v hv
 obtain⟨i,hi⟩:=List.getElem?_of_mem hv
 have hlt:i<new.length:=by rw[hn.1];exact(List.getElem?_eq_some_iff.1 hi).1
 obtain⟨v',g1,g2⟩:=hn.get? (gE' hlt)
 rw[hi] at g1
 cases g1
 exact g2.oneCell (hall _ (List.getElem_mem hlt))
theorem cells_write{m:Mem}{w:World}(hR:Rel σ ρ m w){b o:Nat}{c:Cells}{sz:Nat}{x:Nat×Nat×Nat}{new new':List Value}(hm:m.get b=some (.cells c true sz))(hρ:ρ b=some x)
  (hn:LRel σ ρ new new') (hb:o+new.length<=c.n) (hall:new.all oneCell=true):
  ∃w',(storeCells ⟨x.1,x.2.1+o,none⟩ new').run P w= .ok () w'∧Post σ ρ m w ρ (m.put b (.cells (c.write o new) true sz)) w':=by
 have hbc:=hb
 rw[<-c.list_length] at hb
 obtain⟨ca,t,fz,h1,h2,h3,h4⟩:=(hR.obj b _ _ hm hρ:CellsRel σ ρ w x c.list true sz)
 suffices hob:∀(w':World) (ca':Array Value),Turned w w' x.1 (.cells ca' t (0,0))->ca'.toList=splice ca.toList (x.2.1+o) new'->CellsRel σ ρ w' x (splice c.list o new) true sz by
  obtain⟨w',ca',g1,g2,g3⟩:=storeCells_run (P:=P) (off:=x.2.1+o) new' 0 w ca (by rw[h3.1 rfl] at h1;exact h1) (by have:=hn.1;omega) (all_one hn hall)
  rw[Nat.add_zero] at g3
  exact⟨w',g1,Post.turn hR hm hρ rfl g2 (show CellsRel σ ρ w' x (c.write o new).list true sz from(Cells.write_list hbc).symm▸hob w' ca' g2 g3)⟩
 generalize c.list=cs at hb h2 h4
 intro w' ca' g2 g3
 refine⟨ca',t,(0,0),g2.at_,?_,⟨λ_=>rfl,h3.2⟩,λi hi=>?_⟩
 ·have hl:ca'.size=ca.size:=by
   rw[<-Array.length_toList,g3]
   have:=hn.1
   simp[splice]
   omega
  have:(splice cs o new).length=cs.length:=by simp[splice];omega
  omega
 ·have hl:(splice cs o new).length=cs.length:=by simp[splice];omega
  rw[getD_toList,g3]
  have hsub:LRel σ ρ cs ((ca.toList.drop x.2.1).take cs.length):=⟨by simp;omega,λj hj=>by
   have:=h4 j hj
   rw[getD_toList] at this
   rw[gD' (l:=List.take _ _),List.getElem?_take_of_lt hj,List.getElem?_drop,<-gD']
   exact this⟩
  have hsp:=(splice_rel hsub hn o).2 i hi
  have hlen':=hn.1
  have e:(splice (List.take cs.length (List.drop x.2.1 ca.toList)) o new').getD i undef=(splice ca.toList (x.2.1+o) new').getD (x.2.1+i) undef:=by
   have hi':i<cs.length:=by omega
   have hcs:ca.toList.length=ca.size:=by simp
   unfold splice
   rw[gD',gD']
   congr 1
   rw[three (n:=o) (by rw[List.length_take,List.length_take,List.length_drop];omega),three (n:=x.2.1+o) (by rw[List.length_take];omega)]
   by_cases c1:i<o
   ·rw[if_pos c1,if_pos (by omega),List.getElem?_take_of_lt c1,List.getElem?_take_of_lt hi',List.getElem?_take_of_lt (by omega),List.getElem?_drop]
   ·by_cases c2:i<o+new'.length
    ·rw[if_neg c1,if_pos c2,if_neg (by omega),if_pos (by omega)]
     congr 1
     omega
    ·rw[if_neg c1,if_neg c2,if_neg (by omega),if_neg (by omega),List.getElem?_drop,List.getElem?_drop,List.getElem?_take_of_lt (by omega),List.getElem?_drop]
     congr 1
     omega
  rw[<-e]
  exact hsp
theorem store_sound{t:TypeId}{a a' v v':Value}{m m':Mem}{w:World}(hR:Rel σ ρ m w)(ha:VRel σ ρ a a')(hv:VRel σ ρ v v')(h:storeA P t a v m=some m'):
  ∃w',(Instr.storeAt t a' v').run P w= .ok () w'∧Post σ ρ m w ρ m' w':=by
 unfold storeA at h
 split at h
 ·rename_i b o
  obtain⟨b',off,sl,hρ,rfl⟩:=ha.ptr_inv
  split at h
  ·rename_i cs sz hm
   split at h
   ·cases h
   ·rename_i n hs
    split at h
    ·rename_i hc
     obtain⟨h1,h2,h3⟩:=hc
     simp only[sI] at h
     subst h
     have hcl:=hv.cells (noJunk_of h3)
     have hsz:v'.cells.size=n:=by have:=hcl.1;simp at this;omega
     obtain⟨w',g1,g2⟩:=cells_write (P:=P) (o:=o) hR hm hρ hcl (by simp;omega) h3
     simp only at g1
     exact⟨w',by simp[Instr.storeAt,Instr.sureAddr,storeVar,sz_run hs,hsz,g1],g2⟩
    ·cases h
  ·cases h
 ·cases h
theorem setMap_sound{kd:TypeDesc}{x v v':Value}{clock:Nat}:∀{es out:List (Value×Value)} {es':List MapEntry},ERel σ ρ es es'->VRel σ ρ x x->VRel σ ρ v v'->setMapA kd x v es=some out->
  (Instr.findNow kd x es' 0=some none∧ERel σ ρ out (es'++ [{key:=x,val:=v',born:=clock}]))∨
  (∃i u e,Instr.findNow kd x es' 0=some (some (i,u))∧es'[i]? =some e∧Instr.sameNow kd x e.key=some true∧ERel σ ρ out (es'.modify i λe=>{e with key:=x,val:=v'})):=by
 have key:∀{es out:List (Value×Value)} {es':List MapEntry} (n:Nat),ERel σ ρ es es'->VRel σ ρ x x->VRel σ ρ v v'->setMapA kd x v es=some out->
   (Instr.findNow kd x es' n=some none∧ERel σ ρ out (es'++ [{key:=x,val:=v',born:=clock}]))∨
   (∃i u e,Instr.findNow kd x es' n=some (some (n+i,u))∧es'[i]? =some e∧Instr.sameNow kd x e.key=some true∧ERel σ ρ out (es'.modify i λe=>{e with key:=x,val:=v'})):=by
  intro es
  induction es with
  |nil=>
   intro out es' n he hx hv h
   rw[he.nil_inv]
   simp only[setMapA,sI] at h
   subst h
   exact .inl ⟨rfl,ERel.cons hx hv ERel.nil⟩
  |cons e es ih=>
   intro out es' n he hx hv h
   obtain⟨e',l,rfl,h1,h2,h3⟩:=he.cons_inv
   obtain⟨y,u⟩:=e
   simp only[setMapA] at h
   cases hs:Instr.sameNow kd x y with
   |none=>rw[hs] at h;cases h
   |some b=>
    rw[hs] at h
    have hs':=sameNow_rel h1 hs
    cases b with
    |true=>
     simp only[sI] at h
     subst h
     exact .inr ⟨0,e'.val,e',by simp[Instr.findNow,hs'],by simp,hs',by simpa using ERel.cons (e:=(x,v)) (e':={e' with key:=x,val:=v'}) hx hv h3⟩
    |false=>
     simp only[mE] at h
     obtain⟨out',h,rfl⟩:=h
     rcases ih (n+1) h3 hx hv h with⟨g1,g2⟩|⟨i,u',e'',g1,g2,g3,g4⟩
     ·exact .inl ⟨by simp[Instr.findNow,hs',g1],ERel.cons h1 h2 g2⟩
     ·exact .inr ⟨i+1,u',e'',by simp only[Instr.findNow,hs',g1];congr 3;omega,by simpa using g2,g3,by simpa using ERel.cons (e:=(y,u)) h1 h2 g4⟩
 intro es out es' he hx hv h
 simpa using key 0 he hx hv h
theorem delMap_sound{kd:TypeDesc}{x:Value}:∀{es out:List (Value×Value)} {es':List MapEntry},ERel σ ρ es es'->delMapA kd x es=some out->
  (Instr.findNow kd x es' 0=some none∧ERel σ ρ out es')∨(∃i u,Instr.findNow kd x es' 0=some (some (i,u))∧ERel σ ρ out (es'.eraseIdx i)):=by
 have key:∀{es out:List (Value×Value)} {es':List MapEntry} (n:Nat),ERel σ ρ es es'->delMapA kd x es=some out->
   (Instr.findNow kd x es' n=some none∧ERel σ ρ out es')∨(∃i u,Instr.findNow kd x es' n=some (some (n+i,u))∧ERel σ ρ out (es'.eraseIdx i)):=by
  intro es
  induction es with
  |nil=>
   intro out es' n he h
   rw[he.nil_inv]
   simp only[delMapA,sI] at h
   subst h
   exact .inl ⟨rfl,ERel.nil⟩
  |cons e es ih=>
   intro out es' n he h
   obtain⟨e',l,rfl,h1,h2,h3⟩:=he.cons_inv
   obtain⟨y,u⟩:=e
   simp only[delMapA] at h
   cases hs:Instr.sameNow kd x y with
   |none=>rw[hs] at h;cases h
   |some b=>
    rw[hs] at h
    have hs':=sameNow_rel h1 hs
    cases b with
    |true=>
     simp only[sI] at h
     subst h
     exact .inr ⟨0,e'.val,by simp[Instr.findNow,hs'],by simpa using h3⟩
    |false=>
     simp only[mE] at h
     obtain⟨out',h,rfl⟩:=h
     rcases ih (n+1) h3 h with⟨g1,g2⟩|⟨i,u',g1,g2⟩
     ·exact .inl ⟨by simp[Instr.findNow,hs',g1],ERel.cons h1 h2 g2⟩
     ·exact .inr ⟨i+1,u',by simp only[Instr.findNow,hs',g1];congr 3;omega,by simpa using ERel.cons (e:=(y,u)) h1 h2 g2⟩
 intro es out es' he h
 simpa using key 0 he h
theorem putObj_turned{w:World}{k:Nat}{o o':Obj}(h:w.heap[k]? =some o):Turned w (w.putObj k o') k o':=
 ⟨World.putObj_heap_same (Array.getElem?_eq_some_iff.1 h).1,λ_ hj=>World.putObj_heap_other hj,World.putObj_size,rfl,rfl,rfl⟩
theorem ba_eq{s t:ByteArray}(h:(s==t)=true):s=t:=by
 cases s with
 |mk a=>cases t with
  |mk b=>
   have h':(a==b)=true:=h
   rw[eq_of_beq h']
theorem ba_refl(s:ByteArray):(s==s)=true:=by
 cases s with
 |mk a=>
  show(a==a)=true
  exact beq_self_eq_true a
theorem sameNow_bits{kd:TypeDesc}{x y:Value}(h:Instr.sameNow kd x y=some true):Instr.sameBits 10000 y x=true:=by
 cases kd<;>cases x<;>cases y<;>simp[Instr.sameNow] at h
 ·subst h;simp[Instr.sameBits]
 ·obtain⟨rfl,h⟩:=h;subst h;simp[Instr.sameBits]
 ·have e:=ba_eq h;subst e;simp[Instr.sameBits,ba_refl]
theorem sameNow_eq{kd:TypeDesc}{x y:Value}(h:Instr.sameNow kd x y=some true):x=y:=by
 cases kd<;>cases x<;>cases y<;>simp[Instr.sameNow] at h
 ·subst h;rfl
 ·obtain⟨rfl,h⟩:=h;subst h;rfl
 ·rw[ba_eq h]
theorem sameNow_ne{kd:TypeDesc}{x y:Value}(h:Instr.sameNow kd x y=some false):y≠x:=by
 rintro rfl
 cases kd<;>cases y<;>simp[Instr.sameNow] at h
 rename_i s
 exact absurd (ba_refl s) (by rw[h];simp)
theorem notFound{kd:TypeDesc}{x:Value}{es:List MapEntry}(h:Instr.findNow kd x es 0=some none):∀e∈es,e.key≠x:=by
 have key:∀(es:List MapEntry) (n:Nat),Instr.findNow kd x es n=some none->∀e∈es,e.key≠x:=by
  intro es
  induction es with
  |nil=>intro n _ e he;cases he
  |cons e es ih=>
   intro n h
   simp only[Instr.findNow] at h
   cases hs:Instr.sameNow kd x e.key with
   |none=>rw[hs] at h;cases h
   |some b=>
    rw[hs] at h
    cases b with
    |true=>cases h
    |false=>
     intro e' he'
     rcases List.mem_cons.1 he' with rfl|he'
     ·exact sameNow_ne hs
     ·exact ih _ h e' he'
 exact key es 0 h
theorem map_orel{w w':World}{x:Nat×Nat×Nat}{es:List (Value×Value)}{es':Array MapEntry}{clock:Nat}(ht:Turned w w' x.1 (.map es' clock))(hst:MapKept.Stamped es' clock)(he:ERel σ ρ es es'.toList)(rw_:Bool):ORel σ ρ w' x (.map es rw_):=
 ⟨es',clock,ht.at_,hst,by simpa using he.1,λi e hi=>by simpa using he.2 i e hi⟩
theorem atQ_eq{a b:Value}(h:atQ a b=true):a=b:=by
 unfold atQ at h
 split at h
 ·simp only[bT,beq_iff_eq] at h;rw[h.1,h.2]
 ·rw[beq_iff_eq.1 h]
 ·rw[ba_eq h]
 ·cases h
theorem atsQ_eq:∀{l k:List Value},atsQ l k=true->l=k
 |[],[],_=>rfl
 |[],_::_,h=>by cases h
 |_::_,[],h=>by cases h
 |a::l,b::k,h=>by
  simp only[atsQ,bT] at h
  rw[atQ_eq h.1,atsQ_eq h.2]
theorem keyQ_eq{a b:Value}(h:keyQ a b=true):a=b:=by
 unfold keyQ at h
 split at h
 ·rename_i x y
  have:=atsQ_eq h
  rw[Array.toList_inj.1 this]
 ·cases h
theorem setS_sound{k:TypeId}{x v v':Value}{clock:Nat}(w:World):∀{es out:List (Value×Value)} {es':List MapEntry} (n:Nat),ERel σ ρ es es'->VRel σ ρ x x->VRel σ ρ v v'->setS P k x v es=some out->
   ((Instr.findAsking k x es' n).run P w= .ok none w∧(∀e∈es',e.key≠x)∧ERel σ ρ out (es'++ [{key:=x,val:=v',born:=clock}]))∨
   (∃i u e,(Instr.findAsking k x es' n).run P w= .ok (some (n+i,u)) w∧es'[i]? =some e∧x=e.key∧Instr.sameBits 10000 e.key x=true∧ERel σ ρ out (es'.modify i λe=>{e with key:=x,val:=v'})):=by
 intro es
 induction es with
 |nil=>
  intro out es' n he hx hv h
  rw[he.nil_inv]
  simp only[setS,sI] at h
  subst h
  exact .inl ⟨rfl,by simp,ERel.cons hx hv ERel.nil⟩
 |cons e es ih=>
  intro out es' n he hx hv h
  obtain⟨e',l,rfl,h1,h2,h3⟩:=he.cons_inv
  obtain⟨y,u⟩:=e
  simp only[setS] at h
  cases hs:sameS P k x y with
  |none=>rw[hs] at h;cases h
  |some b=>
   rw[hs] at h
   unfold sameS at hs
   split at hs
   ·rename_i hp
    obtain rfl:=plain_eq hp h1
    have hr:=runP_run _ hs w
    cases b with
    |true=>
     simp only at h
     split at h
     ·rename_i hq
      simp only[bT] at hq
      simp only[sI] at h
      subst h
      exact .inr ⟨0,e'.val,e',by simp[Instr.findAsking,hr],by simp,(keyQ_eq hq.1).symm,hq.2,by simpa using ERel.cons (e:=(x,v)) (e':={e' with key:=x,val:=v'}) hx hv h3⟩
     ·cases h
    |false=>
     simp only at h
     split at h
     ·rename_i hq
      simp only[bT,Bool.not_eq_true'] at hq
      simp only[mE] at h
      obtain⟨out',h,rfl⟩:=h
      rcases ih (n+1) h3 hx hv h with⟨g1,g0,g2⟩|⟨i,u',e'',g1,g2,g3,g5,g4⟩
      ·refine .inl ⟨by simp[Instr.findAsking,hr,g1],λe he=>?_,ERel.cons h1 h2 g2⟩
       rcases List.mem_cons.1 he with rfl|he
       ·intro e2;rw[e2,hq.1] at hq;exact absurd hq.2 (by simp)
       ·exact g0 e he
      ·exact .inr ⟨i+1,u',e'',by simp[Instr.findAsking,hr,g1];omega,by simpa using g2,g3,g5,by simpa using ERel.cons (e:=(e'.key,u)) h1 h2 g4⟩
     ·cases h
   ·cases hs
theorem delS_sound{k:TypeId}{x:Value}(w:World):∀{es out:List (Value×Value)} {es':List MapEntry} (n:Nat),ERel σ ρ es es'->delS P k x es=some out->
   ((Instr.findAsking k x es' n).run P w= .ok none w∧ERel σ ρ out es')∨(∃i u,(Instr.findAsking k x es' n).run P w= .ok (some (n+i,u)) w∧ERel σ ρ out (es'.eraseIdx i)):=by
 intro es
 induction es with
 |nil=>
  intro out es' n he h
  rw[he.nil_inv]
  simp only[delS,sI] at h
  subst h
  exact .inl ⟨rfl,ERel.nil⟩
 |cons e es ih=>
  intro out es' n he h
  obtain⟨e',l,rfl,h1,h2,h3⟩:=he.cons_inv
  obtain⟨y,u⟩:=e
  simp only[delS] at h
  cases hs:sameS P k x y with
  |none=>rw[hs] at h;cases h
  |some b=>
   rw[hs] at h
   unfold sameS at hs
   split at hs
   ·rename_i hp
    obtain rfl:=plain_eq hp h1
    have hr:=runP_run _ hs w
    cases b with
    |true=>
     simp only[sI] at h
     subst h
     exact .inr ⟨0,e'.val,by simp[Instr.findAsking,hr],by simpa using h3⟩
    |false=>
     simp only[mE] at h
     obtain⟨out',h,rfl⟩:=h
     rcases ih (n+1) h3 h with⟨g1,g2⟩|⟨i,u',g1,g2⟩
     ·exact .inl ⟨by simp[Instr.findAsking,hr,g1],ERel.cons h1 h2 g2⟩
     ·exact .inr ⟨i+1,u',by simp[Instr.findAsking,hr,g1];omega,by simpa using ERel.cons (e:=(e'.key,u)) h1 h2 g2⟩
   ·cases hs
theorem mapSet_sound{t:TypeId}{mp mp' k k' v v':Value}{m m':Mem}{w:World}(hR:Rel σ ρ m w)(hm:VRel σ ρ mp mp')(hk:VRel σ ρ k k')(hv:VRel σ ρ v v')(h:mapSetA P t mp k v m=some m'):
  ∃w',(Instr.mapUpdate t mp' k' v').run P w= .ok () w'∧Post σ ρ m w ρ m' w':=by
 unfold mapSetA at h
 split at h
 ·rename_i kt et b hu
  split at h
  ·rename_i es kd hmb hkd
   simp only[mE] at h
   obtain⟨out,hs,rfl⟩:=h
   obtain⟨hku,hkx,hck⟩:=keyKind_inv (ρ:=ρ) hkd
   obtain rfl:=hkx k' hk
   cases hm with
   |map hρ=>
    rename_i b' off sl
    obtain⟨es',clock,g0,he,hst⟩:=map_obj' hR hmb hρ
    simp only at g0
    have hget:(getObj b').run P w= .ok (.map es' clock) w:=by simp[getObj,Sem.run,g0]
    have hset:∀o',(setObj b' o').run P w= .ok () (w.putObj b' o'):=λo'=>by simp[setObj,Sem.run,g0,World.putObj]
    rcases setMap_sound (clock:=clock) he hk hv hs with⟨g1,g2⟩|⟨i,u,e,g1,g2,g3,g4⟩
    ·have ht:=putObj_turned (o':= .map (es'.push {key:=k',val:=v',born:=clock}) (clock+1)) g0
     refine⟨_,?_,Post.turn hR hmb hρ rfl ht (map_orel (x:=(b',off,sl)) ht (MapKept.stamped_push hst (notFound g1)) (by simpa using g2) true)⟩
     simp[Instr.mapUpdate,und_run hu,hget,hck,findKey_run hku g1,hset]
    ·have ht:=putObj_turned (o':= .map (es'.modify i λe=>{e with key:=k',val:=v'}) clock) g0
     refine⟨_,?_,Post.turn hR hmb hρ rfl ht (map_orel (x:=(b',off,sl)) ht (MapKept.stamped_modify hst i _ (λ_ _=>rfl) λe0 _ he0=>by
      have:e0=e:=by
       have h1:es'.toList[i]? =some e0:=by simpa using he0
       rw[h1] at g2;exact Option.some.inj g2
      subst this;exact sameNow_eq g3) (by simpa using g4) true)⟩
     have hb:=sameNow_bits g3
     have g2':es'[i]? =some e:=by simpa using g2
     have hkeep:∀o,(Instr.keyThatStays e.key k').run P o= .ok k' o:=λo=>by simp[Instr.keyThatStays,hb]
     simp[Instr.mapUpdate,und_run hu,hget,hck,findKey_run hku g1,g2',hkeep,hset]
  ·rename_i es hmb hkd
   split at h
   ·rename_i hks
    simp only[mE] at h
    obtain⟨out,hs,rfl⟩:=h
    obtain⟨⟨fs,hku⟩,hkx,hck⟩:=keyS_inv (ρ:=ρ) hks
    obtain rfl:=hkx k' hk
    cases hm with
    |map hρ=>
     rename_i b' off sl
     obtain⟨es',clock,g0,he,hst⟩:=map_obj' hR hmb hρ
     simp only at g0
     have hget:(getObj b').run P w= .ok (.map es' clock) w:=by simp[getObj,Sem.run,g0]
     have hset:∀o',(setObj b' o').run P w= .ok () (w.putObj b' o'):=λo'=>by simp[setObj,Sem.run,g0,World.putObj]
     rcases setS_sound (clock:=clock) w 0 he hk hv hs with⟨g1,gn,g2⟩|⟨i,u,e,g1,g2,g3,hb,g4⟩
     ·have ht:=putObj_turned (o':= .map (es'.push {key:=k',val:=v',born:=clock}) (clock+1)) g0
      refine⟨_,?_,Post.turn hR hmb hρ rfl ht (map_orel (x:=(b',off,sl)) ht (MapKept.stamped_push hst gn) (by simpa using g2) true)⟩
      simp[Instr.mapUpdate,und_run hu,hget,hck,findKeyS_run hku g1,hset]
     ·have ht:=putObj_turned (o':= .map (es'.modify i λe=>{e with key:=k',val:=v'}) clock) g0
      refine⟨_,?_,Post.turn hR hmb hρ rfl ht (map_orel (x:=(b',off,sl)) ht (MapKept.stamped_modify hst i _ (λ_ _=>rfl) λe0 _ he0=>by
       have:e0=e:=by
        have h1:es'.toList[i]? =some e0:=by simpa using he0
        rw[h1] at g2;exact Option.some.inj g2
       subst this;exact g3) (by simpa using g4) true)⟩
      have g2':es'[i]? =some e:=by simpa using g2
      have hkeep:∀o,(Instr.keyThatStays e.key k').run P o= .ok k' o:=λo=>by simp[Instr.keyThatStays,hb]
      simp[Instr.mapUpdate,und_run hu,hget,hck,findKeyS_run hku g1,g2',hkeep,hset]
   ·cases h
  ·cases h
 ·cases h
theorem delete_sound{at_:Array TypeId}{ty:TypeId}{mp mp' k k':Value}{m m':Mem}{w:World}{args:Array Value}(hR:Rel σ ρ m w)(hm:VRel σ ρ mp mp')(hk:VRel σ ρ k k')(h0:args[0]? =some mp')(h1:args[1]? =some k')(h:deleteA P at_ mp k m=some m'):
  ∃w',(Builtin.delete_ at_ ty args).run P w= .ok (.tuple #[]) w'∧Post σ ρ m w ρ m' w':=by
 unfold deleteA at h
 split at h
 ·rename_i t hat
  split at h
  ·rename_i kt et hu
   simp only[mE] at h
   obtain⟨kd,hkd,rfl⟩:=h
   obtain⟨hku,hkx,hck⟩:=keyKind_inv (ρ:=ρ) hkd
   obtain rfl:=hkx k' hk
   cases hm
   exact⟨w,by simp[Builtin.delete_,hat,h0,h1,und_run hu,hck],Post.refl hR⟩
  ·rename_i kt et b hu
   split at h
   ·rename_i es kd hmb hkd
    simp only[mE] at h
    obtain⟨out,hs,rfl⟩:=h
    obtain⟨hku,hkx,hck⟩:=keyKind_inv (ρ:=ρ) hkd
    obtain rfl:=hkx k' hk
    cases hm with
    |map hρ=>
     rename_i b' off sl
     obtain⟨es',clock,g0,he,hst⟩:=map_obj' hR hmb hρ
     simp only at g0
     have hget:(getObj b').run P w= .ok (.map es' clock) w:=by simp[getObj,Sem.run,g0]
     have hset:∀o',(setObj b' o').run P w= .ok () (w.putObj b' o'):=λo'=>by simp[setObj,Sem.run,g0,World.putObj]
     rcases delMap_sound he hs with⟨g1,g2⟩|⟨i,u,g1,g2⟩
     ·have ht:=putObj_turned (o':= .map es' clock) g0
      refine⟨_,?_,Post.turn hR hmb hρ rfl ht (map_orel (x:=(b',off,sl)) ht hst g2 true)⟩
      simp[Builtin.delete_,hat,h0,h1,und_run hu,hget,hck,findKey_run hku g1,hset]
     ·have ht:=putObj_turned (o':= .map (es'.eraseIdxIfInBounds i) clock) g0
      refine⟨_,?_,Post.turn hR hmb hρ rfl ht (map_orel (x:=(b',off,sl)) ht (MapKept.stamped_erase hst i) (by
       have:(es'.eraseIdxIfInBounds i).toList=es'.toList.eraseIdx i:=by
        unfold Array.eraseIdxIfInBounds
        split
        ·simp
        ·rw[List.eraseIdx_of_length_le (by simp;omega)]
       rw[this];exact g2) true)⟩
      simp[Builtin.delete_,hat,h0,h1,und_run hu,hget,hck,findKey_run hku g1,hset]
   ·rename_i es hmb hkd
    split at h
    ·rename_i hks
     simp only[mE] at h
     obtain⟨out,hs,rfl⟩:=h
     obtain⟨⟨fs,hku⟩,hkx,hck⟩:=keyS_inv (ρ:=ρ) hks
     obtain rfl:=hkx k' hk
     cases hm with
     |map hρ=>
      rename_i b' off sl
      obtain⟨es',clock,g0,he,hst⟩:=map_obj' hR hmb hρ
      simp only at g0
      have hget:(getObj b').run P w= .ok (.map es' clock) w:=by simp[getObj,Sem.run,g0]
      have hset:∀o',(setObj b' o').run P w= .ok () (w.putObj b' o'):=λo'=>by simp[setObj,Sem.run,g0,World.putObj]
      rcases delS_sound w 0 he hs with⟨g1,g2⟩|⟨i,u,g1,g2⟩
      ·have ht:=putObj_turned (o':= .map es' clock) g0
       refine⟨_,?_,Post.turn hR hmb hρ rfl ht (map_orel (x:=(b',off,sl)) ht hst g2 true)⟩
       simp[Builtin.delete_,hat,h0,h1,und_run hu,hget,hck,findKeyS_run hku g1,hset]
      ·have ht:=putObj_turned (o':= .map (es'.eraseIdxIfInBounds i) clock) g0
       refine⟨_,?_,Post.turn hR hmb hρ rfl ht (map_orel (x:=(b',off,sl)) ht (MapKept.stamped_erase hst i) (by
        have:(es'.eraseIdxIfInBounds i).toList=es'.toList.eraseIdx i:=by
         unfold Array.eraseIdxIfInBounds
         split
         ·simp
         ·rw[List.eraseIdx_of_length_le (by simp;omega)]
        rw[this];exact g2) true)⟩
       simp[Builtin.delete_,hat,h0,h1,und_run hu,hget,hck,findKeyS_run hku g1,hset]
    ·cases h
   ·cases h
  ·cases h
 ·cases h
end
section
variable{σ:Sig}{P:Program}{ρ:Rho}{r r':Operand->Value}
theorem src_sound{sz k:Nat}{x x':Value}{m:Mem}{new:List Value}{w:World}(hR:Rel σ ρ m w)(hx:VRel σ ρ x x')(h:srcA sz x m=some (new,k)):
  ∃new':List Value,LRel σ ρ new new'∧(∀w',(Builtin.lenOf x').run P w'= .ok k w')∧(Builtin.firstCells sz k x').run P w= .ok new'.toArray w∧(k=0->new=[]):=by
 unfold srcA at h
 split at h
 ·simp only[sI,pI] at h
  obtain⟨rfl,rfl⟩:=h
  cases hx
  exact⟨[],LRel.nil ρ,λw'=>rfl,rfl,λ_=>rfl⟩
 ·rename_i b o n c
  obtain⟨b',off,sl,c',hρ,rfl,_,_⟩:=hx.slice_inv
  split at h
  ·rename_i cs rw_ s2 hm
   simp only[mE,pI] at h
   obtain⟨l,hsub,rfl,rfl⟩:=h
   obtain⟨cs',hl,hcell⟩:=(hR.obj b _ _ hm hρ:CellsRel σ ρ w (b',off,sl) cs.list rw_ s2).list
   rw[Cells.sub_eq] at hsub
   obtain⟨out',ho1,ho2,ho3⟩:=sub_rel hl hsub
   refine⟨out',ho1,λw'=>rfl,?_,λhk=>?_⟩
   ·have hrun:=loadCells_run (P:=P) (a:=⟨b',off+o,none⟩) (w:=w) out' 0 #[] (λj v hj=>by
     rw[addr_add _ rfl]
     have:=hcell (o+j) v (ho3 j v hj)
     simpa [Nat.add_assoc] using this)
    rw[ho2] at hrun
    simpa [Builtin.firstCells,loadCells] using hrun
   ·subst hk
    simp only[Nat.zero_mul] at ho2
    exact List.eq_nil_of_length_eq_zero (by rw[ho1.1,ho2])
  ·cases h
 ·simp only[sI,pI] at h
  obtain⟨rfl,rfl⟩:=h
  cases hx with
  |lost a c'=>exact⟨[],LRel.nil ρ,λw'=>rfl,by simp[Builtin.firstCells,loadCells,loadCellsFrom],λ_=>rfl⟩
 ·rename_i s
  simp only[sI,pI] at h
  obtain⟨rfl,rfl⟩:=h
  obtain rfl:=hx.string_inv
  refine⟨_,plainL s,λw'=>rfl,?_,λhk=>?_⟩
  ·simp only[Builtin.firstCells,Sem.run_pure,Result.ok.injEq,and_true]
   have:s.extract 0 s.size=s:=by simp
   rw[this]
   simp[<-Array.toList_map]
  ·have:s.data.toList.length=0:=by simpa using hk
   rw[List.eq_nil_of_length_eq_zero this]
   rfl
 ·cases h
where
 plainL (s:ByteArray):LRel σ ρ (s.data.toList.map λb=>Value.int .u8 b.toNat) (s.data.toList.map λb=>Value.int .u8 b.toNat):=by
  induction s.data.toList with
  |nil=>exact LRel.nil ρ
  |cons b l ih=>exact LRel.cons (.int _ _) ih
def AppPost(σ:Sig)(P:Program)(ρ:Rho)(m:Mem)(w:World)(id:Nat)(at_:Array TypeId)(ty:TypeId)(args:Array Value)(v:Value)(m':Mem):Prop:=
 ∃v' w' ρ',(Builtin.append_ at_ ty args).run P w= .ok v' w'∧VRel σ ρ' v v'∧Post σ ρ m w ρ' m' w'∧OldBut m.next id ρ ρ'
theorem app_fits{at_:Array TypeId}{ty ts tx e:TypeId}{d:TypeDesc}{i:TypeInfo}{args:Array Value}{base:Option Addr}{n c k:Nat}{x:Value}{w:World}{new':List Value}
  (h0:at_[0]? =some ts) (h1:at_[1]? =some tx) (hu:P.underlying ts=some (.slice e)) (hux:P.underlying tx=some d) (hd:∀q,d≠ .int q) (hi:P.info? e=some i)
  (ha0:args[0]? =some (.slice base n c)) (ha1:args[1]? =some x) (hk:∀w',(Builtin.lenOf x).run P w'= .ok k w') (hc:n+k<=c) (hf:(Builtin.firstCells i.size k x).run P w= .ok new'.toArray w):
  (Builtin.append_ at_ ty args).run P w=(match base with|some a=>(storeCells (a.add (n*i.size)) new').run P w|none=> .ok () w).andThen λ_ w'=> .ok (.slice base (n+k) c) w':=by
 have hsz:∀w,(sizeOf e).run P w= .ok i.size w:=λw=>by simp[sizeOf,info_run hi]
 cases base with
 |none=>simp[Builtin.append_,h0,h1,ha0,ha1,und_run hu,und_run hux,hsz,hk,hc,hf]
 |some a=>simp[Builtin.append_,h0,h1,ha0,ha1,und_run hu,und_run hux,hsz,hk,hc,hf]
theorem app_grows{at_:Array TypeId}{ty ts tx e:TypeId}{d:TypeDesc}{i:TypeInfo}{z:Value}{args:Array Value}{base:Option Addr}{n c k:Nat}{x:Value}{w:World}{old' new':List Value}
  (h0:at_[0]? =some ts) (h1:at_[1]? =some tx) (hu:P.underlying ts=some (.slice e)) (hux:P.underlying tx=some d) (hd:∀q,d≠ .int q) (hi:P.info? e=some i) (hz:zeroOf P e=some z)
  (ha0:args[0]? =some (.slice base n c)) (ha1:args[1]? =some x) (hk:∀w',(Builtin.lenOf x).run P w'= .ok k w') (hc:c<n+k) (hb:(n+k)*i.bytes<=2 ^ 40) (hn:n+k<=2 ^ 40)
  (ho:(Builtin.firstCells i.size n (.slice base n c)).run P w.drew= .ok old'.toArray w.drew) (hf:(Builtin.firstCells i.size k x).run P w.drew= .ok new'.toArray w.drew):
  (Builtin.append_ at_ ty args).run P w= .ok (.slice (some ⟨w.heap.size,0,none⟩) (n+k) (grownCap w (n+k) c e))
   (w.drew.alloc (.cells (old'.toArray++new'.toArray++Builtin.zeroCells z.cells (grownCap w (n+k) c e-(n+k))) e)):=by
 have hsz:∀w,(sizeOf e).run P w= .ok i.size w:=λw=>by simp[sizeOf,info_run hi]
 have hc':¬n+k<=c:=by omega
 have h63:¬(9223372036854775807<((n:Int)+(k:Int))):=by omega
 have h48:¬(281474976710656<Builtin.nextslicecap (n+k) c*i.bytes):=by
  have:=growslice_fits (need:=n+k) (old:=c) (bytes:=i.bytes) hc (by omega)
  omega
 have hzz:∀w,(zeroValue e).run P w= .ok z w:=λw=>zero_run hz w
 simp[Builtin.append_,h0,h1,ha0,ha1,und_run hu,und_run hux,hsz,hk,hc',hf,ho,info_run hi,h63,h48,hzz,newRow,Question.forced,grownCap]
 congr 2
 apply Array.toList_inj.1
 simp
theorem grownCap_le(w:World)(need old:Nat)(e:TypeId):need<=grownCap w need old e:=by
 simp only[grownCap,Question.cut]
 omega
theorem Rel.kill{m:Mem}{w:World}(hR:Rel σ ρ m w)(b:Nat):Rel σ ρ (m.kill b) w:=by
 have key:∀c o,(m.kill b).get c=some o->m.get c=some o:=λc o h=>by
  rw[Mem.get_kill] at h
  split at h
  ·cases h
  ·exact h
 exact⟨hR.dom,hR.glob,λc o x hc hx=>hR.obj c o x (key c o hc) hx,λb1 b2 o1 o2 x1 x2 hne h1 h2 g1 g2 hw=>hR.inj b1 b2 o1 o2 x1 x2 hne (key _ _ h1) (key _ _ h2) g1 g2 hw,λc hc=>by
  rw[Mem.get_kill]
  split
  ·rfl
  ·exact hR.fresh c hc⟩
theorem Post.kill{m:Mem}{w:World}(hR:Rel σ ρ m w)(b:Nat):Post σ ρ m w ρ (m.kill b) w:=
 ⟨hR.kill b,Ext.refl ρ,lR' _,lR' _,rfl,rfl,rfl,λ_ _ _=>rfl,λc o x hc hx _=>by
  rw[Mem.get_kill] at hc
  split at hc
  ·cases hc
  ·exact⟨c,o,x,hc,hx,rfl,id⟩⟩
theorem Post.take{m:Mem}{w w':World}(hR:Rel σ ρ m w){b id:Nat}{ob ob':AObj}{x y:Nat×Nat×Nat}{o:Obj}(hm:m.get b=some ob)(hρ:ρ b=some x)(hw:wr ob=true)(hid:ρ id=none)(hlt:id<m.next)
  (hy:y.1=x.1) (ht:Turned w w' x.1 o) (hob:ORel σ (upd ρ id y) w' y ob'):Post σ ρ m w (upd ρ id y) ((m.kill b).put id ob') w':=by
 have he:=upd_ext hid y
 have hne:id≠b:=λe=>by rw[e,hρ] at hid;cases hid
 have hge:64<=id:=by
  rcases Nat.lt_or_ge id 64 with hl|hl
  ·rw[hR.glob id hl] at hid;cases hid
  ·exact hl
 have key:∀{c oc z},((m.kill b).put id ob').get c=some oc->upd ρ id y c=some z->(c=id∧oc=ob'∧z=y)∨(c≠id∧c≠b∧m.get c=some oc∧ρ c=some z):=λ{c oc z} hc hz=>by
  rw[gP] at hc
  by_cases e:c=id
  ·subst e
   rw[if_pos rfl] at hc
   cases hc
   rw[upd_same] at hz
   cases hz
   exact .inl ⟨rfl,rfl,rfl⟩
  ·rw[if_neg e,Mem.get_kill] at hc
   split at hc
   ·cases hc
   ·rename_i e2
    exact .inr ⟨e,e2,hc,by simpa [upd,e] using hz⟩
 refine⟨⟨λc hc=>?_,λg hg=>?_,λc oc z hc hz=>?_,λb1 b2 o1 o2 x1 x2 hne' h1 h2 g1 g2 hww=>?_,λc hc=>?_⟩,he,lR' _,Nat.le_of_eq ht.size.symm,ht.os,ht.tape,ht.output,λk _ hf=>?_,λc oc z hc hz hlt'=>?_⟩
 ·have:c≠id:=by simp at hc;omega
  simp only[upd,this,if_false]
  exact hR.dom c hc
 ·have:g≠id:=by omega
  simp only[upd,this,if_false]
  exact hR.glob g hg
 ·rcases key hc hz with⟨rfl,rfl,rfl⟩|⟨_,k2,k3,k4⟩
  ·exact hob
  ·refine(hR.obj c oc z k3 k4).keep he (ht.far _ ?_)
   exact λe'=>hR.inj b c ob oc x z (λe''=>k2 e''.symm) hm k3 hρ k4 hw e'.symm
 ·rcases key h1 g1 with⟨rfl,rfl,rfl⟩|⟨_,k2,k3,k4⟩
  ·rcases key h2 g2 with⟨rfl,_,_⟩|⟨_,j2,j3,j4⟩
   ·exact absurd rfl hne'
   ·rw[hy]
    exact hR.inj b b2 ob o2 x x2 (λe=>j2 e.symm) hm j3 hρ j4 hw
  ·rcases key h2 g2 with⟨rfl,rfl,rfl⟩|⟨_,j2,j3,j4⟩
   ·rw[hy]
    exact λe=>hR.inj b b1 ob o1 x x1 (λe=>k2 e.symm) hm k3 hρ k4 hw e.symm
   ·exact hR.inj b1 b2 o1 o2 x1 x2 hne' k3 j3 k4 j4 hww
 ·rw[gP,if_neg (by simp at hc;omega),Mem.get_kill]
  split
  ·rfl
  ·exact hR.fresh c hc
 ·exact ht.far k (λe=>hf b ob x hm hw hρ e.symm)
 ·rcases key hc hz with⟨rfl,rfl,rfl⟩|⟨_,k2,k3,k4⟩
  ·exact⟨b,ob,x,hm,hρ,hy.symm,λ_=>hw⟩
  ·exact⟨c,oc,z,k3,k4,rfl,λhw=>hw⟩
theorem all_rel{new new':List Value}(hn:LRel σ ρ new new')(hall:new.all oneCell=true):new'.all oneCell=true:=by
 rw[List.all_eq_true] at hall⊢
 intro v hv
 obtain⟨i,hi⟩:=List.getElem?_of_mem hv
 have hlt:i<new.length:=by rw[hn.1];exact(List.getElem?_eq_some_iff.1 hi).1
 obtain⟨v',g1,g2⟩:=hn.get? (gE' hlt)
 rw[hi] at g1
 cases g1
 exact g2.oneCell (hall _ (List.getElem_mem hlt))
theorem append_sound{id:Nat}{at_:Array TypeId}{ty:TypeId}{args:Array Value}{s s' x x' v:Value}{m m':Mem}{w:World}(hR:Rel σ ρ m w)(hs:VRel σ ρ s s')(hx:VRel σ ρ x x')(hid:ρ id=none)(hlt:id<m.next)
  (ha0:args[0]? =some s') (ha1:args[1]? =some x') (h:appendA P id at_ s x m=some (v,m')):AppPost σ P ρ m w id at_ ty args v m':=by
 unfold appendA at h
 split at h
 ·rename_i ts tx h0 h1
  split at h
  ·cases h
  ·rename_i e d base n c hni hu hux
   have hd:∀q,d≠ .int q:=λq hq=>hni q hq
   split at h
   ·cases h
   ·rename_i i hi
    split at h
    ·cases h
    ·rename_i new k hsrc
     obtain⟨new',hn1,hn2,hn3,hn4⟩:=src_sound (P:=P) hR hx hsrc
     obtain⟨new2,hn1',_,hn3',_⟩:=src_sound (P:=P) hR.drew hx hsrc
     split at h
     ·rename_i hk0
      split at h
      ·rename_i hnc
       simp only[sI,pI] at h
       obtain⟨rfl,rfl⟩:=h
       have hnil:=hn4 hk0
       subst hnil
       have:new'=[]:=List.eq_nil_of_length_eq_zero (by rw[<-hn1.1];rfl)
       subst this
       have hsv:∃base' c',s'= .slice base' n c'∧c<=c':=by
        cases hs with
        |nilSlice=>exact⟨_,_,rfl,lR' _⟩
        |slice _ hc _=>exact⟨_,_,rfl,by omega⟩
        |lost a c'=>exact⟨_,_,rfl,Nat.zero_le _⟩
       obtain⟨base',c',rfl,hcc⟩:=hsv
       have hf:=app_fits (ty:=ty) h0 h1 hu hux hd hi ha0 ha1 hn2 (by omega) hn3
       refine⟨.slice base' n c',w,ρ,?_,hs,Post.refl hR,λ_ _ _ h=>h⟩
       rw[hf,hk0]
       cases base'<;>rfl
      ·cases h
     ·rename_i hk0
      split at h
      ·cases h
      ·rename_i hgood
       simp only[not_or,Bool.not_eq_false,Classical.not_not] at hgood
       obtain⟨hall,hlen⟩:=hgood
       split at h
       ·rename_i hfit
        split at h
        ·rename_i b o
         obtain⟨b',off,sl,c',hρ,rfl,hcc,hnc⟩:=hs.slice_inv
         split at h
         ·rename_i cs sz hm
          split at h
          ·rename_i hbound
           simp only[sI,pI] at h
           obtain⟨rfl,rfl⟩:=h
           have hf:=app_fits (ty:=ty) h0 h1 hu hux hd hi ha0 ha1 hn2 (by omega) hn3
           obtain⟨w',g1,g2⟩:=cells_write (P:=P) (o:=o+n*i.size) hR hm hρ hn1 (by rw[hlen];rw[Nat.add_mul] at hbound;omega) hall
           refine⟨.slice (some ⟨b',off+o,none⟩) (n+k) c',w',ρ,?_, .slice hρ hcc hfit,g2,λ_ _ _ h=>h⟩
           rw[hf]
           simp only[addr_add ⟨b',off+o,none⟩ rfl]
           simp only[Nat.add_assoc] at g1⊢
           rw[g1]
           rfl
          ·cases h
         ·cases h
        ·cases h
       ·rename_i hfit
        split at h
        ·cases h
        ·rename_i hbnd
         simp only[not_or,Classical.not_not] at hbnd
         obtain⟨hs0,hb40,hn40⟩:=hbnd
         split at h
         ·cases h
         ·rename_i z hz
          split at h
          ·cases h
          ·rename_i hzc
           simp only[not_or,Classical.not_not] at hzc
           have grow:∀{base':Option Addr} {c':Nat} {old old':List Value} {mk:Mem} {cg:Cells},cg.list=old++new->args[0]? =some (.slice base' n c')->c'<n+k->LRel σ ρ old old'->old.length=n*i.size->
             (Builtin.firstCells i.size n (.slice base' n c')).run P w.drew= .ok old'.toArray w.drew->Post σ ρ m w ρ mk w->mk.next=m.next->
             AppPost σ P ρ m w id at_ ty args (.slice (some ⟨id,0,none⟩) (n+k) (n+k)) (mk.put id (.cells cg true i.size)):=by
            intro base' c' old old' mk cg hcg hb hc' ho hol hfo hmk hnext
            have hg:=app_grows (ty:=ty) h0 h1 hu hux hd hi hz hb ha1 hn2 hc' hb40 hn40 hfo hn3'
            have hcap:=grownCap_le w (n+k) c' e
            generalize grownCap w (n+k) c' e=cap at hg hcap
            have hlr:LRel σ ρ (old++new) (old'++new2):=ho.append hn1'
            refine⟨_,_,upd ρ id (w.drew.heap.size,0,cap-(n+k)),hg,?_,?_,old_upd⟩
            ·have:=VRel.slice (σ:=σ) (o:=0) (upd_same ρ id (w.drew.heap.size,0,cap-(n+k))) (c:=n+k) (c':=cap) (.inr (by omega)) (lR' _)
             simpa using this
            ·have hmk':Rel σ ρ mk w.drew:=hmk.rel.drew
             have hpm:=Post.make (co:= .cells (old'.toArray++new2.toArray++Builtin.zeroCells z.cells (cap-(n+k))) e) (ob:= .cells cg true i.size) (x:=(w.drew.heap.size,0,cap-(n+k))) hmk' hid (by rw[hnext];exact hlt) rfl ?_
             ·refine(hmk.trans ⟨hmk',Ext.refl ρ,lR' _,lR' _,rfl,rfl,rfl,λ_ _ _=>rfl,λb o x hb hx _=>⟨b,o,x,hb,hx,rfl,λh=>h⟩⟩).trans hpm
             ·show CellsRel _ _ _ _ cg.list true i.size
              rw[hcg]
              refine⟨old'.toArray++new2.toArray++Builtin.zeroCells z.cells (cap-(n+k)),e,(0,0),Array.getElem?_push_size,?_,⟨λ_=>rfl,λ_=>rfl⟩,λj hj=>?_⟩
              ·have hl:=hlr.1
               simp only[aL] at hl⊢
               have hzl:(Builtin.zeroCells z.cells (cap-(n+k))).size=(cap-(n+k))*i.size:=by simp[Builtin.zeroCells,hzc.2]
               simp only[Array.size_append,hzl,List.size_toArray]
               omega
              ·have hj2:j<(old'++new2).length:=by rw[<-hlr.1];exact hj
               rw[getD_toList]
               simp only[Array.toList_append,Nat.zero_add]
               rw[gD' (l:=old'++new2++_),aB' hj2,<-gD']
               exact(hlr.2 j hj).mono (upd_ext hid _)
           split at h
           ·split at h
            ·rename_i hn0
             simp only[sI,pI] at h
             obtain⟨rfl,rfl⟩:=h
             subst hn0
             cases hs with
             |nilSlice=>
              have:=grow (old:=[]) (old':=[]) (mk:=m) (cg:= .ofList new) (Cells.ofList_list _) ha0 (by omega) (LRel.nil ρ) (by simp) (by simp[Builtin.firstCells]) (Post.refl hR) rfl
              simpa using this
            ·cases h
           ·rename_i b o
            obtain⟨b',off,sl,c',hρ,rfl,hcc,hnc⟩:=hs.slice_inv
            split at h
            ·rename_i cs sz hm
             split at h
             ·rename_i hfr
              obtain⟨hnc2,hend,hsz⟩:=hfr
              simp only[sI,pI] at h
              obtain⟨rfl,rfl⟩:=h
              subst hsz
              by_cases hin:n+k<=c'
              ·
               have hf:=app_fits (ty:=ty) h0 h1 hu hux hd hi ha0 ha1 hn2 hin hn3
               obtain⟨ca,t,fz,q1,q2,q3,q4⟩:=(hR.obj b _ _ hm hρ:CellsRel σ ρ w (b',off,sl) cs.list true i.size)
               have hcl:=cs.list_length
               rw[q3.1 rfl] at q1
               simp only at q1 q2 q4
               have hksl:k*i.size<=sl*i.size:=Nat.mul_le_mul_right _ (by omega)
               have hall':=all_rel hn1 hall
               have hl1:=hn1.1
               obtain⟨w',ca',g1,g2,g3⟩:=storeCells_run (P:=P) (off:=off+o+n*i.size) new' 0 w ca q1 (by omega) hall'
               rw[Nat.add_zero] at g3
               have hca:ca'.size=ca.size:=by
                rw[<-Array.length_toList,g3]
                simp[splice]
                omega
               refine⟨.slice (some ⟨b',off+o,none⟩) (n+k) c',w',upd ρ id (b',off+o,sl-k),?_,?_,Post.take (y:=(b',off+o,sl-k)) hR hm hρ rfl hid hlt rfl g2 (show CellsRel σ (upd ρ id (b',off+o,sl-k)) w' (b',off+o,sl-k) (cs.more o new).list true i.size from(Cells.more_list cs o new).symm▸⟨ca',t,(0,0),g2.at_,?_,⟨λ_=>rfl,λe=>absurd e (by omega)⟩,λj hj=>?_⟩),old_upd⟩
               ·rw[hf]
                simp only[addr_add ⟨b',off+o,none⟩ rfl]
                rw[g1]
                rfl
               ·have:=VRel.slice (σ:=σ) (o:=0) (upd_same ρ id (b',off+o,sl-k)) (c:=n+k) (c':=c') (.inr (by omega)) (lR' _)
                simpa using this
               ·have e1:(sl-k)*i.size=sl*i.size-k*i.size:=Nat.sub_mul _ _ _
                simp only[aL,List.length_drop]
                omega
               ·simp only[aL,List.length_drop] at hj
                have hcs:ca.toList.length=ca.size:=by simp
                rw[getD_toList,g3]
                simp only
                unfold splice
                rw[gD' (l:=_++_++_),three (n:=off+o+n*i.size) (by rw[List.length_take];omega)]
                by_cases c1:j<n*i.size
                ·rw[if_pos (by omega),List.getElem?_take_of_lt (by omega)]
                 rw[gD',aB' (by simp;omega),List.getElem?_drop]
                 have:=q4 (o+j) (by omega)
                 rw[getD_toList,gD',gD'] at this
                 rw[show off+o+j=off+(o+j) from by omega]
                 exact this.mono (upd_ext hid _)
                ·rw[if_neg (by omega),if_pos (by omega)]
                 rw[gD',aC' (by simp;omega)]
                 have:=hn1.at_ (j-n*i.size)
                 rw[gD',gD'] at this
                 rw[show j-(cs.list.drop o).length=j-n*i.size from by rw[List.length_drop];omega,show off+o+j-(off+o+n*i.size)=j-n*i.size from by omega]
                 exact this.mono (upd_ext hid _)
              ·obtain⟨cs',hl,hcell⟩:=(hR.obj b _ _ hm hρ:CellsRel σ ρ w (b',off,sl) cs.list true i.size).list
               have hcl:=cs.list_length
               have hlo:=hl.drop o
               refine grow (old':=cs'.drop o) (mk:=m.kill b) (Cells.more_list cs o new) ha0 (by omega) hlo (by rw[List.length_drop];omega) ?_ (Post.kill hR b) rfl
               have hrun:=loadCells_run (P:=P) (a:=⟨b',off+o,none⟩) (w:=w.drew) (cs'.drop o) 0 #[] (λj v hj=>by
                rw[addr_add _ rfl]
                rw[List.getElem?_drop] at hj
                have:=hcell (o+j) v hj
                simpa [Nat.add_assoc] using this)
               have hlen2:(cs'.drop o).length=n*i.size:=by rw[<-hlo.1,List.length_drop];omega
               rw[hlen2] at hrun
               simpa [Builtin.firstCells,loadCells] using hrun
             ·cases h
            ·cases h
           ·cases h
  ·cases h
 ·cases h
end
end Go.Ab
