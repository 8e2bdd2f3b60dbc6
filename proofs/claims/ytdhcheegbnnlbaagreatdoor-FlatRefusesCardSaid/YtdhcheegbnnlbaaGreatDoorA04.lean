/- Part. -/
import Derived.Test.YtdhcheegbnnlbaaGreatDoorA03
import Derived.RangeFuncCalls
set_option linter.all false
open List renaming getD_eq_getElem?_getD → gD', getElem?_eq_getElem → gE', length_append → aL, getElem?_append_left → aB', getElem?_map → gM'
open Option.some renaming injEq → sI
open Prod.mk renaming injEq → pI
open Nat renaming le_refl → lR'
open Option renaming map_eq_some_iff → mE
open Bool renaming and_eq_true → bT, false_eq_true → bF
namespace Go.Ab
section
variable{σ:Sig}{P:Program}{ρ:Rho}{r r':Operand->Value}
theorem copy_sound{at_:Array TypeId}{ty:TypeId}{args:Array Value}{s s' x x' v:Value}{m m':Mem}{w:World}(hR:Rel σ ρ m w)(hs:VRel σ ρ s s')(hx:VRel σ ρ x x')
  (ha0:args[0]? =some s') (ha1:args[1]? =some x') (h:copyA P at_ s x m=some (v,m')):∃w',(Builtin.copy_ at_ ty args).run P w= .ok v w'∧VRel σ ρ v v∧Post σ ρ m w ρ m' w':=by
 unfold copyA at h
 split at h
 ·rename_i td hat
  split at h
  ·rename_i e base n c a k ck hu
   split at h
   ·rename_i sz hsz
    simp only at h
    have hsv:∃base' c',s'= .slice base' n c':=by cases hs<;>exact⟨_,_,rfl⟩
    have hxv:∃a' ck',x'= .slice a' k ck':=by cases hx<;>exact⟨_,_,rfl⟩
    obtain⟨a',ck',rfl⟩:=hxv
    split at h
    ·rename_i hq
     simp only[sI,pI] at h
     obtain⟨rfl,rfl⟩:=h
     obtain⟨base',c',rfl⟩:=hsv
     refine⟨w,?_, .int _ _,Post.refl hR⟩
     have hfc:∀w,(Builtin.firstCells sz 0 (.slice a' k ck')).run P w= .ok #[] w:=λw=>by
      cases a'<;>simp[Builtin.firstCells,loadCells,loadCellsFrom]
     have hl:∀w,(Builtin.lenOf (.slice a' k ck')).run P w= .ok k w:=λw=>rfl
     cases base'<;>simp[Builtin.copy_,hat,ha0,ha1,und_run hu,sz_run hsz,hl,hq,hfc,storeCells,goInt]
    ·rename_i hq
     have hqk:Nat.min k n<=k:=Nat.min_le_left _ _
     have hx2:VRel σ ρ (.slice a (Nat.min k n) ck) (.slice a' (Nat.min k n) ck'):=by
      cases hx with
      |nilSlice=>exact absurd (Nat.eq_zero_of_le_zero hqk) hq
      |slice hρ hc hn=>exact .slice hρ hc (by omega)
      |lost=>exact absurd (Nat.eq_zero_of_le_zero hqk) hq
     split at h
     ·rename_i new k2 hsrc
      obtain⟨new',hn1,_,hn3,_⟩:=src_sound (P:=P) hR hx2 hsrc
      have hk2:k2=Nat.min k n:=by
       unfold srcA at hsrc
       split at hsrc
       ·rename_i e0
        injection e0 with _ e1 _
        exact absurd e1 hq
       ·rename_i e0
        injection e0 with _ e1 _
        subst e1
        split at hsrc
        ·simp only[mE,pI] at hsrc
         obtain⟨_,_,_,rfl⟩:=hsrc
         rfl
        ·cases hsrc
       ·rename_i e0
        injection e0 with _ e1 _
        exact absurd e1 hq
       ·rename_i e0;cases e0
       ·cases hsrc
      subst hk2
      split at h
      ·rename_i b o
       obtain⟨b',off,sl,c',hρ,rfl,_,_⟩:=hs.slice_inv
       split at h
       ·rename_i cs s2 hm
        split at h
        ·rename_i hb
         obtain⟨hb1,hb2,hb3⟩:=hb
         simp only[sI,pI] at h
         obtain⟨rfl,rfl⟩:=h
         obtain⟨w',g1,g2⟩:=cells_write (P:=P) (o:=o) hR hm hρ hn1 (by omega) hb2
         refine⟨w',?_, .int _ _,g2⟩
         have hfc:(Builtin.firstCells sz (Nat.min k n) (.slice a' k ck')).run P w= .ok new'.toArray w:=by
          rw[<-hn3]
          cases a'<;>rfl
         have hl:∀w,(Builtin.lenOf (.slice a' k ck')).run P w= .ok k w:=λw=>rfl
         simp only at g1
         simp[Builtin.copy_,hat,ha0,ha1,und_run hu,sz_run hsz,hl,hfc,g1,goInt]
        ·cases h
       ·cases h
      ·cases h
     ·cases h
   ·cases h
  ·cases h
 ·cases h
theorem clear_sound{at_:Array TypeId}{ty:TypeId}{args:Array Value}{x x':Value}{m m':Mem}{w:World}(hR:Rel σ ρ m w)(hx:VRel σ ρ x x')(ha:args[0]? =some x')(h:clearA P at_ x m=some m'):
  ∃w',(Builtin.clear_ at_ ty args).run P w= .ok (.tuple #[]) w'∧Post σ ρ m w ρ m' w':=by
 unfold clearA at h
 split at h
 ·rename_i t hat
  split at h
  ·rename_i hu
   cases hx
   cases h
   exact⟨w,by simp[Builtin.clear_,hat,ha,und_run hu],Post.refl hR⟩
  ·rename_i e n c hu
   have:∃n' c',x'= .slice none n' c':=by cases hx;exact⟨_,_,rfl⟩
   obtain⟨n',c',rfl⟩:=this
   cases h
   exact⟨w,by simp[Builtin.clear_,hat,ha,und_run hu],Post.refl hR⟩
  ·rename_i e b o n c hu
   obtain⟨b',off,sl,c',hρ,rfl,_,_⟩:=hx.slice_inv
   split at h
   ·rename_i hn
    subst hn
    cases h
    exact⟨w,by simp[Builtin.clear_,hat,ha,und_run hu],Post.refl hR⟩
   ·rename_i hn
    split at h
    ·rename_i z cs sz hz hm
     split at h
     ·rename_i hb
      obtain⟨hb1,hb2,hb3,hb4⟩:=hb
      cases h
      have hzr:=zeros_rel (σ:=σ) (ρ:=ρ) (n:=n*z.cells.size) hb1 rfl hb2
      have hlen:(zeros z.cells.toList (n*z.cells.size)).length=n*z.cells.size:=by simp[zeros,Cells.zeros1]
      obtain⟨w',g1,g2⟩:=cells_write (P:=P) (o:=o) hR hm hρ hzr (by omega) hb4
      refine⟨w',?_,g2⟩
      simp only at g1
      have hn':∃k,n=k+1:=⟨n-1,by omega⟩
      obtain⟨k,rfl⟩:=hn'
      simp[Builtin.clear_,hat,ha,und_run hu,zero_run hz,Builtin.zeroCells] at g1⊢
      rw[g1]
      rfl
     ·cases h
    ·cases h
  ·rename_i b hu
   split at h
   ·rename_i es hm
    cases h
    cases hx with
    |map hρ=>
     rename_i b' off sl
     obtain⟨es',clock,h1,_,_⟩:=hR.obj b _ _ hm hρ
     refine⟨w.putObj b' (.map #[] clock),?_,Post.turn hR hm hρ rfl (putObj_turned h1) ⟨#[],clock,(putObj_turned h1).at_,MapKept.stamped_empty clock,rfl,λi e he=>by simp at he⟩⟩
     simp[Builtin.clear_,hat,ha,und_run hu,getObj,setObj,Sem.run,h1,World.putObj,Result.andThen]
   ·cases h
  ·cases h
 ·cases h
theorem callFunc_run{f:FuncId}{args:Array Value}{w:World}(h:callable P f=true):(callFunc f args).run P w= .ok (.enter f args) w:=by
 unfold callable at h
 cases hf:P.funcs[f]? with
 |none=>rw[hf] at h;simp at h
 |some fn=>
  rw[hf] at h
  simp only[bT,bne_iff_ne,ne_eq] at h
  obtain⟨h1,h2⟩:=h
  cases hb:fn.body with
  |none=>rw[hb] at h1;simp at h1
  |some c=>simp[callFunc,hf,h2,hb]
theorem method_run{t:TypeId}{v:Value}{name:String}{f:FuncId}{n:Nat}{w:World}(h:methodA P t name=some f):(method (n+1) t v name).run P w= .ok (f,v) w:=by
 unfold methodA at h
 split at h
 ·rename_i i hi
  split at h
  ·rename_i m hm
   split at h
   ·rename_i hp
    have hpath:m.path.toList=[]:=List.isEmpty_iff.1 hp
    split at h
    ·rename_i g e hf hu
     simp only[sI] at h
     subst h
     simp[method,info_run hi,hm,hpath,follow,hf,receiverAt,und_run hu,Place.get]
    ·cases h
    ·rename_i g d hne hf hu
     simp only[sI] at h
     subst h
     simp[method,info_run hi,hm,hpath,follow,hf,receiverAt,und_run hu,Place.get]
    ·cases h
   ·cases h
  ·cases h
 ·cases h
def EffPost(σ:Sig)(P:Program)(ρ:Rho)(m:Mem)(w:World)(o':Oper)(r':Operand->Value)(id:Nat)(m':Mem):Req->Prop
 | .val v=>GivesM σ P ρ m w o' r' id v m'
 | .call f args=>m'=m∧callable P f=true∧∃args':Array Value,LRel σ ρ args args'.toList∧(execOp r' o').run P w= .ok (.enter f args') w
 | .round l args=>m'=m∧∃(l' off sl:Nat) (args':Array Value),ρ l=some (l',off,sl)∧LRel σ ρ args args'.toList∧(execOp r' o').run P w=(Instr.yield l' args').run P w
theorem resolve_builtin2{o':Oper}{c:Call}{b:Builtin}{s:Sem Value}{v:Value}{w w':World}(ho:o'.op= .call c)(hc:c.callee= .builtin b)
  (hb:∀cs,builtin b c.argTypes o'.type cs (c.args.map r')=(do pure (.value (<-s)))) (hs:s.run P w= .ok v w'):(execOp r' o').run P w= .ok (.value v) w':=by
 simp[execOp,ho,resolve,hc,invoke,hb,hs]
theorem eff_sound{o:SOp}{o':Oper}{q:Req}{m m':Mem}{w:World}{id:Nat}(h1:o'.op=o.op)(hr:∀x∈o.op.operands.toList,VRel σ ρ (r x) (r' x))(hR:Rel σ ρ m w)(hid:ρ id=none)(hlt:id<m.next)
  (h:effA P id o r m=some (q,m')):EffPost σ P ρ m w o' r' id m' q:=by
 rw[<-h1] at hr
 have map_case:∀{t:TypeId} {mp k x:Operand},(o'.op= .mapUpdate t mp k x∨o'.op= .insert t mp k x)->((mapSetA P t (r mp) (r k) (r x) m).map λm'=>(Req.val undef,m'))=some (q,m')->EffPost σ P ρ m w o' r' id m' q:=by
  intro t mp k x ho h
  simp only[mE,pI] at h
  obtain⟨m2,hm,rfl,rfl⟩:=h
  have hmem:VRel σ ρ (r mp) (r' mp)∧VRel σ ρ (r k) (r' k)∧VRel σ ρ (r x) (r' x):=by
   rcases ho with ho|ho<;>rw[ho] at hr<;>exact⟨hr mp (by simp[Op.operands]),hr k (by simp[Op.operands]),hr x (by simp[Op.operands])⟩
  obtain⟨w',g1,g2⟩:=mapSet_sound (P:=P) hR hmem.1 hmem.2.1 hmem.2.2 hm
  exact⟨.skip,undef,w',ρ,by rcases ho with ho|ho<;>simp[execOp,ho,g1], .inr ⟨rfl,rfl⟩,VRel.undef ρ,g2,λ_ _ _ h=>h⟩
 cases hop:o.op with
 |store t a x=>
  rw[hop] at h1
  simp only[effA,hop,mE,pI] at h
  obtain⟨m2,hm,rfl,rfl⟩:=h
  obtain⟨w',g1,g2⟩:=store_sound (P:=P) hR (hr a (by simp[h1,Op.operands])) (hr x (by simp[h1,Op.operands])) hm
  exact⟨.skip,undef,w',ρ,by simp[execOp,h1,g1], .inr ⟨rfl,rfl⟩,VRel.undef ρ,g2,λ_ _ _ h=>h⟩
 |mapUpdate t mp k x=>exact map_case (.inl (h1.trans hop)) (by simp only[effA,hop] at h;exact h)
 |insert t mp k x=>exact map_case (.inr (h1.trans hop)) (by simp only[effA,hop] at h;exact h)
 |next it isS=>
  rw[hop] at h1
  simp only[effA,hop] at h
  split at h
  ·rename_i hS
   subst hS
   simp only[mE,pI] at h
   obtain⟨⟨v,m2⟩,hn,rfl,rfl⟩:=h
   have hi:=hr it (by simp[h1,Op.operands])
   unfold nextA at hn
   split at hn
   ·rename_i b hit
    rw[hit] at hi
    obtain⟨b',off,sl,hρ,hp⟩:=hi.ptr_inv
    split at hn
    ·rename_i s pos hm
     obtain⟨g0,g1⟩:=(hR.obj b _ _ hm hρ:ORel σ ρ w (b',off,sl) (.strIter s pos))
     simp only at g0 g1
     subst g1
     have hget:(getObj b').run P w= .ok (.stringIter s pos) w:=by simp[getObj,Sem.run,g0]
     have hset:∀o',(setObj b' o').run P w= .ok () (w.putObj b' o'):=λo'=>by simp[setObj,Sem.run,g0,World.putObj]
     split at hn
     ·rename_i hlt2
      simp only[sI,pI] at hn
      obtain⟨rfl,rfl⟩:=hn
      have ht:=putObj_turned (o':= .stringIter s (pos+(Utf8.decode s pos).2)) g0
      refine⟨_, .tuple #[.bool true, .int .i64 pos, .int .i32 (Utf8.decode s pos).1],_,ρ,?_, .inl rfl,LRel.tuple (LRel.cons (.bool _) (LRel.cons (.int _ _) (LRel.cons (.int _ _) (LRel.nil ρ)))),Post.turn hR hm hρ rfl ht ⟨ht.at_,rfl⟩,λ_ _ _ h=>h⟩
      simp[execOp,h1,Instr.next,hp,hget,hlt2,hset,goInt]
     ·rename_i hlt2
      simp only[sI,pI] at hn
      obtain⟨rfl,rfl⟩:=hn
      refine⟨_, .tuple #[.bool false],w,ρ,?_, .inl rfl,LRel.tuple (LRel.cons (.bool _) (LRel.nil ρ)),Post.refl hR,λ_ _ _ h=>h⟩
      simp[execOp,h1,Instr.next,hp,hget,hlt2]
    ·cases hn
   ·cases hn
  ·cases h
 |call c=>
  rw[hop] at h1
  rw[h1] at hr
  simp only[effA,hop] at h
  have harg:∀(j:Nat) x,c.args[j]? =some x->VRel σ ρ (r x) (r' x)∧(c.args.map r')[j]? =some (r' x):=λj x hx=>by
   have:c.args.toList[j]? =some x:=by simpa using hx
   exact⟨hr x (by simp only[Op.operands,Call.operands,Array.toList_append,List.mem_append];exact .inr (List.mem_of_getElem? this)),by simp[hx]⟩
  split at h
  ·rename_i hc
   split at h
   ·rename_i s x hs hx
    simp only[mE,pI] at h
    obtain⟨⟨v,m2⟩,hm,rfl,rfl⟩:=h
    obtain⟨v',w',ρ',g1,g2,g3,g4⟩:=append_sound (P:=P) (ty:=o'.type) hR (harg 0 s hs).1 (harg 1 x hx).1 hid hlt (harg 0 s hs).2 (harg 1 x hx).2 hm
    exact⟨_,v',w',ρ',resolve_builtin2 h1 hc (λcs=>rfl) g1, .inl rfl,g2,g3,g4⟩
   ·cases h
  ·rename_i hc
   split at h
   ·rename_i s x hs hx
    simp only[mE,pI] at h
    obtain⟨⟨v,m2⟩,hm,rfl,rfl⟩:=h
    obtain⟨w',g1,g2,g3⟩:=copy_sound (P:=P) (ty:=o'.type) hR (harg 0 s hs).1 (harg 1 x hx).1 (harg 0 s hs).2 (harg 1 x hx).2 hm
    exact⟨_,v,w',ρ,resolve_builtin2 h1 hc (λcs=>rfl) g1, .inl rfl,g2,g3,λ_ _ _ h=>h⟩
   ·cases h
  ·rename_i hc
   split at h
   ·rename_i x hx
    simp only[mE,pI] at h
    obtain⟨m2,hm,rfl,rfl⟩:=h
    obtain⟨w',g1,g2⟩:=clear_sound (P:=P) (ty:=o'.type) hR (harg 0 x hx).1 (harg 0 x hx).2 hm
    exact⟨_, .tuple #[],w',ρ,resolve_builtin2 h1 hc (λcs=>rfl) g1, .inl rfl,VRel.undef ρ,g2,λ_ _ _ h=>h⟩
   ·cases h
  ·rename_i hc
   split at h
   ·rename_i s x hs hx
    simp only[mE,pI] at h
    obtain⟨m2,hm,rfl,rfl⟩:=h
    obtain⟨w',g1,g2⟩:=delete_sound (P:=P) (ty:=o'.type) hR (harg 0 s hs).1 (harg 1 x hx).1 (harg 0 s hs).2 (harg 1 x hx).2 hm
    exact⟨_, .tuple #[],w',ρ,resolve_builtin2 h1 hc (λcs=>rfl) g1, .inl rfl,VRel.undef ρ,g2,λ_ _ _ h=>h⟩
   ·cases h
  ·rename_i f hc
   have hf:=hr f (by simp[Op.operands,Call.operands,hc])
   have hargs:=map_rel (r:=r) (r':=r') (xs:=c.args) λx hx=>hr x (by simp only[Op.operands,Call.operands,Array.toList_append,List.mem_append];exact .inr hx)
   split at h
   ·rename_i g fs cp hrf
    split at h
    ·rename_i hcall
     simp only[sI,pI] at h
     obtain⟨rfl,rfl⟩:=h
     rw[hrf] at hf
     generalize hff:r' f=ff at hf
     cases hf with
     |func hy hm k1 k2 k3 k4=>
      rename_i fs' cp'
      refine⟨rfl,hcall,fs'++c.args.map r'++cp',?_,?_⟩
      ·simp only[Array.toList_append]
       exact((lrel_of k1 k2).append hargs).append (lrel_of k3 k4)
      ·simp[execOp,h1,resolve,hc,hff,Deferred.ofValue,invoke,callFunc_run hcall]
    ·split at h
     ·rename_i v hx
      simp only[sI,pI] at h
      obtain⟨rfl,rfl⟩:=h
      unfold externA at hx
      split at hx
      ·rename_i hpl
       split at hx
       ·rename_i u hrun
        split at hx
        ·rename_i hpv
         simp only[sI] at hx
         subst hx
         rw[hrf] at hf
         generalize hff:r' f=ff at hf
         cases hf with
         |func hy hm k1 k2 k3 k4=>
          rename_i fs' cp'
          have hall:LRel σ ρ (fs.toList++(c.args.map r).toList++cp.toList) (fs'++c.args.map r'++cp').toList:=by
           simp only[Array.toList_append]
           exact((lrel_of k1 k2).append hargs).append (lrel_of k3 k4)
          have heq:fs.toList++(c.args.map r).toList++cp.toList=(fs'++c.args.map r'++cp').toList:=list_ext_getD hall.1 λi hi=>plain_eq (all_getD hpl hi) (hall.2 i hi)
          rw[heq] at hrun
          have hrun2:=runP_run _ hrun w
          rw[Array.toArray_toList,Array.append_assoc] at hrun2
          exact⟨_,u,w,ρ,by simp[execOp,h1,resolve,hc,hff,Deferred.ofValue,invoke,hrun2], .inl rfl,plain_refl ρ hpv,Post.refl hR,λ_ _ _ h=>h⟩
        ·cases hx
       ·cases hx
      ·cases hx
     ·cases h
   ·rename_i l fs cp hrf
    simp only[sI,pI] at h
    obtain⟨rfl,rfl⟩:=h
    rw[hrf] at hf
    generalize hff:r' f=ff at hf
    cases hf with
    |func hy=>exact absurd rfl (hy l)
    |yield hρ=>
     refine⟨rfl,_,_,_,c.args.map r',hρ,by simpa using hargs,?_⟩
     simp[execOp,h1,resolve,hc,hff,Deferred.ofValue,invoke]
   ·cases h
  ·rename_i x name hc
   have hx:=hr x (by simp[Op.operands,Call.operands,hc])
   have hargs:=map_rel (r:=r) (r':=r') (xs:=c.args) λx hx=>hr x (by simp only[Op.operands,Call.operands,Array.toList_append,List.mem_append];exact .inr hx)
   split at h
   ·rename_i t v hrx
    split at h
    ·rename_i f hm
     split at h
     ·rename_i hcall
      simp only[sI,pI] at h
      obtain⟨rfl,rfl⟩:=h
      rw[hrx] at hx
      generalize hff:r' x=ff at hx
      cases hx with
      |iface _ hv=>
       rename_i v'
       refine⟨rfl,hcall,#[v']++c.args.map r',?_,?_⟩
       ·simp only[Array.toList_append]
        exact LRel.cons hv hargs
       ·have hmr:∀n,(method (n+1) t v' name).run P w= .ok (f,v') w:=λn=>method_run hm
        obtain⟨n,hn⟩:∃n,P.types.size+Made.depth=n+1:=⟨P.types.size+Made.depth-1,by unfold Made.depth;omega⟩
        have e0:(#[Value.iface t v']++c.args.map r')[0]? =some (.iface t v'):=by simp[Array.getElem?_append]
        have e1:(c.args.map r').extract 0 c.args.size=c.args.map r':=by simp
        simp[execOp,h1,resolve,hc,hff,invoke,callMethod,e0,e1,hn,hmr,callFunc_run hcall]
     ·cases h
    ·cases h
   ·cases h
  ·cases h
 |_=>simp[effA,hop] at h
end
section
variable{σ:Sig}
variable{P:Program}
abbrev Fr(l:Option Nat):Fence:={Fence.wide with round:=l}
def Ret(σ:Sig)(ρ:Rho)(m:Mem)(w:World)(v:Value)(m':Mem)(e:Ending)(w':World):Prop:=
 ∃v' ρ',e= .returned v'∧VRel σ ρ' v v'∧Post σ ρ m w ρ' m' w'∧Old m.next ρ ρ'
def CallOk(σ:Sig)(P:Program)(f:FuncId)(args:List Value)(m:Mem)(v:Value)(m':Mem):Prop:=
 ∀ρ w (args':Array Value),Rel σ ρ m w->LRel σ ρ args args'.toList->CallsIn Fence.wide 0 P f args' w (Ret σ ρ m w v m')
def RoundOk(σ:Sig)(P:Program)(l:Nat)(args:List Value)(m:Mem)(v:Value)(m':Mem):Prop:=
 ∀ρ w (args':Array Value) l' off sl,Rel σ ρ m w->ρ l=some (l',off,sl)->LRel σ ρ args args'.toList->
  ∃fn tmps asg bd,(Instr.yield l' args').run P w= .ok (.round l' fn tmps asg bd) w∧RoundIn Fence.wide 0 P l' fn tmps asg bd w (Ret σ ρ m w v m')
def Marks(lo:Nat)(w:World):List Deferred->Prop
 |[]=>True
 |d::ds=>(∃r,d.target= .collected r∧lo<=r∧w.heap[r]? =some (.deferred (some []))∧∀d'∈ds,d'.target≠ .collected r)∧Marks lo w ds
def RdRel(ρ:Rho):Option Nat->Option Nat->Prop
 |none,none=>True
 |some b,some l=>∃off sl,ρ b=some (l,off,sl)
 |_,_=>False
def okX:Exit->Bool
 | .normal| .ret| .exit _| .goto _=>true
 |_=>false
def CPost(σ:Sig)(ρ:Rho)(m:Mem)(w:World)(lo:Nat)(x:Exit)(t:List Value)(m':Mem)(e:Exit)(a:Act)(w':World):Prop:=
 e=x∧okX x=true∧∃ρ',LRel σ ρ' t a.tmps.toList∧Marks lo w' a.defers∧Post σ ρ m w ρ' m' w'∧Old m.next ρ ρ'
def CodeOk(σ:Sig)(P:Program)(rd:Option Nat)(c:SCode)(t:List Value)(m:Mem)(x:Exit)(t':List Value)(m':Mem):Prop:=
 ∀(k:Code) ρ w (a:Act) l lo,comp k=some c->Rel σ ρ m w->LRel σ ρ t a.tmps.toList->Marks lo w a.defers->lo<=w.heap.size->RdRel ρ rd l->
  k.wpIn (Fr l) 0 P (CPost σ ρ m w lo x t' m') a w
structure SelfOk(σ:Sig)(P:Program)(slf:Self):Prop where
 call:∀f args m v m',slf (.call f args) m=some (.val v,m')->CallOk σ P f args m v m'
 round:∀l args m v m',slf (.round l args) m=some (.val v,m')->RoundOk σ P l args m v m'
 code:∀rd c t m x t' m',slf (.code rd c t) m=some (.exit x t',m')->CodeOk σ P rd c t m x t' m'
theorem RdRel.mono{ρ ρ':Rho}(he:Ext ρ ρ'){rd l:Option Nat}(h:RdRel ρ rd l):RdRel ρ' rd l:=by
 cases rd<;>cases l<;>first|exact h|skip
 obtain⟨o,s,h⟩:=h
 exact⟨o,s,he _ _ h⟩
theorem ORel.not_deferred{ρ:Rho}{w:World}{x:Nat×Nat×Nat}{o:AObj}(h:ORel σ ρ w x o){ds:Option (List Deferred)}:w.heap[x.1]?≠some (.deferred ds):=by
 intro e
 cases o with
 |cells cs rw sz=>obtain⟨cs',t,fz,h1,_⟩:=h;rw[h1] at e;cases e
 |map es rw=>obtain⟨es',c,h1,_⟩:=h;rw[h1] at e;cases e
 |strIter s pos=>rw[h.1] at e;cases e
 |loop r=>obtain⟨r',h1,_⟩:=h;rw[h1] at e;cases e
 |frz tag=>obtain⟨C,cs',t,fz,_,h1,_⟩:=h;rw[h1] at e;cases e
theorem Marks.keep{lo:Nat}{w w':World}:∀{ds:List Deferred},Marks lo w ds->(∀r:Nat,w.heap[r]? =some (.deferred (some []))->w'.heap[r]? =some (.deferred (some [])))->Marks lo w' ds
 |[],_,_=>trivial
 |_::_,⟨⟨r,h1,h2,h3,h4⟩,h5⟩,h=>⟨⟨r,h1,h2,h r h3,h4⟩,h5.keep h⟩
theorem Post.deferred{ρ ρ':Rho}{m m':Mem}{w w':World}(hR:Rel σ ρ m w)(h:Post σ ρ m w ρ' m' w'){r:Nat}{ds:Option (List Deferred)}(hr:w.heap[r]? =some (.deferred ds)):w'.heap[r]? =some (.deferred ds):=by
 have hlt:r<w.heap.size:=(Array.getElem?_eq_some_iff.1 hr).1
 rw[h.frame r hlt λb o x hb _ hx he=>(hR.obj b o x hb hx).not_deferred (he▸hr)]
 exact hr
theorem Marks.post{ρ ρ':Rho}{m m':Mem}{w w':World}{lo:Nat}{ds:List Deferred}(h:Marks lo w ds)(hR:Rel σ ρ m w)(hp:Post σ ρ m w ρ' m' w'):Marks lo w' ds:=
 h.keep λ_ hr=>hp.deferred hR hr
theorem Old.refl(n:Nat)(ρ:Rho):Old n ρ ρ:=λ_ _ h=>h
theorem Old.trans{n n':Nat}{ρ ρ1 ρ2:Rho}(h:Old n ρ ρ1)(k:Old n' ρ1 ρ2)(hle:n<=n'):Old n ρ ρ2:=λb hb e=>k b (by omega) (h b hb e)
theorem Old.but{n i:Nat}{ρ ρ':Rho}(h:Old n ρ ρ'):OldBut n i ρ ρ':=λb hb _ e=>h b hb e
theorem Post.bump{ρ:Rho}{m:Mem}{w:World}(h:Rel σ ρ m w)(n:Nat):Post σ ρ m w ρ (m.bump n) w:=
 ⟨h.bump n,Ext.refl ρ,by simp,lR' _,rfl,rfl,rfl,λ_ _ _=>rfl,λb o x hb hx _=>⟨b,o,x,hb,hx,rfl,id⟩⟩
theorem Post.drew{ρ:Rho}{m:Mem}{w:World}(h:Rel σ ρ m w):Post σ ρ m w ρ m w.drew:=
 ⟨h.drew,Ext.refl ρ,lR' _,lR' _,rfl,rfl,rfl,λ_ _ _=>rfl,λb o x hb hx _=>⟨b,o,x,hb,hx,rfl,id⟩⟩
theorem ev_rel{ρ:Rho}{m:Mem}{w:World}(hR:Rel σ ρ m w){t:List Value}{a:Act}(ht:LRel σ ρ t a.tmps.toList){x:Operand}(hx:plainOpd x=true):VRel σ ρ (ev x t) (a.eval x):=by
 cases x with
 |tmp k=>
  show VRel σ ρ (t.getD k undef) (a.tmps.getD k undef)
  rw[getD_toList]
  exact ht.at_ k
 |const v=>exact plain_refl (σ:=σ) ρ hx
 |global g=>
  have hg:=hR.glob g (by simpa [plainOpd] using hx)
  have:=VRel.ptr (σ:=σ) (o:=0) hg
  simpa [ev,Act.eval] using this
 |func f=>exact .func (λl=>by simp) (λn=>by simp) rfl (λi hi=>absurd hi (by simp)) rfl (λi hi=>absurd hi (by simp))
theorem putT_rel{ρ:Rho}{t:List Value}{a:Act}(ht:LRel σ ρ t a.tmps.toList){v v':Value}(hv:VRel σ ρ v v')(d:Option Tmp):LRel σ ρ (putT d v t) (a.put d v').tmps.toList:=by
 cases d with
 |none=>exact ht
 |some k=>
  show LRel σ ρ (t.set k v) (a.tmps.setIfInBounds k v').toList
  rw[Array.toList_setIfInBounds]
  exact ht.set hv k
@[simp] theorem put_defers (a:Act) (d:Option Tmp) (v:Value):(a.put d v).defers=a.defers:=by cases d<;>rfl
structure Strip(ops:Array Oper)(o':Oper)(o:SOp):Prop where
 op:o'.op=o.op
 type:o'.type=o.type
 dst:o'.dst=o.dst
 plain:∀x∈o.op.operands.toList,plainOpd x=true
 guard:(o'.guard=none∧o.guard=none)∨(∃j b t,o'.guard=some (j,b)∧o.guard=some (t,b)∧(ops[j]?).bind (·.dst)=some t)
theorem strip_of{ops:Array Oper}{o':Oper}{o:SOp}(h:stripOp ops o'=some o):Strip ops o' o:=by
 unfold stripOp at h
 split at h
 ·rename_i hp
  have hp':∀x∈o'.op.operands.toList,plainOpd x=true:=List.all_eq_true.1 hp
  split at h
  ·rename_i hg
   simp only[sI] at h
   subst h
   exact⟨rfl,rfl,rfl,hp', .inl ⟨hg,rfl⟩⟩
  ·rename_i j b hg
   split at h
   ·rename_i t ht
    simp only[sI] at h
    subst h
    exact⟨rfl,rfl,rfl,hp', .inr ⟨j,b,t,hg,rfl,ht⟩⟩
   ·cases h
 ·cases h
theorem stripAll_at{ops:Array Oper}:∀{l:List Oper} {sl:List SOp},stripAll ops l=some sl->sl.length=l.length∧∀(i:Nat) (o:Oper),l[i]? =some o->∃s,sl[i]? =some s∧Strip ops o s
 |[],sl,h=>by
  simp only[stripAll,sI] at h
  subst h
  exact⟨rfl,λi o hi=>by simp at hi⟩
 |o::l,sl,h=>by
  simp only[stripAll] at h
  split at h
  ·rename_i x xs h1 h2
   simp only[sI] at h
   subst h
   obtain⟨g1,g2⟩:=stripAll_at h2
   refine⟨by simp[g1],λi o' hi=>?_⟩
   cases i with
   |zero=>
    simp only[List.getElem?_cons_zero,sI] at hi
    subst hi
    exact⟨x,rfl,strip_of h1⟩
   |succ i=>simpa using g2 i o' (by simpa using hi)
  ·cases h
theorem wanted_rel'{ρ:Rho}{t:List Value}{a:Act}{ops:Array Oper}{o':Oper}{o:SOp}(hs:Strip ops o' o)(hok:gOk o.guard t=true)(hg:∀k b,o.guard=some (k,b)->VRel σ ρ (t.getD k undef) (a.tmps.getD k undef)):
  Region.wanted o' (yielded ops a.tmps)=wanted o.guard t:=by
 rcases hs.guard with⟨h1,h2⟩|⟨j,b,k,h1,h2,h3⟩
 ·simp[Region.wanted,h1,h2,wanted]
 ·rw[h2] at hok
  simp only[gOk] at hok
  simp only[Region.wanted,h1,h2,wanted,yielded,h3,Option.bind_some]
  have hk:=hg k b h2
  rw[Array.getD_eq_getD_getElem?] at hk
  generalize hu:t.getD k undef=u at hk hok
  cases hc:a.tmps[k]? with
  |none=>
   rw[hc] at hk
   cases hk<;>first|rfl|(cases hok;done)|simp
  |some c=>
   rw[hc] at hk
   cases hk<;>first|(cases hok;done)|(simp[Option.getD] at*;done)|(simp[Option.getD] at*;simp_all)
theorem wanted_rel{ρ:Rho}{t:List Value}{a:Act}(ht:LRel σ ρ t a.tmps.toList){ops:Array Oper}{o':Oper}{o:SOp}(hs:Strip ops o' o)(hok:gOk o.guard t=true):
  Region.wanted o' (yielded ops a.tmps)=wanted o.guard t:=
 wanted_rel' hs hok λk _ _=>by rw[getD_toList];exact ht.at_ k
theorem cls_gives_sem{l:Option Nat}{o':Oper}{r':Operand->Value}(h:∀c,o'.op≠ .defer c):o'.semAt (Fr l).round r'=execOp r' o':=Oper.semAt_eq _ _ _ h
def SymOk(σ:Sig)(E:Env):Prop:=∀o r v,E.sym o r=some v->∀(o':Oper) (r':Operand->Value) ρ m w,o'.op=o.op->o'.type=o.type->Rel σ ρ m w->(∀x∈o.op.operands.toList,VRel σ ρ (r x) (r' x))->Gives σ E.P ρ o' r' w v
theorem pureE_sound{E:Env}(hE:E.P=P)(hS:SymOk σ E){o':Oper}{o:SOp}(h1:o'.op=o.op)(h2:o'.type=o.type)(hc:cls o.op= .pure){r r':Operand->Value}{ρ:Rho}{m:Mem}{w:World}
  (hr:∀x∈o.op.operands.toList,VRel σ ρ (r x) (r' x)) (hR:Rel σ ρ m w) {v:Value} (h:pureE E o r=some v):Gives σ P ρ o' r' w v:=by
 subst hE
 unfold pureE at h
 split at h
 ·rename_i u hu
  cases h
  exact pure_sound h1 h2 hc hr hu w
 ·exact hS _ _ _ h o' r' ρ m w h1 h2 hR hr
theorem readE_sound{E:Env}(hE:E.P=P)(hS:SymOk σ E){o':Oper}{o:SOp}(h1:o'.op=o.op)(h2:o'.type=o.type){r r':Operand->Value}{ρ:Rho}{m:Mem}{w:World}
  (hr:∀x∈o.op.operands.toList,VRel σ ρ (r x) (r' x)) (hR:Rel σ ρ m w) {v:Value} (h:readE E o r m=some v):Gives σ P ρ o' r' w v:=by
 subst hE
 unfold readE at h
 split at h
 ·rename_i u hu
  cases h
  exact read_sound h1 hr hR hu
 ·exact hS _ _ _ h o' r' ρ m w h1 h2 hR hr
theorem opA_not_defer{E:Env}{self:Self}{id:Nat}{o:SOp}{t:List Value}{m:Mem}{q:Value×Mem}(h:opA E self id o t m=some q):∀c,o.op≠ .defer c:=by
 intro c hc
 simp[opA,cls,hc,effA] at h
theorem op_ok'{E:Env}{self:Self}(hE:E.P=P)(hS:SymOk σ E)(hs:SelfOk σ P self){ops:Array Oper}{o':Oper}{o:SOp}(ho:Strip ops o' o){ρ:Rho}{m m':Mem}{w:World}{a:Act}{t:List Value}{id:Nat}{v:Value}{l:Option Nat}
  (hR:Rel σ ρ m w) (hr:∀x∈o.op.operands.toList,VRel σ ρ (ev x t) (a.eval x)) (hid:ρ id=none) (hlt:id<m.next) (h:opA E self id o t m=some (v,m'))
  {next:Act->World->Prop} {Q:Exit->Act->World->Prop} (hn:∀v' w' ρ',VRel σ ρ' v v'->Post σ ρ m w ρ' m' w'->OldBut m.next id ρ ρ'->next (a.put o'.dst v') w'):o'.wpIn (Fr l) 0 P a w next Q:=by
 have hnd:=opA_not_defer h
 refine⟨λ_ _=>trivial,?_⟩
 rw[cls_gives_sem (by rw[ho.op];exact hnd)]
 have fin:GivesM σ P ρ m w o' a.eval id v m'->o'.uponIn (Fr l) 0 P a next Q ((execOp a.eval o').run P w):=by
  rintro⟨x,v',w',ρ',g1,g2,g3,g4,g5⟩
  rw[g1]
  rcases g2 with rfl|⟨rfl,rfl⟩
  ·exact hn _ _ _ g3 g4 g5
  ·exact hn _ _ _ g3 g4 g5
 have fin0:m'=m->Gives σ P ρ o' a.eval w v->o'.uponIn (Fr l) 0 P a next Q ((execOp a.eval o').run P w):=by
  rintro rfl ⟨v',g1,g2⟩
  exact fin ⟨_,v',w,ρ,g2, .inl rfl,g1,Post.refl hR,λ_ _ _ e=>e⟩
 unfold opA at h
 split at h
 ·rename_i hc
  split at h
  ·rename_i u hu
   simp only[sI,pI] at h
   obtain⟨rfl,rfl⟩:=h
   exact fin0 rfl (pureE_sound hE hS ho.op ho.type hc hr hR hu)
  ·cases h
 ·split at h
  ·rename_i u hu
   simp only[sI,pI] at h
   obtain⟨rfl,rfl⟩:=h
   exact fin0 rfl (readE_sound hE hS ho.op ho.type hr hR hu)
  ·cases h
 ·split at h
  ·rename_i ob mk hu
   simp only[sI,pI] at h
   obtain⟨rfl,rfl⟩:=h
   exact fin (make_sound ho.op hr hR hid hlt (hE▸hu))
  ·cases h
 ·split at h
  ·rename_i u m2 hu
   simp only[sI,pI] at h
   obtain⟨rfl,rfl⟩:=h
   exact fin (eff_sound (P:=P) (q:= .val _) ho.op hr hR hid hlt (hE▸hu))
  ·rename_i f args m2 hu
   obtain⟨rfl,_,args',g2,g3⟩:=eff_sound (P:=P) ho.op hr hR hid hlt (hE▸hu)
   split at h
   ·rename_i u m3 hcall
    simp only[sI,pI] at h
    obtain⟨rfl,rfl⟩:=h
    rw[g3]
    refine⟨λhd=>by simp[Fence.wide] at hd,CallsIn.mono (SelfOk.call hs _ _ _ _ _ hcall ρ w args' hR g2) ?_⟩
    rintro e w' ⟨v',ρ',rfl,k1,k2,k3⟩
    exact hn _ _ _ k1 k2 k3.but
   ·cases h
  ·rename_i l0 args m2 hu
   obtain⟨rfl,l',off,sl,args',g1,g2,g3⟩:=eff_sound (P:=P) ho.op hr hR hid hlt (hE▸hu)
   split at h
   ·rename_i u m3 hcall
    simp only[sI,pI] at h
    obtain⟨rfl,rfl⟩:=h
    obtain⟨fn,tmps,asg,bd,k0,kk⟩:=SelfOk.round hs _ _ _ _ _ hcall ρ w args' l' off sl hR g1 g2
    rw[g3,k0]
    refine⟨λhd=>by simp[Fence.wide] at hd,RoundIn.mono kk ?_⟩
    rintro e w' ⟨v',ρ',rfl,k1,k2,k3⟩
    exact hn _ _ _ k1 k2 k3.but
   ·cases h
  ·cases h
theorem op_ok{E:Env}{self:Self}(hE:E.P=P)(hS:SymOk σ E)(hs:SelfOk σ P self){ops:Array Oper}{o':Oper}{o:SOp}(ho:Strip ops o' o){ρ:Rho}{m m':Mem}{w:World}{a:Act}{t:List Value}{id:Nat}{v:Value}{l:Option Nat}
  (hR:Rel σ ρ m w) (ht:LRel σ ρ t a.tmps.toList) (hid:ρ id=none) (hlt:id<m.next) (h:opA E self id o t m=some (v,m'))
  {next:Act->World->Prop} {Q:Exit->Act->World->Prop} (hn:∀v' w' ρ',VRel σ ρ' v v'->Post σ ρ m w ρ' m' w'->OldBut m.next id ρ ρ'->next (a.put o'.dst v') w'):o'.wpIn (Fr l) 0 P a w next Q:=
 op_ok' hE hS hs ho hR (λx hx=>ev_rel hR ht (ho.plain x hx)) hid hlt h hn
theorem seq_ok{E:Env}{self:Self}(hE:E.P=P)(hS:SymOk σ E)(hs:SelfOk σ P self){ops:Array Oper}{l:Option Nat}{Q:Exit->Act->World->Prop}:∀(sl:List SOp) (i id:Nat),
  (∀j s,sl[j]? =some s->∃o',ops[i+j]? =some o'∧Strip ops o' s)->∀{ρ:Rho} {m m':Mem} {w:World} {a:Act} {t t':List Value},
  Rel σ ρ m w->LRel σ ρ t a.tmps.toList->(∀b,id<=b->b<id+sl.length->ρ b=none)->id+sl.length<=m.next->seqOps E self id sl t m=some (t',m')->
  (∀a' w' ρ',LRel σ ρ' t' a'.tmps.toList->a'.defers=a.defers->Post σ ρ m w ρ' m' w'->(∀b,b<m.next->(b<id∨id+sl.length<=b)->ρ b=none->ρ' b=none)->Q .normal a' w')->
  wpOpsIn (Fr l) 0 P ops Q (List.range' i sl.length) a w
 |[],i,id,hops,ρ,m,m',w,a,t,t',hR,ht,hfree,hnext,h,hQ=>by
  simp only[seqOps,sI,pI] at h
  obtain⟨rfl,rfl⟩:=h
  exact hQ a w ρ ht rfl (Post.refl hR) λ_ _ _ e=>e
 |s::sl,i,id,hops,ρ,m,m',w,a,t,t',hR,ht,hfree,hnext,h,hQ=>by
  simp only[List.length_cons] at hnext hfree hQ
  obtain⟨o',ho,hst⟩:=hops 0 s rfl
  simp only[Nat.add_zero] at ho
  have hops':∀j s',sl[j]? =some s'->∃o',ops[i+1+j]? =some o'∧Strip ops o' s':=λj s' hj=>by
   have:=hops (j+1) s' (by simpa using hj)
   rwa[show i+1+j=i+(j+1) from by omega]
  simp only[seqOps] at h
  simp only[List.length_cons,List.range'_succ]
  simp only[wpOpsIn,ho]
  unfold stepOp at h
  by_cases hgk:gOk s.guard t=false
  ·simp only[hgk,if_true] at h
   cases h
  rw[if_neg hgk] at h
  rw[wanted_rel ht hst (by simpa using hgk)]
  by_cases hw:wanted s.guard t=true
  ·simp only[hw,if_true] at h⊢
   split at h
   ·rename_i t1 m1 h1
    split at h1
    ·rename_i v1 m2 h2
     simp only[sI,pI] at h1
     obtain⟨rfl,rfl⟩:=h1
     refine op_ok hE hS hs hst hR ht (hfree id (lR' _) (by omega)) (by omega) h2 λv' w' ρ' g1 g2 g3=>?_
     have hnn:=g2.next
     refine seq_ok hE hS hs sl (i+1) (id+1) hops' g2.rel (hst.dst▸putT_rel (ht.mono g2.ext) g1 o'.dst) (λb h3 h4=>g3 b (by omega) (by omega) (hfree b (by omega) (by omega))) (by omega) h
      λa' w'' ρ'' k1 k2 k3 k4=>?_
     refine hQ a' w'' ρ'' k1 (k2.trans (put_defers _ _ _)) (g2.trans k3) λb h3 h4 h5=>?_
     exact k4 b (by omega) (by omega) (g3 b h3 (by omega) h5)
    ·cases h1
   ·cases h
  ·have hw':wanted s.guard t=false:=by simpa using hw
   simp only[hw',if_false,bF] at h⊢
   refine⟨λ_ _=>trivial,?_⟩
   refine seq_ok hE hS hs sl (i+1) (id+1) hops' hR (hst.dst▸putT_rel ht (VRel.undef ρ) o'.dst) (λb h3 h4=>hfree b (by omega) (by omega)) (by omega) h
      λa' w'' ρ'' k1 k2 k3 k4=>?_
   exact hQ a' w'' ρ'' k1 (k2.trans (put_defers _ _ _)) k3 λb h3 h4 h5=>k4 b h3 (by omega) h5
theorem reg_ok{E:Env}{self:Self}(hE:E.P=P)(hS:SymOk σ E)(hs:SelfOk σ P self){ops:Array Oper}{n:Nat}{sl:List SOp}(hst:stripAll ops ops.toList=some sl){rd:Option Nat}{l:Option Nat}{lo:Nat}{ρ:Rho}{m m':Mem}{w:World}{a:Act}{t t':List Value}
  (hR:Rel σ ρ m w) (ht:LRel σ ρ t a.tmps.toList) (hm:Marks lo w a.defers) (h:stepCode E self rd (.reg sl) t m=some (.exit .normal t',m')):
  (Code.region n ops false).wpIn (Fr l) 0 P (CPost σ ρ m w lo .normal t' m') a w:=by
 apply wpIn_region
 obtain⟨h1,h2⟩:=stripAll_at hst
 simp only[stepCode] at h
 split at h
 ·rename_i t1 m1 hseq
  simp only[sI,pI,Out.exit.injEq,true_and] at h
  obtain⟨rfl,rfl⟩:=h
  have hlen:ops.size=sl.length:=by simpa using h1.symm
  rw[hlen,List.range_eq_range']
  refine seq_ok hE hS hs sl 0 m.next (λj s hj=>?_) (hR.bump sl.length) ht (λb hb _=>hR.dom b hb) (lR' _) hseq λa' w' ρ' g1 g2 g3 g4=>?_
  ·have hj':j<ops.toList.length:=by have:=(List.getElem?_eq_some_iff.1 hj).1;omega
   obtain⟨s',k1,k2⟩:=h2 j _ (gE' hj')
   rw[hj] at k1
   cases k1
   exact⟨_,by rw[Nat.zero_add,<-Array.getElem?_toList];exact gE' hj',k2⟩
  ·exact⟨rfl,rfl,ρ',g1,g2▸hm.post hR ((Post.bump hR _).trans g3),(Post.bump hR _).trans g3,λb hb e=>g4 b (by simp;omega) (.inl hb) e⟩
 ·cases h
end
section
variable{σ:Sig}
theorem linB_spec{pr:List (List Nat)}:∀{l seen:List Nat},linB pr seen l=true->∀(k i:Nat),l[k]? =some i->∀p∈pr.getD i [],p∈seen∨∃k':Nat,k'<k∧l[k']? =some p
 |[],_,_,k,i,hk,_,_=>by simp at hk
 |x::l,seen,h,k,i,hk,p,hp=>by
  simp only[linB,bT,List.all_eq_true] at h
  cases k with
  |zero=>
   simp only[List.getElem?_cons_zero,sI] at hk
   subst hk
   exact .inl (by simpa using h.1 p hp)
  |succ k=>
   rcases linB_spec h.2 k i (by simpa using hk) p hp with h1|⟨k',h1,h2⟩
   ·rcases List.mem_cons.1 h1 with rfl|h1
    ·exact .inr ⟨0,by omega,rfl⟩
    ·exact .inl h1
   ·exact .inr ⟨k'+1,by omega,by simpa using h2⟩
theorem effB_spec{an:List Nat}{ops:List SOp}:∀{l seen:List Nat},effB an ops seen l=true->∀(k i:Nat),l[k]? =some i->isEff ops i=true->
  (∀c∈seen,(an.getD i 0).testBit c=true)∧∀(k' c:Nat),k'<k->l[k']? =some c->(an.getD i 0).testBit c=true
 |[],_,_,k,i,hk,_=>by simp at hk
 |x::l,seen,h,k,i,hk,he=>by
  simp only[effB,bT] at h
  cases k with
  |zero=>
   simp only[List.getElem?_cons_zero,sI] at hk
   subst hk
   have h1:=h.1
   rw[he] at h1
   simp only[Bool.not_true,Bool.false_or,List.all_eq_true] at h1
   exact⟨h1,λk' c hk'=>by omega⟩
  |succ k=>
   obtain⟨h1,h2⟩:=effB_spec h.2 k i (by simpa using hk) he
   refine⟨λc hc=>h1 c (by simp[hc]),λk' c hk' hc=>?_⟩
   cases k' with
   |zero=>
    simp only[List.getElem?_cons_zero,sI] at hc
    subst hc
    exact h1 _ (by simp)
   |succ k'=>exact h2 k' c (by omega) (by simpa using hc)
theorem readB_spec{an:List Nat}{ops:List SOp}:∀{l:List (Nat×List Nat)} {seen:List Nat},readB an ops seen l=true->∀(k i:Nat) (re:List Nat),l[k]? =some (i,re)->clsAt ops i= .read->
  (∀e∈seen,isEff ops e=true->(an.getD i 0).testBit e=true∨e∈re)∧∀(k' e:Nat) (re':List Nat),k'<k->l[k']? =some (e,re')->isEff ops e=true->(an.getD i 0).testBit e=true∨e∈re
 |[],_,_,k,i,re,hk,_=>by simp at hk
 |(x,rx)::l,seen,h,k,i,re,hk,he=>by
  simp only[readB,bT] at h
  cases k with
  |zero=>
   simp only[List.getElem?_cons_zero,sI,pI] at hk
   obtain⟨rfl,rfl⟩:=hk
   have h1:=h.1
   rw[he] at h1
   simp only[bne_self_eq_false,Bool.false_or,List.all_eq_true,Bool.or_eq_true,Bool.not_eq_true'] at h1
   refine⟨λe hs hE=>?_,λk' c _ hk'=>by omega⟩
   rcases h1 e hs with(h2|h2)|h2
   ·rw[hE] at h2;cases h2
   ·exact .inl h2
   ·exact .inr (by simpa using h2)
  |succ k=>
   obtain⟨h1,h2⟩:=readB_spec h.2 k i re (by simpa using hk) he
   refine⟨λc hc=>h1 c (by simp[hc]),λk' c rc hk' hc=>?_⟩
   cases k' with
   |zero=>
    simp only[List.getElem?_cons_zero,sI,pI] at hc
    obtain⟨rfl,_⟩:=hc
    exact h1 _ (by simp)
   |succ k'=>exact h2 k' c rc (by omega) (by simpa using hc)
theorem nodupB_spec:∀{l:List Nat},nodupB l=true->∀(k k' i:Nat),l[k]? =some i->l[k']? =some i->k=k'
 |[],_,k,k',i,hk,_=>by simp at hk
 |x::l,h,k,k',i,hk,hk'=>by
  simp only[nodupB,bT,Bool.not_eq_true'] at h
  have hx:∀j:Nat,l[j]? =some x->False:=λj hj=>by
   have:l.contains x=true:=by simpa using List.mem_of_getElem? hj
   rw[this] at h
   exact absurd h.1 (by simp)
  cases k with
  |zero=>cases k' with
   |zero=>rfl
   |succ k'=>
    simp only[List.getElem?_cons_zero,sI] at hk
    subst hk
    exact(hx k' (by simpa using hk')).elim
  |succ k=>cases k' with
   |zero=>
    simp only[List.getElem?_cons_zero,sI] at hk'
    subst hk'
    exact(hx k (by simpa using hk)).elim
   |succ k'=>rw[nodupB_spec h.2 k k' i (by simpa using hk) (by simpa using hk')]
theorem ssaB_spec{ops0:List SOp}:∀{l:List SOp},ssaB ops0 l=true->∀(j j':Nat) (o o':SOp) (d:Tmp),j<j'->l[j]? =some o->l[j']? =some o'->o.dst=some d->o'.dst=some d->False
 |[],_,j,_,_,_,_,_,hj,_,_,_=>by simp at hj
 |x::l,h,j,j',o,o',d,hlt,hj,hj',ho,ho'=>by
  simp only[ssaB,bT] at h
  cases j' with
  |zero=>omega
  |succ j'=>
   have hj2:l[j']? =some o':=by simpa using hj'
   cases j with
   |zero=>
    simp only[List.getElem?_cons_zero,sI] at hj
    subst hj
    have h1:=h.1
    rw[ho] at h1
    simp only[Bool.not_eq_true',List.any_eq_false] at h1
    exact h1 o' (List.mem_of_getElem? hj2) (by simp[ho'])
   |succ j=>exact ssaB_spec h.2 j j' o o' d (by omega) (by simpa using hj) hj2 ho ho'
theorem ancOf_bit{acc:List Nat}:∀{ps:List Nat} {j:Nat},(ancOf acc ps).testBit j=true->∃p∈ps,j=p∨(acc.getD p 0).testBit j=true
 |[],j,h=>by simp[ancOf] at h
 |p::ps,j,h=>by
  simp only[ancOf,Nat.testBit_or,Bool.or_eq_true,Nat.testBit_two_pow,decide_eq_true_eq] at h
  rcases h with(h|h)|h
  ·exact⟨p,by simp, .inl h.symm⟩
  ·exact⟨p,by simp, .inr h⟩
  ·obtain⟨q,h1,h2⟩:=ancOf_bit h
   exact⟨q,by simp[h1],h2⟩
theorem ancs_spec:∀(l:List Oper) (acc:List Nat),(∀i:Nat,i<acc.length->(ancs acc l)[i]? =acc[i]?)∧
  ∀(i:Nat) (o:Oper),l[i]? =some o->(ancs acc l)[acc.length+i]? =some (ancOf ((ancs acc l).take (acc.length+i)) (preds o))
 |[],acc=>⟨λ_ _=>rfl,λi o h=>by simp at h⟩
 |x::l,acc=>by
  obtain⟨h1,h2⟩:=ancs_spec l (acc++ [ancOf acc (preds x)])
  simp only[ancs]
  refine⟨λi hi=>?_,λi o hi=>?_⟩
  ·rw[h1 i (by simp;omega),aB' hi]
  ·cases i with
   |zero=>
    simp only[List.getElem?_cons_zero,sI] at hi
    subst hi
    rw[Nat.add_zero,h1 _ (by simp)]
    have:(ancs (acc++ [ancOf acc (preds x)]) l).take acc.length=acc:=by
     apply List.ext_getElem?
     intro j
     rw[List.getElem?_take]
     split
     ·rename_i hj
      rw[h1 j (by simp;omega),aB' hj]
     ·rename_i hj
      rw[List.getElem?_eq_none (by omega)]
    rw[this]
    simp
   |succ i=>
    have:=h2 i o (by simpa using hi)
    simp only[aL,List.length_singleton] at this
    rw[show acc.length+(i+1)=acc.length+1+i from by omega]
    exact this
theorem ancs_length:∀(l:List Oper) (acc:List Nat),(ancs acc l).length=acc.length+l.length
 |[],acc=>rfl
 |x::l,acc=>by simp[ancs,ancs_length l];omega
theorem anc_bit{l:List Oper}{i j:Nat}(h:((ancs [] l).getD i 0).testBit j=true):∃p∈(l.map preds).getD i [],j=p∨(p<i∧((ancs [] l).getD p 0).testBit j=true):=by
 have hlen:(ancs [] l).length=l.length:=by simp[ancs_length]
 by_cases hi:i<l.length
 ·have h2:=(ancs_spec l []).2 i _ (gE' hi)
  simp only[List.length_nil,Nat.zero_add] at h2
  rw[gD',h2] at h
  obtain⟨p,h3,h4⟩:=ancOf_bit h
  refine⟨p,by simpa [gD',hi] using h3,h4.imp id λh5=>?_⟩
  rw[gD',List.getElem?_take] at h5
  split at h5
  ·rename_i hp
   exact⟨hp,by rw[gD'];exact h5⟩
  ·simp at h5
 ·rw[gD',List.getElem?_eq_none (by omega)] at h
  simp at h
def Closed(l:List Oper)(S:Nat->Prop):Prop:=∀i,S i->∀p∈(l.map preds).getD i [],S p
theorem anc_closed{l:List Oper}{S:Nat->Prop}(hS:Closed l S):∀(i j:Nat),(∀p∈(l.map preds).getD i [],S p)->((ancs [] l).getD i 0).testBit j=true->S j:=by
 intro i
 induction i using Nat.strongRecOn with
 |_ i ih=>
  intro j hp h
  obtain⟨p,h1,h2⟩:=anc_bit h
  rcases h2 with rfl|⟨h2,h3⟩
  ·exact hp _ h1
  ·exact ih p h2 j (hS p (hp p h1)) h3
structure Chk(ops:List Oper)(sl:List SOp)(ord:List (Nat×List Nat)):Prop where
 len:sl.length=ops.length
 olen:ord.length=ops.length
 lt:∀(k i:Nat) re,ord[k]? =some (i,re)->i<ops.length
 all:∀i,i<ops.length->∃(k:Nat) (re:List Nat),ord[k]? =some (i,re)
 uniq:∀(k k' i:Nat) re re',ord[k]? =some (i,re)->ord[k']? =some (i,re')->k=k'
 lin:∀(k i:Nat) re,ord[k]? =some (i,re)->∀p∈(ops.map preds).getD i [],∃(k':Nat) (re':List Nat),k'<k∧ord[k']? =some (p,re')
 eff:∀(k i:Nat) re (k' c:Nat) re',ord[k]? =some (i,re)->isEff sl i=true->k'<k->ord[k']? =some (c,re')->((ancs [] ops).getD i 0).testBit c=true
 read:∀(k i:Nat) re (k' e:Nat) re',ord[k]? =some (i,re)->clsAt sl i= .read->k'<k->ord[k']? =some (e,re')->isEff sl e=true->((ancs [] ops).getD i 0).testBit e=true∨e∈re
 ssa:∀(j j':Nat) (o o':SOp) (d:Tmp),sl[j]? =some o->sl[j']? =some o'->o.dst=some d->o'.dst=some d->j=j'
 tmp:∀(i:Nat) (o:SOp),sl[i]? =some o->∀t∈looks o,∀(j:Nat) (o':SOp),sl[j]? =some o'->o'.dst=some t->i=j∨((ancs [] ops).getD i 0).testBit j=true∨((ancs [] ops).getD j 0).testBit i=true
 pred_lt:∀(i p:Nat),p∈(ops.map preds).getD i []->p<i
theorem fst_at{ord:List (Nat×List Nat)}{k i:Nat}{re:List Nat}(h:ord[k]? =some (i,re)):(ord.map (·.1))[k]? =some i:=by simp[h]
theorem at_fst{ord:List (Nat×List Nat)}{k i:Nat}(h:(ord.map (·.1))[k]? =some i):∃re,ord[k]? =some (i,re):=by
 rw[gM',mE] at h
 obtain⟨⟨x,re⟩,h1,rfl⟩:=h
 exact⟨re,h1⟩
theorem chk_of{ops:Array Oper}{sl:List SOp}{ord:List (Nat×List Nat)}(h:orderOf ops sl=some ord):Chk ops.toList sl ord:=by
 unfold orderOf at h
 simp only at h
 split at h
 ·rename_i hc
  simp only[sI] at h
  subst h
  generalize ordGo (ancs [] ops.toList) sl [] (canon (ancs [] ops.toList) sl ops.size)=ord at hc
  unfold chkB at hc
  simp only[bT] at hc
  obtain⟨⟨⟨⟨⟨⟨⟨⟨⟨⟨⟨h1,h2⟩,h3⟩,h4⟩,h5⟩,h6⟩,h7⟩,h8⟩,h9⟩,h10⟩,h11⟩,h12⟩:=hc
  have e1:sl.length=ops.toList.length:=by simpa using h1
  have e3:ord.length=ops.toList.length:=by simpa using h3
  have hn:ops.size=ops.toList.length:=by simp
  refine⟨e1,e3,λk i re hk=>?_,λi hi=>?_,λk k' i re re' hk hk'=>nodupB_spec h4 k k' i (fst_at hk) (fst_at hk'),λk i re hk p hp=>?_,
   λk i re k' c re' hk he hlt hk'=>(effB_spec h8 k i (fst_at hk) he).2 k' c hlt (fst_at hk'),λk i re k' e re' hk hr hlt hk' he=>(readB_spec h9 k i re hk hr).2 k' e re' hlt hk' he,
   λj j' o o' d hj hj' ho ho'=>?_,λi o hi t ht j o' hj hd=>?_,λi p hp=>?_⟩
  ·have:=List.all_eq_true.1 h5 i (List.mem_of_getElem? (fst_at hk))
   simpa using this
  ·have:=List.all_eq_true.1 h6 i (by simpa using hi)
   obtain⟨k,hk⟩:=List.mem_iff_getElem?.1 (by simpa using this:i∈ord.map (·.1))
   obtain⟨re,h⟩:=at_fst hk
   exact⟨k,re,h⟩
  ·rcases linB_spec h7 k i (fst_at hk) p hp with h|⟨k',h,h'⟩
   ·cases h
   ·obtain⟨re',h''⟩:=at_fst h'
    exact⟨k',re',h,h''⟩
  ·rcases Nat.lt_trichotomy j j' with h|h|h
   ·exact(ssaB_spec h10 j j' o o' d h hj hj' ho ho').elim
   ·exact h
   ·exact(ssaB_spec h10 j' j o' o d h hj' hj ho' ho).elim
  ·have hil:i<ops.size:=by have:=(List.getElem?_eq_some_iff.1 hi).1;omega
   have hjl:j<ops.size:=by have:=(List.getElem?_eq_some_iff.1 hj).1;omega
   have:=List.all_eq_true.1 h11 i (by simpa using hil)
   rw[hi] at this
   have:=List.all_eq_true.1 this t ht
   have:=List.all_eq_true.1 this j (by simpa using hjl)
   have hw:writer sl j t=true:=by simp[writer,hj,hd]
   rw[hw] at this
   simp only[Bool.not_true,Bool.false_or,Bool.or_eq_true,beq_iff_eq] at this
   rcases this with(h|h)|h
   ·exact .inl h
   ·exact .inr (.inl h)
   ·exact .inr (.inr h)
  ·by_cases hi:i<ops.size
   ·have:=List.all_eq_true.1 h12 i (by simpa using hi)
    have:=List.all_eq_true.1 this p hp
    simpa using this
   ·rw[gD',List.getElem?_eq_none (by simp;omega)] at hp
    cases hp
 ·cases h
end
end Go.Ab
