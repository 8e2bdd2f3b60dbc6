/- Part. -/
import Derived.Test.YtdhcheegbnnlbaaGreatDoorR01
import Derived.LaidEqlPtr
import Derived.IntWalk
set_option linter.all false
open List renaming getD_eq_getElem?_getD → gD', getElem?_eq_getElem → gE', getElem?_map → gM'
open Option.some renaming injEq → sI
open Prod.mk renaming injEq → pI
open Nat renaming le_refl → lR'
open Option renaming map_eq_some_iff → mE
open Bool renaming and_eq_true → bT, false_eq_true → bF
namespace Go.Ab
section
variable{σ:Sig}{P:Program}{ρ:Rho}{r r':Operand->Value}
theorem zdR{α:Type}(s:Sem α):∀{a:α},runP P s=some a->∀w,s.run P w= .ok a w:=by
 induction s with
 |pure x=>intro a h w;simp only[runP,sI] at h;subst h;rfl
 |program k ih=>intro a h w;exact ih P h w
 |mark m k ih=>intro a h w;exact ih h w
 |_=>intro a h w;simp[runP] at h
theorem zfu{s:Sem Value}{v:Value}(h:zcm P s=some v):zaq σ ρ v v∧∀w,s.run P w= .ok v w:=by
 unfold zcm at h;cases hs:runP P s with
 |none=>rw[hs] at h;cases h
 |some u=>
  simp only[hs] at h;split at h
  ·rename_i hp;simp only[sI] at h;subst h;exact⟨zaF (σ:=σ) ρ hp,zdR s hs⟩
  ·cases h
theorem zag{t:TypeId}{d:TypeDesc}(h:P.underlying t=some d)(w:World):(underlying t).run P w= .ok d w:=by simp[underlying,h]
theorem zb0{t:TypeId}{i:TypeInfo}(h:P.info? t=some i)(w:World):(typeInfo t).run P w= .ok i w:=by simp[typeInfo,h]
theorem zbF{t:TypeId}{n:Nat}(h:zbc P t=some n)(w:World):(sizeOf t).run P w= .ok n w:=by
 unfold zbc at h;cases hi:P.info? t with
 |none=>rw[hi] at h;cases h
 |some i=>rw[hi] at h;simp at h;subst h;simp[sizeOf,zb0 hi]
theorem zcO{t:TypeId}{z:Value}(h:zbT P t=some z)(w:World):(zeroValue t).run P w= .ok z w:=by
 unfold zbT at h;cases hi:P.info? t with
 |none=>rw[hi] at h;cases h
 |some i=>rw[hi] at h;simp at h;simp[zeroValue,zb0 hi,h]
def zyk:TypeDesc->Bool
 | .struct _=>true
 | .array _ _=>true
 |_=>false
theorem zhN{t:TypeId}{d:TypeDesc}(h:P.underlying t=some d)(w:World):(isAgg t).run P w= .ok (zyk d) w:=by unfold isAgg;simp only[Sem.run_bind,zag h,Result.andThen_ok];cases d<;>rfl
theorem zwm{t:TypeId}{d:TypeDesc}(h:P.underlying t=some d):lay P t=if zyk d then(zbc P t).map some else some none:=by unfold lay;rw[h];cases d<;>simp[zyk]
theorem zp9{t:TypeId}(h:lay P t=some none):∃d,P.underlying t=some d∧∀w,(isAgg t).run P w= .ok false w:=by
 cases hu:P.underlying t with
 |none=>unfold lay at h;rw[hu] at h;cases h
 |some d=>
  rw[zwm hu] at h;refine⟨d,rfl,λw=>?_⟩;rw[zhN hu];cases hb:zyk d with
  |false=>rfl
  |true=>rw[hb] at h;simp at h
theorem zmY{t:TypeId}{n:Nat}(h:lay P t=some (some n)):zbc P t=some n∧∀w,(isAgg t).run P w= .ok true w:=by
 cases hu:P.underlying t with
 |none=>unfold lay at h;rw[hu] at h;cases h
 |some d=>
  rw[zwm hu] at h;cases hb:zyk d with
  |false=>rw[hb] at h;simp at h
  |true=>rw[hb] at h;exact⟨by simpa using h,λw=>by rw[zhN hu,hb]⟩
theorem ziw{t:TypeId}{cs cs':Array Value}{off:Nat}{v:Value}(hc:zat σ ρ cs.toList cs'.toList)(h:ziU P t cs off=some v):
  ∃v',zaq σ ρ v v'∧∀w,(part t cs' off).run P w= .ok v' w:=by
 unfold ziU at h;cases hl:lay P t with
 |none=>rw[hl] at h;cases h
 |some q=>
  rw[hl] at h;cases q with
  |none=>
   obtain⟨d,_,ha⟩:=zp9 hl;obtain⟨v',h1,h2⟩:=hc.get? (i:=off) (v:=v) (by simpa using h);refine⟨v',h2,λw=>?_⟩;have:cs'[off]? =some v':=by simpa using h1
   simp[part,ha,this]
  |some n=>obtain⟨hs,ha⟩:=zmY hl;simp only[sI] at h;subst h;refine⟨.agg (cs'.extract off (off+n)),zat.agg ?_,λw=>by simp[part,ha,zbF hs]⟩;have:=(hc.drop off).take n;simpa [Array.toList_extract,List.extract_eq_take_drop] using this
theorem zbP(a:Addr)(h:a.spot=none)(n:Nat):a.add n=⟨a.block,a.off+n,none⟩:=by
 unfold Addr.add;cases a;simp only at h;subst h;split
 ·rename_i e;subst e;rfl
 ·rfl
def zdq(σ:Sig)(P:Program)(ρ:Rho)(o':Oper)(r':Operand->Value)(w:World)(v:Value):Prop:=
 ∃v',zaq σ ρ v v'∧(execOp r' o').run P w= .ok (.value v') w
theorem ze6{xs:Array Operand}(h:∀x∈xs.toList,zaq σ ρ (r x) (r' x)):zat σ ρ (xs.map r).toList (xs.map r').toList:=by
 rw[Array.toList_map,Array.toList_map];generalize xs.toList=l at h
 induction l with
 |nil=>exact zat.nil ρ
 |cons x l ih=>exact zat.cons (h x (by simp)) (ih λy hy=>h y (by simp[hy]))
theorem zaq.func_of{f:Fn}(hy:∀l,f≠ .yield l)(hm:∀n,f≠ .method n){fs fs' cp cp':Array Value}(h1:zat σ ρ fs.toList fs'.toList)(h2:zat σ ρ cp.toList cp'.toList):zaq σ ρ (.func f fs cp) (.func f fs' cp'):=
 .func hy hm (by simpa using h1.1) (λi hi=>by rw[zaw,zaw];exact h1.2 i (by simpa using hi)) (by simpa using h2.1)
  (λi hi=>by rw[zaw,zaw];exact h2.2 i (by simpa using hi))
theorem zpY{xs:Array Operand}(h:∀x∈xs.toList,zaq σ ρ (r x) (r' x))(hp:(xs.map r).toList.all plain=true):xs.map r=xs.map r':=by apply Array.toList_inj.1;have hl:=ze6 h;refine zcc hl.1 λi hi=>zbG (zd6 hp hi) (hl.2 i hi)
theorem zdO{v v':Option Value}{top dflt n:Nat}{code:BoundsCode}(hv:∀x,v=some x->∃x',v'=some x'∧zaq σ ρ x x')(hn:v=none->v'=none)(h:zfI v top dflt=some n){top':Nat}(ht:top<=top')(w:World):
  (v=none∧v'=none∧n=dflt)∨(∃x',v'=some x'∧n<=top∧(Instr.sliceBound x' top' code).run P w= .ok n w):=by
 cases v with
 |none=>exact .inl ⟨rfl,hn rfl,by simpa [zfI] using h.symm⟩
 |some x=>
  obtain⟨x',hx',hr⟩:=hv x rfl;right;cases x with
  |int k i=>
   cases hr;simp only[zfI] at h;split at h
   ·rename_i hb;simp only[sI] at h;subst h;refine⟨_,hx',by omega,?_⟩;have:0<=i∧i<=(top':Int):=⟨hb.1,by omega⟩;simp[Instr.sliceBound,asIntOf,this]
   ·cases h
  |_=>simp[zfI] at h
theorem zn1{o':Oper}{c a b:Operand}{v:Value}{w:World}(ho:o'.op= .pick c a b)(hr:∀x∈o'.op.operands.toList,zaq σ ρ (r x) (r' x))
  (h:(match r c with| .bool t=>some (if t then r a else r b)|_=>none)=some v):zdq σ P ρ o' r' w v:=by
 rw[ho] at hr;have hc:=hr c (by simp[Op.operands]);have ha:=hr a (by simp[Op.operands]);have hb:=hr b (by simp[Op.operands]);revert h;cases hrc:r c with
 |bool t=>
  intro h;rw[hrc] at hc;generalize hcc:r' c=cc at hc;cases hc;simp only[sI] at h;subst h;cases t
  ·exact⟨r' b,by simpa using hb,by simp[execOp,ho,hcc,asBool]⟩
  ·exact⟨r' a,by simpa using ha,by simp[execOp,ho,hcc,asBool]⟩
 |_=>intro h;simp at h
theorem zj6{t:TypeId}{v:Value}{name:String}{f:FuncId}{n:Nat}{w:World}(h:zaB P t name=some f):(nilAhead (n+1) t v name).run P w= .ok (some false) w:=by
 unfold zaB at h;split at h
 ·rename_i i hi;split at h
  ·rename_i m hm;split at h
   ·rename_i hp;have hpath:m.path.toList=[]:=List.isEmpty_iff.1 hp;split at h
    ·rename_i g e hf hu;simp[nilAhead,zb0 hi,hm,hpath,followBlind,hf]
    ·cases h
    ·rename_i g d hne hf hu;cases d<;>first|exact absurd rfl (hne _)|simp[nilAhead,zb0 hi,hm,hpath,followBlind,hf,zag hu]
    ·cases h
   ·cases h
  ·cases h
 ·cases h
theorem zhV{o':Oper}{x:Operand}{v:Value}{w:World}(ho:o'.op= .nilCheck x)(hr:∀x∈o'.op.operands.toList,zaq σ ρ (r x) (r' x))
  (h:(match r x with| .pointer (some a)=>some (.pointer (some a))| .func (.func f) a c=>some (.func (.func f) a c)| .func (.yield l) a c=>some (.func (.yield l) a c)| .func (.methodOf ty nm) a c=>if(zaB P ty nm).isSome then some (.func (.methodOf ty nm) a c) else none|_=>none)=some v):zdq σ P ρ o' r' w v:=by
 rw[ho] at hr;have hx:=hr x (by simp[Op.operands]);have hv:r x=v:=by
  split at h
  ·rename_i e;rw[e];simpa using h
  ·rename_i e;rw[e];simpa using h
  ·rename_i e;rw[e];simpa using h
  ·rename_i e;split at h
   ·rw[e];simpa using h
   ·cases h
  ·cases h
 refine⟨r' x,hv▸hx,?_⟩;rw[hv] at hx h;generalize hcc:r' x=cc at hx;cases hx with
 |ptr hb=>simp[execOp,ho,hcc]
 |meth hm=>
  rename_i t nm u u';have hs:(zaB P t nm).isSome=true:=by
   simp only at h;split at h
   ·assumption
   ·cases h
  obtain⟨f,hf⟩:=Option.isSome_iff_exists.1 hs;obtain⟨n,hn⟩:∃n,P.types.size+Made.depth=n+1:=⟨P.types.size+Made.depth-1,by unfold Made.depth;omega⟩;simp[execOp,ho,hcc,hn,zj6 hf]
 |func hy hm h1 h2 h3 h4=>
  rename_i f fs fs' cp cp';cases f with
  |func g=>simp[execOp,ho,hcc]
  |methodOf ty nm=>simp[execOp,ho,hcc]
  |yield l=>exact absurd rfl (hy l)
  |_=>simp at h
 |yield hb=>simp[execOp,ho,hcc]
 |_=>simp at h
theorem zo0{o':Oper}{op:UnOp}{t:TypeId}{x:Operand}{v:Value}{w:World}(ho:o'.op= .unOp op t x)(hr:∀x∈o'.op.operands.toList,zaq σ ρ (r x) (r' x))
  (h:(if plain (r x) then zcm P (Op.unary op (r x)) else none)=some v):zdq σ P ρ o' r' w v:=by
 rw[ho] at hr;have hx:=hr x (by simp[Op.operands]);split at h
 ·rename_i hp;have e:=zbG hp hx;obtain⟨hv,hrun⟩:=zfu (σ:=σ) (ρ:=ρ) h;refine⟨v,hv,?_⟩;have:=hrun w;rw[e] at this;simp[execOp,ho,this]
 ·cases h
theorem zmb{o':Oper}{op:BinOp}{t u:TypeId}{x y:Operand}{v:Value}{w:World}(ho:o'.op= .binOp op t x y u)(hc:cls o'.op= .pure)(hr:∀x∈o'.op.operands.toList,zaq σ ρ (r x) (r' x))
  (h:(if plain (r x)&&plain (r y) then zcm P (binOp op t (r x) (r y)) else none)=some v):zdq σ P ρ o' r' w v:=by
 rw[ho] at hr hc;have hx:=hr x (by simp[Op.operands]);have hy:=hr y (by simp[Op.operands]);split at h
 ·rename_i hp;simp only[bT] at hp;have e1:=zbG hp.1 hx;have e2:=zbG hp.2 hy;obtain⟨hv,hrun⟩:=zfu (σ:=σ) (ρ:=ρ) h;refine⟨v,hv,?_⟩;have:=hrun w;rw[e1,e2] at this;have hg:(eqGuard op t x y (r' x) (r' y)).run P w= .ok () w:=by cases op<;>first|rfl|(simp[cls] at hc)
  simp[execOp,ho,this,hg]
 ·cases h
theorem ze8{o':Oper}{t:TypeId}{x:Operand}{v:Value}{w:World}(ho:o'.op= .makeInterface t x)(hr:∀x∈o'.op.operands.toList,zaq σ ρ (r x) (r' x))
  (h:(match P.underlying t with|some (.interface _)=>none|some _=>some (.iface t (r x))|none=>none)=some v):zdq σ P ρ o' r' w v:=by
 rw[ho] at hr;have hx:=hr x (by simp[Op.operands]);cases hu:P.underlying t with
 |none=>rw[hu] at h;simp at h
 |some d=>
  rw[hu] at h;have hd:(some (.iface t (r x)):Option Value)=some v∧∀w,(Instr.makeInterface t (r' x)).run P w= .ok (.iface t (r' x)) w:=by cases d<;>first|(simp at h;done)|exact⟨h,λw=>by simp[Instr.makeInterface,zag hu]⟩
  obtain⟨h,hd⟩:=hd;simp only[sI] at h;subst h;exact⟨.iface t (r' x), .iface t hx,by simp[execOp,ho,hd]⟩
theorem zh1{o':Oper}{fn:Fn}{fs cp:Array Operand}{v:Value}{w:World}(ho:o'.op= .makeFunc fn fs cp)(hr:∀x∈o'.op.operands.toList,zaq σ ρ (r x) (r' x))
  (hy:∀l,fn≠ .yield l) (hm:∀n,fn≠ .method n) (hv:v= .func fn (fs.map r) (cp.map r)):zdq σ P ρ o' r' w v:=by
 rw[ho] at hr;have h1:=ze6 (r:=r) (r':=r') (xs:=fs) λx hx=>hr x (by simp only[Op.operands,Array.toList_append,List.mem_append];exact .inl hx);have h2:=ze6 (r:=r) (r':=r') (xs:=cp) λx hx=>hr x (by simp only[Op.operands,Array.toList_append,List.mem_append];exact .inr hx);subst hv;exact⟨.func fn (fs.map r') (cp.map r'),zaq.func_of hy hm h1 h2,by simp[execOp,ho,Instr.makeFunc]⟩
theorem zh6{o':Oper}{nm:String}{fs cp:Array Operand}{v:Value}{w:World}(ho:o'.op= .makeFunc (.method nm) fs cp)(hr:∀x∈o'.op.operands.toList,zaq σ ρ (r x) (r' x))
  (h:zjZ nm (fs.map r).toList (cp.map r).toList=some v):zdq σ P ρ o' r' w v:=by
 rw[ho] at hr;have h1:=ze6 (r:=r) (r':=r') (xs:=fs) λx hx=>hr x (by simp only[Op.operands,Array.toList_append,List.mem_append];exact .inl hx);have h2:=ze6 (r:=r) (r':=r') (xs:=cp) λx hx=>hr x (by simp only[Op.operands,Array.toList_append,List.mem_append];exact .inr hx);unfold zjZ at h;split at h
 ·rename_i t u e1 e2;cases h;rw[e1] at h1;rw[e2] at h2;have l1:=h1.1;have l2:=h2.1;obtain⟨y,hy⟩:∃y,(fs.map r').toList=[y]:=by
   match hl:(fs.map r').toList with
   |[y]=>exact⟨y,rfl⟩
   |[]=>rw[hl] at l1;cases l1
   |_::_::_=>rw[hl] at l1;simp at l1
  have hz:(cp.map r').toList=[]:=List.eq_nil_of_length_eq_zero (by rw[<-l2];rfl);rw[hy] at h1;have hh:=h1.2 0 (by simp);simp only[List.getD_cons_zero] at hh;cases hh with
  |iface _ hu=>
   rename_i u';have a1:fs.map r'= #[.iface t u']:=by rw[<-Array.toArray_toList (xs:=fs.map r'),hy]
   have a2:cp.map r'= #[]:=by rw[<-Array.toArray_toList (xs:=cp.map r'),hz]
   exact⟨_, .meth hu,by simp[execOp,ho,Instr.makeFunc,a1,a2]⟩
 ·cases h
theorem zhv{o':Oper}{s:TypeId}{x:Operand}{f:Nat}{v:Value}{w:World}(ho:o'.op= .fieldAddr s x f)(hr:∀x∈o'.op.operands.toList,zaq σ ρ (r x) (r' x))
  (h:(match P.underlying s,r x with
  |some (.struct fs), .pointer (some ⟨b,o,none⟩)=>match fs[f]? with
   |some fl=>match zbc P fl.type with
    |some (_+1)=>some (ptr b (o+fl.offset))
    |_=>none
   |none=>none
  |_,_=>none)=some v):zdq σ P ρ o' r' w v:=by
 rw[ho] at hr;have hx:=hr x (by simp[Op.operands]);split at h
 ·rename_i fs b o hu hrx;split at h
  ·rename_i fl hf;split at h
   ·rename_i k hs;simp only[sI] at h;subst h;rw[hrx] at hx;generalize hcc:r' x=cc at hx;cases hx with
    |ptr hb=>rename_i b' off sl;refine⟨ptr b' (off+(o+fl.offset)), .ptr hb,?_⟩;have hz:(sizeOf fl.type).run P w= .ok (k+1) w:=zbF hs w;simp[execOp,ho,hcc,Instr.fieldAt,zag hu,hf,Instr.sureAddr,fieldPlace,hz,zbP,ptr,Nat.add_assoc]
   ·cases h
  ·cases h
 ·cases h
theorem zly{o':Oper}{t:TypeId}{x:Operand}{f:Nat}{v:Value}{w:World}(ho:o'.op= .field t x f)(hr:∀x∈o'.op.operands.toList,zaq σ ρ (r x) (r' x))
  (h:(match P.underlying t,r x with
  |some (.struct fs), .agg cs=>match fs[f]? with
   |some fl=>ziU P fl.type cs fl.offset
   |none=>none
  |_,_=>none)=some v):zdq σ P ρ o' r' w v:=by
 rw[ho] at hr;have hx:=hr x (by simp[Op.operands]);split at h
 ·rename_i fs cs hu hrx;split at h
  ·rename_i fl hf;rw[hrx] at hx;obtain⟨cs',hcc,hl⟩:=hx.agg_inv;obtain⟨v',hv,hrun⟩:=ziw hl h;exact⟨v',hv,by simp[execOp,ho,hcc,Instr.field,zag hu,hf,asAgg,hrun]⟩
  ·cases h
 ·cases h
theorem zju{o':Oper}{x:Operand}{i:Nat}{v:Value}{w:World}(ho:o'.op= .extract x i)(hr:∀x∈o'.op.operands.toList,zaq σ ρ (r x) (r' x))
  (h:(match r x with| .tuple vs=>vs[i]? |_=>none)=some v):zdq σ P ρ o' r' w v:=by
 rw[ho] at hr;have hx:=hr x (by simp[Op.operands]);split at h
 ·rename_i vs hrx;rw[hrx] at hx;obtain⟨cs',hcc,hl⟩:=hx.tuple_inv;obtain⟨v',h1,h2⟩:=hl.get? (i:=i) (v:=v) (by simpa using h);have h1':cs'[i]? =some v':=by simpa using h1
  exact⟨v',h2,by simp[execOp,ho,hcc,Instr.extract,h1']⟩
 ·cases h
theorem zaq.int_inv{k:IntKind}{n:Int}{v:Value}(h:zaq σ ρ (.int k n) v):v= .int k n:=by cases h;rfl
theorem zaq.string_inv{s:ByteArray}{v:Value}(h:zaq σ ρ (.string s) v):v= .string s:=by cases h;rfl
theorem zaq.bool_inv{b:Bool}{v:Value}(h:zaq σ ρ (.bool b) v):v= .bool b:=by cases h;rfl
theorem zaq.ptr_inv{b o:Nat}{v:Value}(h:zaq σ ρ (.pointer (some ⟨b,o,none⟩)) v):∃b' off sl,ρ b=some (b',off,sl)∧v= .pointer (some ⟨b',off+o,none⟩):=by
 cases h with
 |ptr h=>exact⟨_,_,_,h,rfl⟩
theorem zaq.slice_inv{b o n c:Nat}{v:Value}(h:zaq σ ρ (.slice (some ⟨b,o,none⟩) n c) v):
  ∃b' off sl c',ρ b=some (b',off,sl)∧v= .slice (some ⟨b',off+o,none⟩) n c'∧(c'=c∨c'=c+sl)∧n<=c:=by
 cases h with
 |slice h hc hn=>exact⟨_,_,_,_,h,rfl,hc,hn⟩
theorem zlq{o':Oper}{t:TypeId}{x i:Operand}{v:Value}{w:World}(ho:o'.op= .index t x i)(hr:∀x∈o'.op.operands.toList,zaq σ ρ (r x) (r' x))
  (h:(match P.underlying t,r x,r i with
  |some (.array len e), .agg cs, .int _ n=>if 0<=n∧n<len then match zbc P e with
    |some s=>ziU P e cs (n.toNat*s)
    |none=>none
   else none
  |some .string, .string s, .int _ n=>if 0<=n then match s[n.toNat]? with
    |some b=>some (.int .u8 b.toNat)
    |none=>none
   else none
  |_,_,_=>none)=some v):zdq σ P ρ o' r' w v:=by
 rw[ho] at hr;have hx:=hr x (by simp[Op.operands]);have hi:=hr i (by simp[Op.operands]);split at h
 ·rename_i len e cs k n hu hrx hri;split at h
  ·rename_i hb;split at h
   ·rename_i s hs;rw[hrx] at hx;rw[hri] at hi;obtain⟨cs',hcc,hl⟩:=hx.agg_inv;have hii:=hi.int_inv;obtain⟨v',hv,hrun⟩:=ziw hl h;exact⟨v',hv,by simp[execOp,ho,hcc,hii,Instr.index,asIntOf,zag hu,hb,zbF hs,hrun]⟩
   ·cases h
  ·cases h
 ·rename_i s k n hu hrx hri;split at h
  ·rename_i hb;split at h
   ·rename_i b hs;rw[hrx] at hx;rw[hri] at hi;simp only[sI] at h;subst h;refine⟨_, .int _ _,?_⟩;simp[execOp,ho,hx.string_inv,hi.int_inv,Instr.index,asIntOf,zag hu,hb,hs]
   ·cases h
  ·cases h
 ·cases h
theorem zgO{o':Oper}{t:TypeId}{x i:Operand}{v:Value}{w:World}(ho:o'.op= .indexAddr t x i)(hr:∀x∈o'.op.operands.toList,zaq σ ρ (r x) (r' x))
  (h:(match P.underlying t,r x,r i with
  |some (.array len e), .pointer (some ⟨b,o,none⟩), .int _ n=>if 0<=n∧n<len then match zbc P e with
    |some s=>some (ptr b (o+n.toNat*s))
    |none=>none
   else none
  |some (.slice e), .slice (some ⟨b,o,none⟩) len _, .int _ n=>if 0<=n∧n<len then match zbc P e with
    |some s=>some (ptr b (o+n.toNat*s))
    |none=>none
   else none
  |_,_,_=>none)=some v):zdq σ P ρ o' r' w v:=by
 rw[ho] at hr;have hx:=hr x (by simp[Op.operands]);have hi:=hr i (by simp[Op.operands]);split at h
 ·rename_i len e b o k n hu hrx hri;split at h
  ·rename_i hb;split at h
   ·rename_i s hs;rw[hrx] at hx;rw[hri] at hi;simp only[sI] at h;subst h;obtain⟨b',off,sl,hρ,hcc⟩:=hx.ptr_inv;refine⟨ptr b' (off+(o+n.toNat*s)), .ptr hρ,?_⟩;simp[execOp,ho,hcc,hi.int_inv,Instr.indexAt,asIntOf,zag hu,hb,zbF hs,Instr.sureAddr,zbP,ptr,Nat.add_assoc]
   ·cases h
  ·cases h
 ·rename_i e b o len c k n hu hrx hri;split at h
  ·rename_i hb;split at h
   ·rename_i s hs;rw[hrx] at hx;rw[hri] at hi;simp only[sI] at h;subst h;obtain⟨b',off,sl,c',hρ,hcc,_,_⟩:=hx.slice_inv;refine⟨ptr b' (off+(o+n.toNat*s)), .ptr hρ,?_⟩;simp[execOp,ho,hcc,hi.int_inv,Instr.indexAt,asIntOf,zag hu,hb,zbF hs,zbP,ptr,Nat.add_assoc]
   ·cases h
  ·cases h
 ·cases h
theorem ziE{cs cs' new new':List Value}(h:zat σ ρ cs cs')(hn:zat σ ρ new new')(o:Nat):zat σ ρ (zbr cs o new) (zbr cs' o new'):=by unfold zbr;rw[<-hn.1];exact((h.take o).append hn).append (h.drop _)
theorem zhl(cs:List Value)(o:Nat)(x:Value)(new:List Value)(h:o<cs.length):zbr (cs.set o x) (o+1) new=zbr cs o (x::new):=by
 unfold zbr;have e1:(cs.set o x).take (o+1)=cs.take o++ [x]:=by rw[List.take_succ_eq_append_getElem (by simpa using h)];simp[List.take_set_of_le]
 have e2:(cs.set o x).drop (o+1+new.length)=cs.drop (o+(x::new).length):=by rw[List.drop_set_of_lt (by omega)];congr 1;simp only[List.length_cons];omega
 rw[e1,e2];simp
theorem zkV(new:List Value):∀(cs:Array Value) (o k:Nat),o+k+new.length<=cs.size->
  ((new.zipIdx k).foldl (λ(cs:Array Value) (p:Value×Nat)=>cs.setIfInBounds (o+p.2) p.1) cs).toList=zbr cs.toList (o+k) new:=by
 induction new with
 |nil=>intro cs o k _;simp[zbr]
 |cons x new ih=>intro cs o k h;simp only[List.length_cons] at h;rw[List.zipIdx_cons,List.foldl_cons,ih _ _ _ (by simp;omega)];rw[Array.toList_setIfInBounds];have:=zhl cs.toList (o+k) x new (by simp;omega);rw[<-this];rfl
theorem zeG{place place':Nat->Option (Nat×Nat)}:∀{parts parts':List (Nat×Value)} {cs cs':List Value} {out:List Value},zat σ ρ cs cs'->
  (∀i p,place i=some p->place' i=some p)->parts.length=parts'.length->(∀(i:Nat) (p:Nat×Value),parts[i]? =some p->∃v',parts'[i]? =some (p.1,v')∧zaq σ ρ p.2 v')->
  zg4 place cs parts=some out->∃out':Array Value,zat σ ρ out out'.toList∧Instr.fill place' cs'.toArray parts'=some out':=by
 intro parts
 induction parts with
 |nil=>
  intro parts' cs cs' out hc hp hlen _ h;cases parts' with
  |nil=>simp only[zg4,sI] at h;subst h;exact⟨cs'.toArray,by simpa using hc,rfl⟩
  |cons=>simp at hlen
 |cons p parts ih=>
  intro parts' cs cs' out hc hp hlen hr h;cases parts' with
  |nil=>simp at hlen
  |cons p' parts'=>
   obtain⟨v',hv',hvr⟩:=hr 0 p (by simp);simp only[List.getElem?_cons_zero,sI] at hv';subst hv';obtain⟨i,v⟩:=p;simp only[zg4] at h;cases hpl:place i with
   |none=>rw[hpl] at h;cases h
   |some q=>
    obtain⟨off,size⟩:=q;rw[hpl] at h;simp only at h;split at h
    ·rename_i hb;have hcl:=hvr.cells hb.2.2;have hsz:v.cells.size=v'.cells.size:=by simpa using hcl.1
     have hlen':=hc.1;have hsp:=ziE hc hcl off;obtain⟨out',ho,hf⟩:=ih (parts':=parts') hsp hp (by simpa using hlen) (λj p hj=>by simpa using hr (j+1) p (by simpa using hj)) h;refine⟨out',ho,?_⟩;simp only[Instr.fill,hp i _ hpl];have hno:¬(v'.cells.size≠size∨off+v'.cells.size>cs'.toArray.size):=by
      rintro(hh|hh)
      ·exact hh (by rw[<-hsz];exact hb.1)
      ·simp at hh;omega
     have hno':(decide (v'.cells.size≠size)||decide (off+v'.cells.size>cs'.toArray.size))=false:=by simpa using hno
     have hfold:=zkV v'.cells.toList cs'.toArray off 0 (by simp;omega);rw[if_neg (by simpa using hno)];have harr:((v'.cells.zipIdx).foldl (λ(cs:Array Value) (x:Value×Nat)=>cs.setIfInBounds (off+x.2) x.1) cs'.toArray)=(zbr cs' off v'.cells.toList).toArray:=by apply Array.toList_inj.1;rw[<-Array.foldl_toList];simpa using hfold
     rw[<-hf,<-harr]
    ·cases h
end
section
variable{σ:Sig}{P:Program}{ρ:Rho}{r r':Operand->Value}
def zh5(σ:Sig)(ρ:Rho)(v v':Option Value):Prop:=(v=none->v'=none)∧∀x,v=some x->∃x',v'=some x'∧zaq σ ρ x x'
theorem zcE{b:Bool}{lo lo' hi hi':Option Value}{n c c' h l:Nat}(hlo:zh5 σ ρ lo lo')(hhi:zh5 σ ρ hi hi')(hn:n<=c)(hc:c<=c')
  (h1:zfI hi c n=some h) (h2:zfI lo h 0=some l) (w:World):l<=h∧h<=c∧(Instr.sliceBounds b n c' lo' hi' none).run P w= .ok (l,h,c') w:=by
 rcases zdO (P:=P) (code:=if b then .sliceAcap else .sliceAlen) hhi.2 hhi.1 h1 hc w with⟨_,g2,g3⟩|⟨x',g2,g3,g4⟩
 ·subst g2 g3;rcases zdO (P:=P) (code:= .sliceB) hlo.2 hlo.1 h2 (lR' h) w with⟨_,k2,k3⟩|⟨y',k2,k3,k4⟩
  ·subst k2 k3;exact⟨Nat.zero_le _,hn,by simp[Instr.sliceBounds]⟩
  ·subst k2;exact⟨k3,hn,by simp[Instr.sliceBounds,k4]⟩
 ·subst g2;rcases zdO (P:=P) (code:= .sliceB) hlo.2 hlo.1 h2 (lR' h) w with⟨_,k2,k3⟩|⟨y',k2,k3,k4⟩
  ·subst k2 k3;exact⟨Nat.zero_le _,g3,by simp[Instr.sliceBounds,g4]⟩
  ·subst k2;exact⟨k3,g3,by simp[Instr.sliceBounds,g4,k4]⟩
theorem zh5.of{x:Option Operand}(h:∀y,x=some y->zaq σ ρ (r y) (r' y)):zh5 σ ρ (x.map r) (x.map r'):=by
 cases x with
 |none=>exact⟨λ_=>rfl,λ_ h=>(nomatch h)⟩
 |some y=>exact⟨λh=>(nomatch h),λz hz=>⟨_,rfl,by simp only[Option.map_some,sI] at hz;subst hz;exact h y rfl⟩⟩
theorem zhE{t:TypeId}{d:TypeDesc}(hu:P.underlying t=some d)(hd:∀n e,d≠ .array n e)(x:Value)(lo hi:Option Value)(w:World)(mx:Option Value:=none):
  (Instr.sliceAt t x lo hi mx).run P w=(Instr.slice t x lo hi mx).run P w:=by
 unfold Instr.sliceAt;simp only[Sem.run_bind,zag hu,Result.andThen_ok]
theorem zk6{t:TypeId}{x x':Value}{lo lo' hi hi':Option Value}{v:Value}(hx:zaq σ ρ x x')(hlo:zh5 σ ρ lo lo')(hhi:zh5 σ ρ hi hi')(h:zb5 P t x lo hi=some v)(w:World):
  ∃v',zaq σ ρ v v'∧(Instr.sliceAt t x' lo' hi' none).run P w= .ok v' w:=by
 unfold zb5 at h;split at h
 ·rename_i s hu;split at h
  ·cases h
  ·rename_i hh h1;split at h
   ·cases h
   ·rename_i l h2;simp only[sI] at h;subst h;obtain rfl:=hx.string_inv;obtain⟨_,_,hb⟩:=zcE (P:=P) (b:=false) hlo hhi (lR' _) (lR' _) h1 h2 w;refine⟨_, .string _,?_⟩;rw[zhE hu (λ_ _ e=>by cases e)];simp[Instr.slice,zag hu,hb]
 ·rename_i e a n c hu;split at h
  ·cases h
  ·rename_i hh h1;split at h
   ·cases h
   ·rename_i l h2;rw[zhE hu (λ_ _ e=>by cases e)];split at h
    ·rename_i sz hs;simp only[sI] at h;subst h;cases hx with
     |nilSlice=>
      obtain⟨g1,g2,hb⟩:=zcE (P:=P) (b:=true) hlo hhi (lR' _) (lR' _) h1 h2 w;obtain rfl:hh=0:=by omega
      obtain rfl:l=0:=by omega
      exact⟨_, .nilSlice,by simp[Instr.slice,zag hu,hb,zbF hs]⟩
    ·rename_i sz b o hs;cases hx with
     |slice hρ hc hn=>
      rename_i b' off sl c';obtain⟨g1,g2,hb⟩:=zcE (P:=P) (b:=true) hlo hhi hn (show c<=c' by omega) h1 h2 w;have hrun:(Instr.slice t (.slice (some ⟨b',off+o,none⟩) n c') lo' hi' none).run P w=
        .ok (.slice (if c'=l then some ⟨b',off+o,none⟩ else some ⟨b',off+o+l*sz,none⟩) (hh-l) (c'-l)) w:=by
       simp[Instr.slice,zag hu,hb,zbF hs,zbP]
      split at h
      ·rename_i hl;subst hl;simp only[sI] at h;subst h;refine⟨_, .slice hρ hc g2,?_⟩;rw[hrun];split<;>simp
      ·split at h
       ·rename_i hl;simp only[sI] at h;subst h;refine⟨.slice (some ⟨b',off+(o+l*sz),none⟩) (hh-l) (c'-l), .slice hρ (by omega) (by omega),?_⟩;rw[hrun,if_neg (by omega),Nat.add_assoc]
       ·split at h
        ·rename_i hl;simp only[sI] at h;subst h;subst hl;refine⟨_, .lost (if c'=hh then⟨b',off+o,none⟩ else⟨b',off+o+hh*sz,none⟩) (c'-hh),?_⟩;rw[hrun];split<;>simp
        ·cases h
    ·rename_i sz b o q hs;split at h
     ·rename_i hl;subst hl;simp only[sI] at h;subst h;cases hx with
      |lost a c'=>
       obtain⟨g1,g2,hb⟩:=zcE (P:=P) (b:=true) hlo hhi (lR' 0) (Nat.zero_le c') h1 h2 w;obtain rfl:hh=0:=by omega
       refine⟨_, .lost a c',?_⟩;simp[Instr.slice,zag hu,hb,zbF hs,Addr.add]
     ·cases h
    ·cases h
 ·rename_i n e b o hu;split at h
  ·cases h
  ·rename_i hh h1;split at h
   ·cases h
   ·rename_i l h2;split at h
    ·cases h
    ·rename_i sz hs;simp only[sI] at h;subst h;obtain⟨b',off,sl,hρ,rfl⟩:=hx.ptr_inv;obtain⟨g1,g2,hb⟩:=zcE (P:=P) (b:=false) hlo hhi (lR' n) (lR' n) h1 h2 w;have hrun:(Instr.sliceAt t (.pointer (some ⟨b',off+o,none⟩)) lo' hi' none).run P w=
       .ok (.slice (some (if n=l then⟨b',off+o,none⟩ else⟨b',off+o+l*sz,none⟩)) (hh-l) (n-l)) w:=by
      simp[Instr.sliceAt,zag hu,hb,zbF hs,Instr.sureAddr,zbP]
     by_cases hl:n=l
     ·rw[if_pos hl];refine⟨.slice (some ⟨b',off+o,none⟩) (hh-l) (n-l), .slice hρ (.inl rfl) (by omega),?_⟩;rw[hrun,if_pos hl]
     ·rw[if_neg hl];refine⟨.slice (some ⟨b',off+(o+l*sz),none⟩) (hh-l) (n-l), .slice hρ (.inl rfl) (by omega),?_⟩;rw[hrun,if_neg hl,Nat.add_assoc]
 ·cases h
theorem ziZ{t:TypeId}{x x' hi hi' mx mx':Value}{lo lo':Option Value}{v:Value}(hx:zaq σ ρ x x')(hlo:zh5 σ ρ lo lo')(hhi:zaq σ ρ hi hi')(hmx:zaq σ ρ mx mx')(h:zg9 P t x lo hi mx=some v)(w:World):
  ∃v',zaq σ ρ v v'∧(Instr.sliceAt t x' lo' (some hi') (some mx')).run P w= .ok v' w:=by
 have one:∀{y y':Value},zaq σ ρ y y'->∀x,some y=some x->∃x',some y'=some x'∧zaq σ ρ x x':=λhy x e=>by cases e;exact⟨_,rfl,hy⟩
 unfold zg9 at h;split at h
 ·rename_i e a n c hu;split at h
  ·cases h
  ·rename_i k h0;split at h
   ·cases h
   ·rename_i hh h1;split at h
    ·cases h
    ·rename_i l h2;rw[zhE hu (λ_ _ e=>by cases e) (mx:=some mx')];have bounds:∀c',c<=c'->k<=c∧hh<=k∧l<=hh∧(Instr.sliceBounds true n c' lo' (some hi') (some mx')).run P w= .ok (l,hh,k) w:=by
      intro c' hc;rcases zdO (P:=P) (code:= .slice3Acap) (v':=some mx') (one hmx) (λe=>by cases e) h0 hc w with⟨e,_⟩|⟨y,e1,g1,g2⟩
      ·cases e
      ·cases e1;rcases zdO (P:=P) (code:= .slice3B) (v':=some hi') (one hhi) (λe=>by cases e) h1 (lR' k) w with⟨e,_⟩|⟨y,e1,g3,g4⟩
       ·cases e
       ·cases e1;rcases zdO (P:=P) (code:= .slice3C) hlo.2 hlo.1 h2 (lR' hh) w with⟨_,k2,k3⟩|⟨y',k2,k3,k4⟩
        ·subst k2 k3;exact⟨g1,g3,Nat.zero_le _,by simp[Instr.sliceBounds,g2,g4]⟩
        ·subst k2;exact⟨g1,g3,k3,by simp[Instr.sliceBounds,g2,g4,k4]⟩
     split at h
     ·rename_i sz hs;simp only[sI] at h;subst h;cases hx with
      |nilSlice=>
       obtain⟨g1,g2,g3,hb⟩:=bounds 0 (lR' 0);obtain rfl:k=0:=by omega
       obtain rfl:hh=0:=by omega
       obtain rfl:l=0:=by omega
       exact⟨_, .nilSlice,by simp[Instr.slice,zag hu,hb,zbF hs]⟩
     ·rename_i sz b o hs;simp only[sI] at h;subst h;cases hx with
      |slice hρ hc hn=>
       rename_i b' off sl c';obtain⟨g1,g2,g3,hb⟩:=bounds c' (by omega);by_cases hl:k=l
       ·subst hl;refine⟨.slice (some ⟨b',off+o,none⟩) (hh-k) (k-k),?_,?_⟩
        ·rw[if_pos rfl];exact .slice hρ (.inl rfl) (by omega)
        ·simp[Instr.slice,zag hu,hb,zbF hs]
       ·refine⟨.slice (some ⟨b',off+(o+l*sz),none⟩) (hh-l) (k-l),?_,?_⟩
        ·rw[if_neg hl];exact .slice hρ (.inl rfl) (by omega)
        ·simp[Instr.slice,zag hu,hb,zbF hs,zbP,hl,Nat.add_assoc]
     ·cases h
 ·cases h
theorem zj1{o':Oper}{t:TypeId}{x hi mx:Operand}{lo:Option Operand}{v:Value}{w:World}(ho:o'.op= .slice t x lo (some hi) (some mx))(hr:∀x∈o'.op.operands.toList,zaq σ ρ (r x) (r' x))
  (h:zg9 P t (r x) (lo.map r) (r hi) (r mx)=some v):zdq σ P ρ o' r' w v:=by
 rw[ho] at hr;have hx:=hr x (by simp[Op.operands]);have h1:zh5 σ ρ (lo.map r) (lo.map r'):= .of λy hy=>hr y (by subst hy;simp[Op.operands]);obtain⟨v',hv,hrun⟩:=ziZ hx h1 (hr hi (by simp[Op.operands])) (hr mx (by simp[Op.operands])) h w;exact⟨v',hv,by simp[execOp,ho,hrun]⟩
theorem zlJ{o':Oper}{t:TypeId}{x:Operand}{lo hi:Option Operand}{v:Value}{w:World}(ho:o'.op= .slice t x lo hi none)(hr:∀x∈o'.op.operands.toList,zaq σ ρ (r x) (r' x))
  (h:zb5 P t (r x) (lo.map r) (hi.map r)=some v):zdq σ P ρ o' r' w v:=by
 rw[ho] at hr;have hx:=hr x (by simp[Op.operands]);have h1:zh5 σ ρ (lo.map r) (lo.map r'):= .of λy hy=>hr y (by subst hy;simp[Op.operands]);have h2:zh5 σ ρ (hi.map r) (hi.map r'):= .of λy hy=>hr y (by subst hy;simp[Op.operands]);obtain⟨v',hv,hrun⟩:=zk6 hx h1 h2 h w;exact⟨v',hv,by simp[execOp,ho,hrun]⟩
theorem zkw{parts:Array (Nat×Operand)}(h:∀p∈parts.toList,zaq σ ρ (r p.2) (r' p.2)):
  (zdZ r parts).length=(parts.map λp=>(p.1,r' p.2)).toList.length∧
  ∀(i:Nat) (p:Nat×Value),(zdZ r parts)[i]? =some p->∃v',(parts.map λp=>(p.1,r' p.2)).toList[i]? =some (p.1,v')∧zaq σ ρ p.2 v':=by
 rw[Array.toList_map];unfold zdZ;refine⟨by simp,λi p hp=>?_⟩;rw[gM'] at hp⊢;cases hq:parts.toList[i]? with
 |none=>rw[hq] at hp;cases hp
 |some q=>rw[hq] at hp;simp only[Option.map_some,sI] at hp;subst hp;exact⟨r' q.2,rfl,h q (List.mem_of_getElem? hq)⟩
theorem zpB(w:World):∀(l:List Field),(l.map λf=>(zbc P f.type).map λs=>(f.offset,s)).all (·.isSome)=true->
  ∃ps:List (Nat×Nat),(l.mapM λf=>Prod.mk f.offset<$>sizeOf f.type).run P w= .ok ps w∧(l.map λf=>(zbc P f.type).map λs=>(f.offset,s))=ps.map some:=by
 intro l
 induction l with
 |nil=>intro _;exact⟨[],rfl,rfl⟩
 |cons f l ih=>
  intro h;simp only[List.map_cons,List.all_cons,bT] at h;cases hs:zbc P f.type with
  |none=>rw[hs] at h;simp at h
  |some s=>obtain⟨ps,h1,h2⟩:=ih h.2;exact⟨(f.offset,s)::ps,by simp[List.mapM_cons,zbF hs,h1],by simp[hs,h2]⟩
theorem zqM{fs:Array Field}(w:World)(h:(zb6 P fs).all (·.isSome)=true):
  ∃ps:List (Nat×Nat),(fs.toList.mapM λf=>Prod.mk f.offset<$>sizeOf f.type).run P w= .ok ps w∧∀(i:Nat) (p:Nat×Nat),((zb6 P fs)[i]?).join=some p->ps.toArray[i]? =some p:=by
 obtain⟨ps,h1,h2⟩:=zpB w fs.toList h;refine⟨ps,h1,λi p hp=>?_⟩;have:zb6 P fs=ps.map some:=h2;rw[this,gM'] at hp;cases hq:ps[i]? with
 |none=>rw[hq] at hp;cases hp
 |some q=>rw[hq] at hp;simpa [hq] using hp
theorem zma{o':Oper}{t:TypeId}{parts:Array (Nat×Operand)}{v:Value}{w:World}(ho:o'.op= .build t parts)(hr:∀x∈o'.op.operands.toList,zaq σ ρ (r x) (r' x))
  (h:zaT P t (zdZ r parts)=some v):zdq σ P ρ o' r' w v:=by
 rw[ho] at hr;obtain⟨hl1,hl2⟩:=zkw (r:=r) (r':=r') (parts:=parts) λp hp=>hr p.2 (by simp only[Op.operands];exact List.mem_map.2 ⟨p,hp,rfl⟩);unfold zaT at h;split at h
 ·rename_i z fs hz hu;split at h
  ·rename_i hc;simp only[bT] at hc;obtain⟨ps,hps,hpp⟩:=zqM w hc.2;simp only[mE] at h;obtain⟨out,hf,rfl⟩:=h;have hzr:=(zaF (σ:=σ) ρ hc.1).cells (zdl hc.1);obtain⟨out',ho',hf'⟩:=zeG (place':=(ps.toArray[·]?)) hzr (λi p hp=>hpp i p hp) hl1 hl2 hf;refine⟨.agg out',zat.agg (by simpa using ho'),?_⟩;simp only[Array.toArray_toList,Array.toList_map] at hf';simp only[List.getElem?_toArray] at hf';simp[execOp,ho,Instr.build,zcO hz,zag hu,Array.mapM_eq_mapM_toList,hps,hf']
  ·cases h
 ·rename_i z n e hz hu;split at h
  ·rename_i s hs;split at h
   ·rename_i hc;simp only[mE] at h;obtain⟨out,hf,rfl⟩:=h;have hzr:=(zaF (σ:=σ) ρ hc).cells (zdl hc);obtain⟨out',ho',hf'⟩:=zeG (place':=λi=>some (i*s,s)) hzr (λi p hp=>hp) hl1 hl2 hf;refine⟨.agg out',zat.agg (by simpa using ho'),?_⟩;simp only[Array.toArray_toList,Array.toList_map] at hf';simp[execOp,ho,Instr.build,zcO hz,zag hu,zbF hs,hf']
   ·cases h
  ·cases h
 ·cases h
end
section
variable{σ:Sig}{P:Program}{ρ:Rho}{r r':Operand->Value}
theorem zeA{o':Oper}{c:Call}{b:Builtin}{s:Sem Value}{v:Value}{w:World}(ho:o'.op= .call c)(hc:c.callee= .builtin b)
  (hb:∀cs,builtin b c.argTypes o'.type cs (c.args.map r')=(do pure (.value (<-s)))) (hs:s.run P w= .ok v w):(execOp r' o').run P w= .ok (.value v) w:=by
 simp[execOp,ho,resolve,hc,invoke,hb,hs]
theorem zol{o:SOp}{o':Oper}{v:Value}(h1:o'.op=o.op)(h2:o'.type=o.type)(hc:cls o.op= .pure)(hr:∀x∈o.op.operands.toList,zaq σ ρ (r x) (r' x))(h:za9 P o r=some v)(w:World):
  zdq σ P ρ o' r' w v:=by
 rw[<-h1] at hr hc;cases hop:o.op with
 |move x=>rw[hop] at h1;simp only[za9,hop,sI] at h;subst h;exact⟨r' x,hr x (by simp[h1,Op.operands]),by simp[execOp,h1]⟩
 |assign x=>rw[hop] at h1;simp only[za9,hop,sI] at h;subst h;exact⟨r' x,hr x (by simp[h1,Op.operands]),by simp[execOp,h1]⟩
 |pick c a b=>exact zn1 (h1.trans hop) hr (by simp only[za9,hop] at h;exact h)
 |nilCheck x=>exact zhV (h1.trans hop) hr (by simp only[za9,hop] at h;exact h)
 |unOp op t x=>exact zo0 (h1.trans hop) hr (by simp only[za9,hop] at h;exact h)
 |binOp op t x y u=>exact zmb (h1.trans hop) hc hr (by simp only[za9,hop] at h;exact h)
 |makeInterface t x=>exact ze8 (h1.trans hop) hr (by simp only[za9,hop] at h;exact h)
 |makeFunc fn fs cp=>
  simp only[za9,hop] at h;by_cases hme:∃nm,fn= .method nm
  ·obtain⟨nm,rfl⟩:=hme;exact zh6 (h1.trans hop) hr h
  have hd:(∀l,fn≠ .yield l)∧(∀n,fn≠ .method n)∧v= .func fn (fs.map r) (cp.map r):=by cases fn<;>first|(simp at h;done)|exact absurd ⟨_,rfl⟩ hme|exact⟨λl e=>(by cases e),λl e=>(by cases e),by simpa using h.symm⟩
  exact zh1 (h1.trans hop) hr hd.1 hd.2.1 hd.2.2
 |fieldAddr s x f=>exact zhv (h1.trans hop) hr (by simp only[za9,hop] at h;exact h)
 |field t x f=>exact zly (h1.trans hop) hr (by simp only[za9,hop] at h;exact h)
 |index t x i=>exact zlq (h1.trans hop) hr (by simp only[za9,hop] at h;exact h)
 |indexAddr t x i=>exact zgO (h1.trans hop) hr (by simp only[za9,hop] at h;exact h)
 |build t parts=>exact zma (h1.trans hop) hr (by simp only[za9,hop] at h;exact h)
 |extract x i=>exact zju (h1.trans hop) hr (by simp only[za9,hop] at h;exact h)
 |slice t x lo hi mx=>
  simp only[za9,hop] at h;cases mx with
  |some m=>cases hi with
   |none=>simp at h
   |some z=>exact zj1 (h1.trans hop) hr (by simpa using h)
  |none=>exact zlJ (h1.trans hop) hr (by simpa using h)
 |call c=>
  rw[hop] at h1;simp only[za9,hop] at h;cases hb:c.callee with
  |builtin b=>
   simp only[hb] at h;split at h
   ·rename_i hp;have he:c.args.map r=c.args.map r':=zpY (ρ:=ρ) (λx hx=>hr x (by rw[h1];simpa [Op.operands,Call.operands,hb] using hx)) hp;rw[he] at h;cases b<;>first
     |(simp at h;done)
     |(obtain⟨hv,hrun⟩:=zfu (σ:=σ) (ρ:=ρ) h
       exact⟨v,hv,zeA h1 hb (λcs=>rfl) (by rw[h2];exact hrun w)⟩)
   ·cases h
  |_=>simp[hb] at h
 |_=>simp[za9,hop] at h
theorem za2.list{w:World}{x:Nat×Nat×Nat}{cs:List Value}{rw_:Bool}{sz:Nat}(h:za2 σ ρ w x cs rw_ sz):
  ∃cs':List Value,zat σ ρ cs cs'∧∀(i:Nat) (v:Value),cs'[i]? =some v->w.cell? ⟨x.1,x.2.1+i,none⟩=some v:=by
 obtain⟨ca,t,fz,h1,h2,h3,h4⟩:=h;refine⟨(ca.toList.drop x.2.1).take cs.length,⟨by simp;omega,λi hi=>?_⟩,λi v hv=>?_⟩
 ·have:=h4 i hi;rw[zaw] at this;rw[gD' (l:=List.take _ _),List.getElem?_take_of_lt hi,List.getElem?_drop,<-gD'];exact this
 ·rw[List.getElem?_take] at hv;split at hv
  ·rw[List.getElem?_drop] at hv;simp only[World.cell?,h1];simpa using hv
  ·cases hv
theorem zcT{a:Addr}{w:World}:∀(l:List Value) (i:Nat) (acc:Array Value),(∀(j:Nat) (v:Value),l[j]? =some v->w.cell? (a.add (i+j))=some v)->
  (loadCellsFrom a i l.length acc).run P w= .ok (acc++l.toArray) w:=by
 intro l
 induction l with
 |nil=>intro i acc _;simp[loadCellsFrom]
 |cons x l ih=>
  intro i acc h;have h0:=h 0 x (by simp);simp only[Nat.add_zero] at h0;simp only[List.length_cons,loadCellsFrom,Sem.run_bind];have hl:(load (a.add i)).run P w= .ok x w:=by simp[load,Sem.run,h0]
  rw[hl];simp only[Result.andThen_ok];rw[ih (i+1) (acc.push x) (λj v hj=>by have:=h (j+1) v (by simpa using hj);rwa[show i+(j+1)=i+1+j from by omega] at this)];simp
theorem zml{cs cs' out:List Value}{o n:Nat}(h:zat σ ρ cs cs')(hs:sub cs o n=some out):
  ∃out',zat σ ρ out out'∧out'.length=n∧∀(j:Nat) (v:Value),out'[j]? =some v->cs'[o+j]? =some v:=by
 unfold sub at hs;split at hs
 ·rename_i hb;simp only[sI] at hs;subst hs;refine⟨(cs'.drop o).take n,(h.drop o).take n,by simp;have:=h.1;omega,λj v hj=>?_⟩;rw[List.getElem?_take] at hj;split at hj
  ·rwa[List.getElem?_drop] at hj
  ·cases hj
 ·cases hs
theorem ziM{t:TypeId}{a a' v:Value}{m:Mem}{w:World}(hR:Rel σ ρ m w)(ha:zaq σ ρ a a')(h:zdo P t a m=some v):
  ∃v',zaq σ ρ v v'∧(Instr.loadAt t a').run P w= .ok v' w:=by
 unfold zdo at h;split at h
 ·rename_i b o;obtain⟨b',off,sl,hρ,rfl⟩:=ha.ptr_inv;split at h
  ·rename_i cs rw_ sz hm;obtain⟨cs',hl,hcell⟩:=(hR.obj b _ _ hm hρ:za2 σ ρ w (b',off,sl) cs.list rw_ sz).list;split at h
   ·cases h
   ·rename_i hlay;obtain⟨d,hu,hagg⟩:=zp9 hlay;rw[Cells.nth_eq] at h;obtain⟨v',h1,h2⟩:=hl.get? h;refine⟨v',h2,?_⟩;have hc:=hcell o v' h1;simp only at hc;simp[Instr.loadAt,Instr.sureAddr,loadVar,hagg,load,Sem.run,hc]
   ·rename_i n hlay;obtain⟨hs,hagg⟩:=zmY hlay;split at h
    ·rename_i l hsub;simp only[sI] at h;subst h;rw[Cells.sub_eq] at hsub;obtain⟨out',ho1,ho2,ho3⟩:=zml hl hsub;refine⟨.agg out'.toArray,zat.agg (by simpa using ho1),?_⟩;have hrun:=zcT (P:=P) (a:=⟨b',off+o,none⟩) (w:=w) out' 0 #[] (λj v hj=>by rw[zbP _ rfl];have:=hcell (o+j) v (ho3 j v hj);simpa [Nat.add_assoc] using this);rw[ho2] at hrun;simp[Instr.loadAt,Instr.sureAddr,loadVar,hagg,zbF hs,loadCells,hrun]
    ·cases h
  ·cases h
 ·cases h
end
section
variable{σ:Sig}{P:Program}{ρ:Rho}{r r':Operand->Value}
theorem zd5{k:TypeId}{x:Value}{kd:TypeDesc}(h:zgc P k x=some kd):P.underlying k=some kd∧(∀x',zaq σ ρ x x'->x'=x)∧
  ∀(e:Bool) (w:World),(Instr.checkKey e 10000 k x).run P w= .ok () w:=by
 unfold zgc at h;split at h
 ·rename_i q j n hu;simp only[sI] at h;subst h;have h:∀d e w,(Instr.checkKey e (d+1) k (.int j n)).run P w= .ok () w:=λd e w=>by simp[Instr.checkKey,zag hu]
  exact⟨hu,λx' hx=>hx.int_inv,h 9999⟩
 ·rename_i s hu;simp only[sI] at h;subst h;have h:∀n e w,(Instr.checkKey e (n+1) k (.string s)).run P w= .ok () w:=λn e w=>by simp[Instr.checkKey,zag hu]
  exact⟨hu,λx' hx=>hx.string_inv,h 9999⟩
 ·rename_i b hu;simp only[sI] at h;subst h;have h:∀n e w,(Instr.checkKey e (n+1) k (.bool b)).run P w= .ok () w:=λn e w=>by simp[Instr.checkKey,zag hu]
  exact⟨hu,λx' hx=>hx.bool_inv,h 9999⟩
 ·cases h
theorem zfe{kd:TypeDesc}{x y y':Value}{b:Bool}(hy:zaq σ ρ y y')(h:Instr.sameNow kd x y=some b):Instr.sameNow kd x y'=some b:=by
 cases hy with
 |int=>exact h
 |string=>exact h
 |bool=>exact h
 |_=>cases kd<;>cases x<;>simp[Instr.sameNow] at h
def zcB(σ:Sig)(ρ:Rho)(es:List (Value×Value))(es':List MapEntry):Prop:=
 es.length=es'.length∧∀(i:Nat) (e:Value×Value),es[i]? =some e->∃e':MapEntry,es'[i]? =some e'∧zaq σ ρ e.1 e'.key∧zaq σ ρ e.2 e'.val
theorem zcB.cons_inv{e:Value×Value}{es:List (Value×Value)}{es':List MapEntry}(h:zcB σ ρ (e::es) es'):
  ∃e' l,es'=e'::l∧zaq σ ρ e.1 e'.key∧zaq σ ρ e.2 e'.val∧zcB σ ρ es l:=by
 cases es' with
 |nil=>exact absurd h.1 (by simp)
 |cons e' l=>obtain⟨e'',h1,h2,h3⟩:=h.2 0 e (by simp);simp only[List.getElem?_cons_zero,sI] at h1;subst h1;exact⟨e',l,rfl,h2,h3,by simpa using h.1,λi e he=>by simpa using h.2 (i+1) e (by simpa using he)⟩
theorem zcB.nil_inv{es':List MapEntry}(h:zcB σ ρ [] es'):es'=[]:=by
 cases es' with
 |nil=>rfl
 |cons=>exact absurd h.1 (by simp)
theorem zcB.cons{e:Value×Value}{e':MapEntry}{es:List (Value×Value)}{es':List MapEntry}(h1:zaq σ ρ e.1 e'.key)(h2:zaq σ ρ e.2 e'.val)(h:zcB σ ρ es es'):zcB σ ρ (e::es) (e'::es'):=
 ⟨by simp[h.1],λi x hx=>by
  cases i with
  |zero=>simp only[List.getElem?_cons_zero,sI] at hx;subst hx;exact⟨e',by simp,h1,h2⟩
  |succ i=>simpa using h.2 i x (by simpa using hx)⟩
theorem zcB.nil:zcB σ ρ [] []:=⟨rfl,λi e h=>by simp at h⟩
theorem zn3{kd:TypeDesc}{x:Value}:∀{es:List (Value×Value)} {es':List MapEntry} {f:Option Value} (n:Nat),zcB σ ρ es es'->zlV kd x es=some f->
  (f=none∧Instr.findNow kd x es' n=some none)∨(∃v v' i,f=some v∧zaq σ ρ v v'∧Instr.findNow kd x es' n=some (some (n+i,v'))∧(es'[i]?).map (·.val)=some v'):=by
 intro es
 induction es with
 |nil=>intro es' f n he h;rw[he.nil_inv];simp only[zlV,sI] at h;subst h;exact .inl ⟨rfl,rfl⟩
 |cons e es ih=>
  intro es' f n he h;obtain⟨e',l,rfl,h1,h2,h3⟩:=he.cons_inv;obtain⟨y,u⟩:=e;simp only[zlV] at h;cases hs:Instr.sameNow kd x y with
  |none=>rw[hs] at h;cases h
  |some b=>
   rw[hs] at h;have hs':=zfe h1 hs;cases b with
   |true=>simp only[sI] at h;subst h;exact .inr ⟨u,e'.val,0,rfl,h2,by simp[Instr.findNow,hs'],by simp⟩
   |false=>
    rcases ih (n+1) h3 h with⟨g1,g2⟩|⟨v,v',i,g1,g2,g3,g4⟩
    ·exact .inl ⟨g1,by simp[Instr.findNow,hs',g2]⟩
    ·exact .inr ⟨v,v',i+1,g1,g2,by simp only[Instr.findNow,hs',g3];congr 3;omega,by simpa using g4⟩
theorem zcr{k:TypeId}{kd:TypeDesc}{x:Value}{es':List MapEntry}{f:Option (Nat×Value)}(hu:P.underlying k=some kd)(h:Instr.findNow kd x es' 0=some f)(w:World):
  (Instr.findKey k x es').run P w= .ok f w:=by
 unfold Instr.findKey;simp[zag hu,h]
theorem zjM{k:TypeId}{x:Value}(h:zBk P k x=true):(∃fs,P.underlying k=some (.struct fs))∧(∀x',zaq σ ρ x x'->x'=x)∧
  ∀(e:Bool) (w:World),(Instr.checkKey e 10000 k x).run P w= .ok () w:=by
 unfold zBk at h;split at h
 ·rename_i fs cs hu;simp only[bT] at h;obtain⟨⟨h1,h2⟩,h3⟩:=h;refine⟨⟨_,hu⟩,λx' hx=>(zbG h1 hx).symm,λe w=>?_⟩;obtain⟨u,hu1⟩:=Option.isSome_iff_exists.1 h2;obtain⟨v,hu2⟩:=Option.isSome_iff_exists.1 h3;cases e
  ·exact zdR _ hu2 w
  ·exact zdR _ hu1 w
 ·cases h
theorem zlx{k:TypeId}{x:Value}:∀{es:List (Value×Value)} {es':List MapEntry} {f:Option Value} (n:Nat),zcB σ ρ es es'->zms P k x es=some f->∀w:World,
  (f=none∧(Instr.findAsking k x es' n).run P w= .ok none w)∨(∃v v' i,f=some v∧zaq σ ρ v v'∧(Instr.findAsking k x es' n).run P w= .ok (some (n+i,v')) w∧(es'[i]?).map (·.val)=some v'):=by
 intro es
 induction es with
 |nil=>intro es' f n he h w;rw[he.nil_inv];simp only[zms,sI] at h;subst h;exact .inl ⟨rfl,rfl⟩
 |cons e es ih=>
  intro es' f n he h w;obtain⟨e',l,rfl,h1,h2,h3⟩:=he.cons_inv;obtain⟨y,u⟩:=e;simp only[zms] at h;cases hs:zi7 P k x y with
  |none=>rw[hs] at h;cases h
  |some b=>
   rw[hs] at h;unfold zi7 at hs;split at hs
   ·rename_i hp;obtain rfl:=zbG hp h1;have hr:=zdR _ hs w;cases b with
    |true=>simp only[sI] at h;subst h;exact .inr ⟨u,e'.val,0,rfl,h2,by simp[Instr.findAsking,hr],by simp⟩
    |false=>
     rcases ih (n+1) h3 h w with⟨g1,g2⟩|⟨v,v',i,g1,g2,g3,g4⟩
     ·exact .inl ⟨g1,by simp[Instr.findAsking,hr,g2]⟩
     ·exact .inr ⟨v,v',i+1,g1,g2,by simp[Instr.findAsking,hr,g3];omega,by simpa using g4⟩
   ·cases hs
theorem zb7{k:TypeId}{x:Value}{fs:Array Field}{es':List MapEntry}{f:Option (Nat×Value)}(hu:P.underlying k=some (.struct fs)){w:World}(h:(Instr.findAsking k x es').run P w= .ok f w):
  (Instr.findKey k x es').run P w= .ok f w:=by
 unfold Instr.findKey;cases es' with
 |nil=>simp[zag hu,Instr.findNow];simpa [Instr.findAsking] using h
 |cons e l=>simp[zag hu,Instr.findNow,Instr.sameNow,h]
theorem zfp{m:Mem}{w:World}(hR:Rel σ ρ m w){b:Nat}{x:Nat×Nat×Nat}{es:List (Value×Value)}{rw_:Bool}(hm:m.get b=some (.map es rw_))(hρ:ρ b=some x):
  ∃es' clock,w.heap[x.1]? =some (.map es' clock)∧zcB σ ρ es es'.toList∧MapKept.Stamped es' clock:=by
 obtain⟨es',c,h1,hst,h2,h3⟩:=(hR.obj b _ _ hm hρ:zgu σ ρ w x (.map es rw_));exact⟨es',c,h1,⟨by simpa using h2,λi e he=>by simpa using h3 i e he⟩,hst⟩
theorem zlW{m:Mem}{w:World}(hR:Rel σ ρ m w){b:Nat}{x:Nat×Nat×Nat}{es:List (Value×Value)}{rw_:Bool}(hm:m.get b=some (.map es rw_))(hρ:ρ b=some x):
  ∃es' clock,w.heap[x.1]? =some (.map es' clock)∧zcB σ ρ es es'.toList:=by
 obtain⟨es',c,h1,h2,_⟩:=zfp hR hm hρ;exact⟨es',c,h1,h2⟩
theorem zkM{t:TypeId}{mp mp' k k' v:Value}{ok:Bool}{m:Mem}{w:World}(hR:Rel σ ρ m w)(hm:zaq σ ρ mp mp')(hk:zaq σ ρ k k')(h:ze7 P t mp k ok m=some v):
  ∃v',zaq σ ρ v v'∧(Instr.lookup t mp' k' ok).run P w= .ok v' w:=by
 unfold ze7 at h;split at h
 ·rename_i kt et hu;split at h
  ·rename_i kd z hkd hz;obtain⟨hku,hkx,hck⟩:=zd5 (ρ:=ρ) hkd;obtain rfl:=hkx k' hk;split at h
   ·rename_i hp;have hzz:=zcO hz w;have key:∀(es:List (Value×Value)) (es':Array MapEntry),zcB σ ρ es es'.toList->(match zlV kd k' es with|none=>none|some f=>some (if ok then .tuple #[f.getD z, .bool f.isSome] else f.getD z):Option Value)=some v->
      ∃v',zaq σ ρ v v'∧∃f,(Instr.findKey kt k' es'.toList).run P w= .ok f w∧((match f with|some (_,u)=>pure (u,true)|none=>do pure (<-zeroValue et,false):Sem (Value×Bool)).run P w).andThen (λa w=> .ok (if ok then .tuple #[a.1, .bool a.2] else a.1) w)= .ok v' w:=by
     intro es es' he hf;cases hff:zlV kd k' es with
     |none=>rw[hff] at hf;cases hf
     |some f=>
      rw[hff] at hf;simp only[sI] at hf;subst hf;rcases zn3 0 he hff with⟨g1,g2⟩|⟨u,u',i,g1,g2,g3,_⟩
      ·subst g1;refine⟨if ok then .tuple #[z, .bool false] else z,?_,none,zcr hku g2 w,by simp[hzz]⟩;cases ok
       ·exact zaF (σ:=σ) ρ hp
       ·exact zat.tuple (zat.cons (zaF (σ:=σ) ρ hp) (zat.cons (.bool _) (zat.nil ρ)))
      ·subst g1;refine⟨if ok then .tuple #[u', .bool true] else u',?_,some (0+i,u'),zcr hku g3 w,by simp⟩;cases ok
       ·exact g2
       ·exact zat.tuple (zat.cons g2 (zat.cons (.bool _) (zat.nil ρ)))
    cases mp with
    |map q=>
     cases q with
     |none=>
      simp only at h;obtain⟨v',hv,f,g1,g2⟩:=key [] #[] (by simpa using zcB.nil) h;cases hm;refine⟨v',hv,?_⟩;simp only at g1;simp[Instr.lookup,zag hu,hck,g1];cases f with
      |none=>simpa [hzz] using g2
      |some p=>simpa using g2
     |some b=>
      cases hm with
      |map hρ=>
       cases hmb:m.get b with
       |none=>simp[hmb] at h
       |some ob=>
        cases ob with
        |map es rw_=>
         simp only[hmb] at h;obtain⟨es',clock,g0,he⟩:=zlW hR hmb hρ;obtain⟨v',hv,f,g1,g2⟩:=key es es' he h;refine⟨v',hv,?_⟩;simp only at g0;have hget:∀b',w.heap[b']? =some (Obj.map es' clock)->(getObj b').run P w= .ok (.map es' clock) w:=λb' hb=>by simp[getObj,Sem.run,hb]
         simp[Instr.lookup,zag hu,hget _ g0,hck,g1];cases f with
         |none=>simpa [hzz] using g2
         |some p=>simpa using g2
        |_=>simp[hmb] at h
    |_=>simp at h
   ·cases h
  ·rename_i z hkd hz;split at h
   ·rename_i hpk;simp only[bT] at hpk;obtain⟨hp,hks⟩:=hpk;obtain⟨⟨fs,hku⟩,hkx,hck⟩:=zjM (ρ:=ρ) hks;obtain rfl:=hkx k' hk;have hzz:=zcO hz w;have key:∀(es:List (Value×Value)) (es':Array MapEntry),zcB σ ρ es es'.toList->(match zms P kt k' es with|none=>none|some f=>some (if ok then .tuple #[f.getD z, .bool f.isSome] else f.getD z):Option Value)=some v->
      ∃v',zaq σ ρ v v'∧∃f,(Instr.findKey kt k' es'.toList).run P w= .ok f w∧((match f with|some (_,u)=>pure (u,true)|none=>do pure (<-zeroValue et,false):Sem (Value×Bool)).run P w).andThen (λa w=> .ok (if ok then .tuple #[a.1, .bool a.2] else a.1) w)= .ok v' w:=by
     intro es es' he hf;cases hff:zms P kt k' es with
     |none=>rw[hff] at hf;cases hf
     |some f=>
      rw[hff] at hf;simp only[sI] at hf;subst hf;rcases zlx 0 he hff w with⟨g1,g2⟩|⟨u,u',i,g1,g2,g3,_⟩
      ·subst g1;refine⟨if ok then .tuple #[z, .bool false] else z,?_,none,zb7 hku g2,by simp[hzz]⟩;cases ok
       ·exact zaF (σ:=σ) ρ hp
       ·exact zat.tuple (zat.cons (zaF (σ:=σ) ρ hp) (zat.cons (.bool _) (zat.nil ρ)))
      ·subst g1;refine⟨if ok then .tuple #[u', .bool true] else u',?_,some (0+i,u'),zb7 hku g3,by simp⟩;cases ok
       ·exact g2
       ·exact zat.tuple (zat.cons g2 (zat.cons (.bool _) (zat.nil ρ)))
    cases mp with
    |map q=>
     cases q with
     |none=>
      simp only at h;obtain⟨v',hv,f,g1,g2⟩:=key [] #[] (by simpa using zcB.nil) h;cases hm;refine⟨v',hv,?_⟩;simp only at g1;simp[Instr.lookup,zag hu,hck,g1];cases f with
      |none=>simpa [hzz] using g2
      |some p=>simpa using g2
     |some b=>
      cases hm with
      |map hρ=>
       cases hmb:m.get b with
       |none=>simp[hmb] at h
       |some ob=>
        cases ob with
        |map es rw_=>
         simp only[hmb] at h;obtain⟨es',clock,g0,he⟩:=zlW hR hmb hρ;obtain⟨v',hv,f,g1,g2⟩:=key es es' he h;refine⟨v',hv,?_⟩;simp only at g0;have hget:∀b',w.heap[b']? =some (Obj.map es' clock)->(getObj b').run P w= .ok (.map es' clock) w:=λb' hb=>by simp[getObj,Sem.run,hb]
         simp[Instr.lookup,zag hu,hget _ g0,hck,g1];cases f with
         |none=>simpa [hzz] using g2
         |some p=>simpa using g2
        |_=>simp[hmb] at h
    |_=>simp at h
   ·cases h
  ·cases h
 ·cases h
theorem zr4{t:TypeId}{x x' v:Value}{m:Mem}{w:World}{at_:Array TypeId}{ty:TypeId}(hat:at_[0]? =some t)(hR:Rel σ ρ m w)(hx:zaq σ ρ x x')(h:lenA P t x m=some v)(rest:Array Value)(hr:rest[0]? =some x'):
  zaq σ ρ v v∧(Builtin.len_ at_ ty rest).run P w= .ok v w:=by
 unfold lenA at h;split at h
 ·rename_i s hu;simp only[sI] at h;subst h;obtain rfl:=hx.string_inv;exact⟨.int _ _,by simp[Builtin.len_,hat,hr,zag hu,goInt]⟩
 ·rename_i n e hu;simp only[sI] at h;subst h;exact⟨.int _ _,by simp[Builtin.len_,hat,hr,zag hu,goInt]⟩
 ·rename_i e a n c hu;simp only[sI] at h;subst h;have:∃a' c',x'= .slice a' n c':=by cases hx<;>exact⟨_,_,rfl⟩
  obtain⟨a',c',rfl⟩:=this;exact⟨.int _ _,by simp[Builtin.len_,hat,hr,zag hu,goInt]⟩
 ·rename_i k e hu;simp only[sI] at h;subst h;cases hx;exact⟨.int _ _,by simp[Builtin.len_,hat,hr,zag hu,goInt]⟩
 ·rename_i k e b hu;split at h
  ·rename_i es rw_ hm;simp only[sI] at h;subst h;cases hx with
   |map hρ=>
    obtain⟨es',clock,g0,he⟩:=zlW hR hm hρ;simp only at g0;refine⟨.int _ _,?_⟩;have hsz:es'.size=es.length:=by simpa using he.1.symm
    simp[Builtin.len_,hat,hr,zag hu,goInt,getObj,Sem.run,g0,hsz]
  ·cases h
 ·cases h
end
section
variable{σ:Sig}{P:Program}{ρ:Rho}{r r':Operand->Value}
theorem zhu{op:BinOp}{t:TypeId}{xo yo:Operand}{x y:Value}(h1:¬(x= .nilIface∧y= .nilIface))(h2:∀a b,¬(x= .agg a∧y= .agg b))(w:World):
  (eqGuard op t xo yo x y).run P w= .ok () w:=by
 unfold eqGuard;cases op<;>first|rfl|skip
 all_goals
  cases x<;>cases y<;>first|rfl|(exact absurd ⟨rfl,rfl⟩ h1)|(exact absurd ⟨rfl,rfl⟩ (h2 _ _))
def zEd(op:BinOp)(b:Bool):Option Value:=match op with
 | .eql=>some (.bool b)
 | .neq=>some (.bool !b)
 |_=>none
theorem zd9{op:BinOp}{t:TypeId}{xo yo:Operand}{x y v:Value}{b:Bool}{w:World}(ha:zEd op b=some v)(hb:∀op',(op'= .eql∨op'= .neq)->binOp op' t x y=(match op' with| .eql=>(do pure (.bool (<-Op.equal t x y)))|_=>(do pure (.bool (!(<-Op.equal t x y)))):Sem Value))
  (he:∀d,(Op.equalIn (d+1) t x y).run P w= .ok b w) (h1:¬(x= .nilIface∧y= .nilIface)) (h2:∀a b,¬(x= .agg a∧y= .agg b)):
  zaq σ ρ v v∧(do eqGuard op t xo yo x y;binOp op t x y:Sem Value).run P w= .ok v w:=by
 have heq:(Op.equal t x y).run P w= .ok b w:=he 9999;cases op<;>first|(simp[zEd] at ha;done)|skip
 ·simp only[zEd,sI] at ha;subst ha;exact⟨.bool _,by simp[zhu h1 h2,hb .eql (.inl rfl),heq]⟩
 ·simp only[zEd,sI] at ha;subst ha;exact⟨.bool _,by simp[zhu h1 h2,hb .neq (.inr rfl),heq]⟩
theorem zaH{t:TypeId}{x y:Value}(hx:match x with| .pointer _| .slice .. | .map _| .nilFunc| .func .. | .nilIface| .iface .. =>True|_=>False):
  ∀op',(op'=BinOp.eql∨op'=BinOp.neq)->binOp op' t x y=(match op' with| .eql=>(do pure (.bool (<-Op.equal t x y)))|_=>(do pure (.bool (!(<-Op.equal t x y)))):Sem Value):=by
 intro op' h;rcases h with rfl|rfl
 ·cases x<;>first|exact absurd hx id|(cases y<;>rfl)
 ·cases x<;>first|exact absurd hx id|(cases y<;>rfl)
theorem zyV{t:TypeId}{x x' y y':Value}{m:Mem}{w:World}{b:Bool}(hR:Rel σ ρ m w)(hx:zaq σ ρ x x')(hy:zaq σ ρ y y')(h:eq1 P t x y m=some b):
  ∃d,P.underlying t=some d∧zyk d=false∧∀d,(Op.equalIn (d+1) t x' y').run P w= .ok b w:=by
 unfold eq1 at h;split at h
 ·rename_i a b hu;obtain rfl:=hx.bool_inv;obtain rfl:=hy.bool_inv;simp only[sI] at h;subst h;exact⟨_,hu,rfl,λd=>by simp[Op.equalIn,zag hu]⟩
 ·rename_i k0 k a k' b hu;obtain rfl:=hx.int_inv;obtain rfl:=hy.int_inv;split at h
  ·rename_i hk;subst hk;simp only[sI] at h;subst h;exact⟨_,hu,rfl,λd=>by simp[Op.equalIn,zag hu]⟩
  ·cases h
 ·rename_i e hu;cases hx;cases hy;simp only[sI] at h;subst h;exact⟨_,hu,rfl,λd=>by simp[Op.equalIn,zag hu]⟩
 ·rename_i e a hu;cases hx;have:∃a',y'= .pointer (some a'):=by cases hy;exact⟨_,rfl⟩
  obtain⟨a',rfl⟩:=this;simp only[sI] at h;subst h;exact⟨_,hu,rfl,λd=>by simp[Op.equalIn,zag hu]⟩
 ·rename_i e a hu;cases hy;have:∃a',x'= .pointer (some a'):=by cases hx;exact⟨_,rfl⟩
  obtain⟨a',rfl⟩:=this;simp only[sI] at h;subst h;exact⟨_,hu,rfl,λd=>by simp[Op.equalIn,zag hu]⟩
 ·rename_i e b o b2 o2 hu;obtain⟨c,off,sl,hρ,rfl⟩:=hx.ptr_inv;obtain⟨c2,off2,sl2,hρ2,rfl⟩:=hy.ptr_inv;split at h
  ·rename_i k hs;split at h
   ·rename_i hbb;subst hbb;rw[hρ] at hρ2;simp only[sI,pI] at hρ2;obtain⟨rfl,rfl,rfl⟩:=hρ2;simp only[sI] at h;subst h;refine⟨_,hu,rfl,λd=>?_⟩;have:(sameAddr ⟨c,off+o,none⟩ ⟨c,off+o2,none⟩).run P w= .ok (o==o2) w:=by
     unfold sameAddr;simp only[beq_self_eq_true,if_true];have e:((⟨c,off+o,none⟩:Addr)==⟨c,off+o2,none⟩)=(o==o2):=by rw[Bool.eq_iff_iff];simp
     rw[e];rfl
    simp[Op.equalIn,zag hu,zbF hs,this]
   ·rename_i hbb;split at h
    ·rename_i cs sz cs2 sz2 hm hm2;obtain⟨ca,ta,fa,g1,_,g3,_⟩:=(hR.obj b _ _ hm hρ:za2 σ ρ w (c,off,sl) cs.list true sz);obtain⟨cb,tb,fb,k1,_,k3,_⟩:=(hR.obj b2 _ _ hm2 hρ2:za2 σ ρ w (c2,off2,sl2) cs2.list true sz2);have hne:=hR.inj b b2 _ _ _ _ hbb hm hm2 hρ hρ2 rfl;simp only at hne g1 k1;rw[g3.1 rfl] at g1;rw[k3.1 rfl] at k1;simp only[sI] at h;subst h;refine⟨_,hu,rfl,λd=>?_⟩;have:(sameAddr ⟨c,off+o,none⟩ ⟨c2,off2+o2,none⟩).run P w= .ok false w:=
      run_sameAddr_other w (λe=>hne (by simpa using congrArg Addr.block e)) g1 k1
     simp[Op.equalIn,zag hu,zbF hs,this]
    ·cases h
  ·cases h
 ·cases h
theorem zt4{t:TypeId}{d:TypeDesc}{xs:Array Value}{off:Nat}{x:Value}{w:World}(hu:P.underlying t=some d)(ha:zyk d=false)(hx:xs[off]? =some x):(part t xs off).run P w= .ok x w:=by unfold part;simp[zhN hu,ha,hx]
theorem zat.at? {l l':List Value}{i:Nat}{x:Value}(h:zat σ ρ l l')(hx:l[i]? =some x):∃x',l'[i]? =some x'∧zaq σ ρ x x':=by obtain⟨hl,hv⟩:=h;obtain⟨hi,e⟩:=List.getElem?_eq_some_iff.1 hx;refine⟨l'[i]'(hl▸hi),gE' _,?_⟩;have:=hv i hi;rw[gD',gD',gE' hi,gE' (hl▸hi),e] at this;exact this
theorem zrJ{xs ys xs' ys':Array Value}{m:Mem}{w:World}(hR:Rel σ ρ m w)(hx:zat σ ρ xs.toList xs'.toList)(hy:zat σ ρ ys.toList ys'.toList)(d:Nat):∀{fs:List Field} {b:Bool},eqF P xs.toList ys.toList m fs=some b->
  (do
   for f in fs do
    if f.name≠ "_" then
     if !(<-Op.equalIn (d+1) f.type (<-part f.type xs' f.offset) (<-part f.type ys' f.offset)) then return false
   pure true:Sem Bool).run P w= .ok b w
 |[],b,h=>by simp only[eqF,sI] at h;subst h;simp
 |f::fs,b,h=>by
  unfold eqF at h;split at h
  ·cases h
  ·rename_i hn;split at h
   ·rename_i x y h1 h2;split at h
    ·rename_i a c e1 e2;obtain⟨x',k1,r1⟩:=hx.at? h1;obtain⟨y',k2,r2⟩:=hy.at? h2;obtain⟨dd,hu,ha,hq⟩:=zyV hR r1 r2 e1;simp only[Array.getElem?_toList] at k1 k2;simp only[sI] at h;subst h;have ih:=zrJ hR hx hy d e2;cases a with
     |false=>simp[hn,zt4 hu ha k1,zt4 hu ha k2,hq d]
     |true=>simp only[Bool.true_and];rw[<-ih];simp[hn,zt4 hu ha k1,zt4 hu ha k2,hq d]
    ·cases h
   ·cases h
theorem ztM{op:BinOp}{t:TypeId}{xo yo:Operand}{x x' y y' v:Value}{m:Mem}{w:World}(hR:Rel σ ρ m w)(hx:zaq σ ρ x x')(hy:zaq σ ρ y y')(h:eqA P op t xo yo x y m=some v):
  zaq σ ρ v v∧(do eqGuard op t xo yo x' y';binOp op t x' y':Sem Value).run P w= .ok v w:=by
 unfold eqA at h;simp only at h;split at h
 ·rename_i hp;simp only[bT] at hp;obtain rfl:=zbG hp.1 hx;obtain rfl:=zbG hp.2 hy;obtain⟨hv,hrun⟩:=zfu (σ:=σ) (ρ:=ρ) h;exact⟨hv,hrun w⟩
 ·rename_i hnp;clear hnp;split at h
  ·rename_i e b o b2 o2 hu;obtain⟨c,off,sl,hρ,rfl⟩:=hx.ptr_inv;obtain⟨c2,off2,sl2,hρ2,rfl⟩:=hy.ptr_inv;split at h
   ·rename_i k hs;split at h
    ·rename_i hbb;subst hbb;rw[hρ] at hρ2;simp only[sI,pI] at hρ2;obtain⟨rfl,rfl,rfl⟩:=hρ2;refine zd9 (b:=o==o2) h (zaH trivial) (λd=>?_) (by simp) (by simp);have:(sameAddr ⟨c,off+o,none⟩ ⟨c,off+o2,none⟩).run P w= .ok (o==o2) w:=by
      unfold sameAddr;simp only[beq_self_eq_true,if_true];have e:((⟨c,off+o,none⟩:Addr)==⟨c,off+o2,none⟩)=(o==o2):=by rw[Bool.eq_iff_iff];simp
      rw[e];rfl
     simp[Op.equalIn,zag hu,zbF hs,this]
    ·rename_i hbb;split at h
     ·rename_i cs sz cs2 sz2 hm hm2;obtain⟨ca,ta,fa,g1,_,g3,_⟩:=(hR.obj b _ _ hm hρ:za2 σ ρ w (c,off,sl) cs.list true sz);obtain⟨cb,tb,fb,k1,_,k3,_⟩:=(hR.obj b2 _ _ hm2 hρ2:za2 σ ρ w (c2,off2,sl2) cs2.list true sz2);have hne:=hR.inj b b2 _ _ _ _ hbb hm hm2 hρ hρ2 rfl;simp only at hne g1 k1;rw[g3.1 rfl] at g1;rw[k3.1 rfl] at k1;refine zd9 (b:=false) h (zaH trivial) (λd=>?_) (by simp) (by simp);have:(sameAddr ⟨c,off+o,none⟩ ⟨c2,off2+o2,none⟩).run P w= .ok false w:=
       run_sameAddr_other w (λe=>hne (by simpa using congrArg Addr.block e)) g1 k1
      simp[Op.equalIn,zag hu,zbF hs,this]
     ·cases h
   ·cases h
  ·rename_i e a hu;cases hx;have:∃a',y'= .pointer (some a'):=by cases hy;exact⟨_,rfl⟩
   obtain⟨a',rfl⟩:=this;exact zd9 (b:=false) h (zaH trivial) (λd=>by simp[Op.equalIn,zag hu]) (by simp) (by simp)
  ·rename_i e a hu;cases hy;have:∃a',x'= .pointer (some a'):=by cases hx;exact⟨_,rfl⟩
   obtain⟨a',rfl⟩:=this;exact zd9 (b:=false) h (zaH trivial) (λd=>by simp[Op.equalIn,zag hu]) (by simp) (by simp)
  ·rename_i e n c a n2 c2 hu;cases hx;have:∃a' c',y'= .slice (some a') n2 c':=by cases hy<;>exact⟨_,_,rfl⟩
   obtain⟨a',c',rfl⟩:=this;exact zd9 (b:=false) h (zaH trivial) (λd=>by simp[Op.equalIn,zag hu]) (by simp) (by simp)
  ·rename_i e a n c n2 c2 hu;cases hy;have:∃a' c',x'= .slice (some a') n c':=by cases hx<;>exact⟨_,_,rfl⟩
   obtain⟨a',c',rfl⟩:=this;exact zd9 (b:=false) h (zaH trivial) (λd=>by simp[Op.equalIn,zag hu]) (by simp) (by simp)
  ·rename_i k e a hu;cases hx;have:∃a',y'= .map (some a'):=by cases hy;exact⟨_,rfl⟩
   obtain⟨a',rfl⟩:=this;exact zd9 (b:=false) h (zaH trivial) (λd=>by simp[Op.equalIn,zag hu]) (by simp) (by simp)
  ·rename_i k e a hu;cases hy;have:∃a',x'= .map (some a'):=by cases hx;exact⟨_,rfl⟩
   obtain⟨a',rfl⟩:=this;exact zd9 (b:=false) h (zaH trivial) (λd=>by simp[Op.equalIn,zag hu]) (by simp) (by simp)
  ·rename_i hu;cases hx;have:∃f a c,y'= .func f a c:=by cases hy<;>exact⟨_,_,_,rfl⟩
   obtain⟨f,a,c,rfl⟩:=this;exact zd9 (b:=false) h (zaH trivial) (λd=>by simp[Op.equalIn,zag hu]) (by simp) (by simp)
  ·rename_i hu;cases hy;have:∃f a c,x'= .func f a c:=by cases hx<;>exact⟨_,_,_,rfl⟩
   obtain⟨f,a,c,rfl⟩:=this;exact zd9 (b:=false) h (zaH trivial) (λd=>by simp[Op.equalIn,zag hu]) (by simp) (by simp)
  ·rename_i ms t2 v2 hu;cases hx;have:∃a,y'= .iface t2 a:=by cases hy;exact⟨_,rfl⟩
   obtain⟨a,rfl⟩:=this;exact zd9 (b:=false) h (zaH trivial) (λd=>by simp[Op.equalIn,zag hu]) (by simp) (by simp)
  ·rename_i ms t2 v2 hu;cases hy;have:∃a,x'= .iface t2 a:=by cases hx;exact⟨_,rfl⟩
   obtain⟨a,rfl⟩:=this;exact zd9 (b:=false) h (zaH trivial) (λd=>by simp[Op.equalIn,zag hu]) (by simp) (by simp)
  ·rename_i fs xs ys hu;obtain⟨xs',rfl,hxl⟩:=hx.agg_inv;obtain⟨ys',rfl,hyl⟩:=hy.agg_inv;split at h
   ·cases h
   ·rename_i hc;simp only[Bool.or_eq_true,not_or,Bool.not_eq_true] at hc;cases hf:eqF P xs.toList ys.toList m fs.toList with
    |none=>rw[hf] at h;cases h
    |some b=>
     rw[hf] at h;have heq:(Op.equal t (.agg xs') (.agg ys')).run P w= .ok b w:=by have key:=zrJ hR hxl hyl 9998 hf;show(Op.equalIn (9999+1) t (.agg xs') (.agg ys')).run P w= .ok b w;unfold Op.equalIn;simp only[Sem.run_bind,zag hu,Result.andThen_ok];rw[Array.forIn_toList] at key;simpa [hc.1] using key
     have hg:∀xo yo,(eqGuard op t xo yo (.agg xs') (.agg ys')).run P w= .ok () w:=λxo yo=>by unfold eqGuard;cases op<;>first|rfl|simp[hc.2]
     cases op<;>first|(simp at h;done)|skip
     ·simp only[Option.bind_some,sI] at h;subst h;exact⟨.bool _,by simp[hg,show binOp .eql t (.agg xs') (.agg ys')=(do pure (.bool (<-Op.equal t (.agg xs') (.agg ys'))):Sem Value) from rfl,heq]⟩
     ·simp only[Option.bind_some,sI] at h;subst h;exact⟨.bool _,by simp[hg,show binOp .neq t (.agg xs') (.agg ys')=(do pure (.bool (!(<-Op.equal t (.agg xs') (.agg ys')))):Sem Value) from rfl,heq]⟩
  ·cases h
theorem ziO{ρ:Rho}(f:Value->ByteArray->Sem (ForInStep ByteArray))(hf:∀n s,f (.int .u8 n) s=pure (.yield (s.push (UInt8.ofNat n.toNat))))(w:World):∀{l l':List Value} {s out:ByteArray},zat σ ρ l l'->ze2 l s=some out->
  (forIn l' s f).run P w= .ok out w
 |[],l',s,out,hl,h=>by
  cases l' with
  |nil=>simp only[ze2,sI] at h;subst h;simp
  |cons=>exact absurd hl.1 (by simp)
 |v::l,l',s,out,hl,h=>by
  cases l' with
  |nil=>exact absurd hl.1 (by simp)
  |cons v' l'=>
   have hv:=hl.head;unfold ze2 at h;split at h
   ·rename_i e;cases e
   ·rename_i e;simp only[List.cons.injEq] at e;obtain⟨rfl,rfl⟩:=e;rw[hv.int_inv,List.forIn_cons,hf];simpa using ziO f hf w hl.tail h
   ·cases h
theorem zmi{s d:TypeId}{x x' v:Value}{m:Mem}{w:World}(hR:Rel σ ρ m w)(h:(match P.underlying s,P.underlying d,x with
   |some (.slice e),some .string, .slice (some ⟨b,o,none⟩) n _=>match P.underlying e,m.get b with
    |some (.int .u8),some (.cells cs _ _)=>match cs.sub o n with
     |some l=>(ze2 l .empty).map .string
     |none=>none
    |_,_=>none
   |_,_,_=>none)=some v) (hx:zaq σ ρ x x'):∃v',zaq σ ρ v v'∧(convert s d x').run P w= .ok v' w:=by
 split at h
 ·rename_i e b o n c hs hd;split at h
  ·rename_i cs rw_ sz he hm;split at h
   ·rename_i l hl;simp only[mE] at h;obtain⟨out,hout,rfl⟩:=h;obtain⟨b',off,sl,c',hρ,rfl,_,_⟩:=hx.slice_inv;obtain⟨cs',hcs,hcell⟩:=(hR.obj b _ _ hm hρ:za2 σ ρ w (b',off,sl) cs.list rw_ sz).list;rw[Cells.sub_eq] at hl;obtain⟨l',hl1,hl2,hl3⟩:=zml hcs hl;refine⟨_, .string _,?_⟩;have hload:(loadCells ⟨b',off+o,none⟩ n).run P w= .ok l'.toArray w:=by
     have:=zcT (P:=P) (a:=⟨b',off+o,none⟩) (w:=w) l' 0 #[] λj v hj=>by have h3:=hcell (o+j) v (hl3 j v hj);rw[zbP _ rfl];simpa [Nat.add_assoc] using h3
     rw[hl2] at this;simpa [loadCells] using this
    simp[convert,zag hs,zag hd,zag he,Conv.bytesToString,hload];rw[ziO (σ:=σ) (ρ:=ρ) _ (λ_ _=>rfl) w hl1 hout];rfl
   ·cases h
  ·cases h
 ·cases h
theorem zpb{o:SOp}{o':Oper}{v:Value}{m:Mem}{w:World}(h1:o'.op=o.op)(hr:∀x∈o.op.operands.toList,zaq σ ρ (r x) (r' x))(hR:Rel σ ρ m w)(h:zem P o r m=some v):
  zdq σ P ρ o' r' w v:=by
 rw[<-h1] at hr;cases hop:o.op with
 |load t a=>rw[hop] at h1;simp only[zem,hop] at h;obtain⟨v',hv,hrun⟩:=ziM (P:=P) hR (hr a (by simp[h1,Op.operands])) h;exact⟨v',hv,by simp[execOp,h1,hrun]⟩
 |lookup t mp k ok=>rw[hop] at h1;simp only[zem,hop] at h;obtain⟨v',hv,hrun⟩:=zkM (P:=P) hR (hr mp (by simp[h1,Op.operands])) (hr k (by simp[h1,Op.operands])) h;exact⟨v',hv,by simp[execOp,h1,hrun]⟩
 |binOp op t x y u=>
  rw[hop] at h1;simp only[zem,hop] at h;obtain⟨hv,hrun⟩:=ztM (P:=P) hR (hr x (by simp[h1,Op.operands])) (hr y (by simp[h1,Op.operands])) h;refine⟨v,hv,?_⟩;have e:(execOp r' o').run P w=((do eqGuard op t x y (r' x) (r' y);binOp op t (r' x) (r' y):Sem Value).run P w).andThen λa w'=> .ok (.value a) w':=by simp only[execOp,h1,Sem.run_bind,Sem.run_pure]
  rw[e,hrun];rfl
 |convert s d x=>
  rw[hop] at h1;simp only[zem,hop] at h;split at h
  ·rename_i hp;have hx:=zbG hp (hr x (by simp[h1,Op.operands]));have h':zcm P (convert s d (r x))=some v:=by
    split at h
    ·cases h
    ·exact h
   obtain⟨hv,hrun⟩:=zfu (σ:=σ) (ρ:=ρ) h';refine⟨v,hv,?_⟩;rw[hx] at hrun;simp[execOp,h1,hrun]
  ·obtain⟨v',hv,hrun⟩:=zmi (P:=P) hR h (hr x (by simp[h1,Op.operands]));exact⟨v',hv,by simp[execOp,h1,hrun]⟩
 |call c=>
  rw[hop] at h1;simp only[zem,hop] at h;split at h
  ·rename_i t x hc hat hx;have hmem:x∈c.args.toList:=by
    have:c.args.toList[0]? =some x:=by simpa using hx
    exact List.mem_of_getElem? this
   have hxr:=hr x (by rw[h1];simpa [Op.operands,Call.operands,hc] using hmem);obtain⟨hv,hrun⟩:=zr4 (P:=P) (ty:=o'.type) hat hR hxr h (c.args.map r') (by simp[hx]);exact⟨v,hv,zeA h1 hc (λcs=>rfl) hrun⟩
  ·cases h
 |_=>simp[zem,hop] at h
end
section
variable{σ:Sig}{P:Program}{ρ:Rho}{r r':Operand->Value}
def zmU(σ:Sig)(P:Program)(ρ:Rho)(m:Mem)(w:World)(o':Oper)(r':Operand->Value)(id:Nat)(v:Value)(m':Mem):Prop:=
 ∃x v' w' ρ',(execOp r' o').run P w= .ok x w'∧(x= .value v'∨(x= .skip∧v'=undef))∧zaq σ ρ' v v'∧zaN σ ρ m w ρ' m' w'∧zeU m.next id ρ ρ'
theorem zgf{n id:Nat}{x:Nat×Nat×Nat}:zeU n id ρ (upd ρ id x):=λb _ hb h=>by simpa [upd,hb] using h
theorem ztd{w:World}{id:Nat}{cs:Cells}{ca:Array Value}{t:TypeId}{sz:Nat}(hid:ρ id=none)(h:zat σ ρ cs.list ca.toList):
  zgu σ (upd ρ id (w.heap.size,0,0)) (w.alloc (.cells ca t)) (w.heap.size,0,0) (.cells cs true sz):=by
 refine⟨ca,t,(0,0),?_,?_,⟨λ_=>rfl,λ_=>rfl⟩,λi hi=>?_⟩
 ·show(w.heap.push _)[w.heap.size]? =_;simp
 ·have:=h.1;simp at this⊢;omega
 ·have:=h.2 i hi;rw[<-zaw] at this;simpa using this.mono (zeB hid _)
theorem zc7{m:Mem}{w:World}{o':Oper}{id:Nat}{cs:Cells}{ca:Array Value}{t:TypeId}{sz:Nat}{v v':Value}(hR:Rel σ ρ m w)(hid:ρ id=none)(hlt:id<m.next)(h:zat σ ρ cs.list ca.toList)
  (hrun:(execOp r' o').run P w= .ok (.value v') (w.alloc (.cells ca t))) (hv:zaq σ (upd ρ id (w.heap.size,0,0)) v v'):zmU σ P ρ m w o' r' id v (m.put id (.cells cs true sz)):=
 ⟨_,v',_,_,hrun, .inl rfl,hv,zaN.make hR hid hlt rfl (ztd hid h),zgf⟩
theorem zhK{z:Value}{n s:Nat}(hp:plain z=true)(hs:z.cells.size=s)(hs0:0<s):zat σ ρ (zeN z.cells.toList n) ((Array.range n).map (z.cells[· % z.cells.size]!)).toList:=by
 have hz:=(zaF (σ:=σ) ρ hp).cells (zdl hp);refine⟨by simp[zeN,Cells.zeros1],λi hi=>?_⟩;have hn:i<n:=by simpa [zeN,Cells.zeros1] using hi
 have hmod:i % s<s:=Nat.mod_lt _ hs0;have h1:(zeN z.cells.toList n).getD i undef=z.cells.toList.getD (i % s) undef:=by
  have hl:z.cells.toList.length=s:=by simpa using hs
  simp only[zeN,Cells.zeros1,gD',gM',List.getElem?_range hn,Option.map_some,Option.getD_some,hl]
 have h2:(((Array.range n).map (z.cells[· % z.cells.size]!)).toList).getD i undef=z.cells.toList.getD (i % s) undef:=by rw[gD',Array.getElem?_toList,Array.getElem?_map,Array.getElem?_range];simp only[hn,if_true,Option.map_some,Option.getD_some,hs];rw[gD',Array.getElem?_toList,Array.getElem!_eq_getD,Array.getD_eq_getD_getElem?,Array.getElem?_eq_getElem (by omega)];rfl
 rw[h1,h2];exact hz.at_ _
theorem zou{o:SOp}{o':Oper}{ob:zaS}{mk:Nat->Value}{m:Mem}{w:World}{id:Nat}(h1:o'.op=o.op)(hr:∀x∈o.op.operands.toList,zaq σ ρ (r x) (r' x))(hR:Rel σ ρ m w)(hid:ρ id=none)(hlt:id<m.next)
  (h:zdc P o r=some (ob,mk)):zmU σ P ρ m w o' r' id (mk id) (m.put id ob):=by
 rw[<-h1] at hr;have hptr:∀k,zaq σ (upd ρ id (w.heap.size,0,0)) (ptr id k) (ptr w.heap.size k):=λk=>by simpa using zaq.ptr (σ:=σ) (o:=k) (zbo ρ id (w.heap.size,0,0))
 have hsl:∀n c,n<=c->zaq σ (upd ρ id (w.heap.size,0,0)) (.slice (some ⟨id,0,none⟩) n c) (.slice (some ⟨w.heap.size,0,none⟩) n c):=λn c hn=>by simpa using zaq.slice (σ:=σ) (o:=0) (zbo ρ id (w.heap.size,0,0)) (.inl rfl) hn
 cases hop:o.op with
 |alloc t=>
  rw[hop] at h1;simp only[zdc,hop] at h;split at h
  ·rename_i z hz;split at h
   ·rename_i hp;simp only[sI,pI] at h;obtain⟨rfl,rfl⟩:=h;exact zc7 hR hid hlt (by rw[Cells.ofList_list];exact(zaF (σ:=σ) ρ hp).cells (zdl hp)) (by simp[execOp,h1,Instr.alloc,zcO hz,newVar,newRow];rfl) (hptr 0)
   ·cases h
  ·cases h
 |box t x=>
  rw[hop] at h1;simp only[zdc,hop] at h;cases hj:zdn (r x) with
  |true=>rw[hj] at h;cases h
  |false=>rw[hj] at h;simp only[bF,if_false,sI,pI] at h;obtain⟨rfl,rfl⟩:=h;exact zc7 hR hid hlt (by rw[Cells.ofList_list];exact((hr x (by simp[h1,Op.operands])).cells hj)) (by simp[execOp,h1,Instr.box,newVar,newRow];rfl) (hptr 0)
 |buildSlice t len parts=>
  rw[hop] at h1;rw[h1] at hr;simp only[zdc,hop] at h;split at h
  ·rename_i e hu;split at h
   ·rename_i s z hs hz;split at h
    ·rename_i hc;simp only[bT,decide_eq_true_eq,beq_iff_eq] at hc;obtain⟨⟨⟨hp,h24⟩,hzs⟩,hs0⟩:=hc;simp only[mE,pI] at h;obtain⟨out,hf,rfl,rfl⟩:=h;obtain⟨hl1,hl2⟩:=zkw (r:=r) (r':=r') (parts:=parts) λp hpp=>hr p.2 (by simp only[Op.operands];exact List.mem_map.2 ⟨p,hpp,rfl⟩);by_cases hn:len*s=0
     ·have hzero:zat σ ρ (zeN z.cells.toList (len*s)) []:=by rw[hn];exact zat.nil ρ
      obtain⟨out',ho',hf'⟩:=zeG (place':=λi=>some (i*s,s)) hzero (λi p hp=>hp) hl1 hl2 hf;refine zc7 (t:=e) hR hid hlt (by rw[Cells.ofList_list];exact ho') ?_ (hsl len len (lR' _));have hn':¬2 ^ 24<len*s:=by omega
      have e0:((Array.range (len*s)).map λx=>(#[]:Array Value)[x % (#[]:Array Value).size]!)= #[]:=by rw[hn];simp
      rw[show([]:List Value).toArray= #[] from rfl] at hf';simp only[execOp,h1,Instr.buildSlice,Sem.run_bind,zag hu,zbF hs,Result.andThen_ok,if_pos hn,if_neg hn',Sem.run_pure,gt_iff_lt];rw[e0,hf'];simp[newRow]
     ·have hzero:=zhK (σ:=σ) (ρ:=ρ) (n:=len*s) hp hzs hs0;obtain⟨out',ho',hf'⟩:=zeG (place':=λi=>some (i*s,s)) hzero (λi p hp=>hp) hl1 hl2 hf;refine zc7 (t:=e) hR hid hlt (by rw[Cells.ofList_list];exact ho') ?_ (hsl len len (lR' _));have hn':¬2 ^ 24<len*s:=by omega
      rw[Array.toArray_toList] at hf';simp only[execOp,h1,Instr.buildSlice,Sem.run_bind,zag hu,zbF hs,Result.andThen_ok,if_neg hn,if_neg hn',zcO hz,Sem.run_pure,gt_iff_lt];rw[hf'];simp[newRow]
    ·cases h
   ·cases h
  ·cases h
 |makeMap t hint=>
  rw[hop] at h1;have hmap:zgu σ (upd ρ id (w.heap.size,0,0)) (w.alloc (.map #[] 0)) (w.heap.size,0,0) (.map [] true):=by refine⟨#[],0,?_,MapKept.stamped_empty 0,rfl,λi e he=>by simp at he⟩;show(w.heap.push _)[w.heap.size]? =_;simp
  have hv:zaq σ (upd ρ id (w.heap.size,0,0)) (.map (some id)) (.map (some w.heap.size)):= .map (zbo ρ id (w.heap.size,0,0));simp only[zdc,hop] at h;cases hint with
  |none=>simp only[sI,pI] at h;obtain⟨rfl,rfl⟩:=h;exact⟨_,_,_,_,by simp[execOp,h1,Instr.makeMap], .inl rfl,hv,zaN.make hR hid hlt rfl hmap,zgf⟩
  |some x=>
   simp only at h;split at h
   ·rename_i k e q n hu hx;simp only[sI,pI] at h;obtain⟨rfl,rfl⟩:=h;have hxr:=hr x (by simp[h1,Op.operands]);rw[hx] at hxr;have hxx:=hxr.int_inv;exact⟨_,_,_,_,by simp[execOp,h1,Instr.makeMap,zag hu,hxx,asInt,asIntOf], .inl rfl,hv,zaN.make hR hid hlt rfl hmap,zgf⟩
   ·cases h
 |range t x=>
  rw[hop] at h1;simp only[zdc,hop] at h;split at h
  ·rename_i s hu hx;simp only[sI,pI] at h;obtain⟨rfl,rfl⟩:=h;have hxr:=hr x (by simp[h1,Op.operands]);rw[hx] at hxr;have hxx:=hxr.string_inv;have hit:zgu σ (upd ρ id (w.heap.size,0,0)) (w.alloc (.stringIter s 0)) (w.heap.size,0,0) (.strIter s 0):=by refine⟨?_,rfl⟩;show(w.heap.push _)[w.heap.size]? =_;simp
   exact⟨_,_,_,_,by simp[execOp,h1,Instr.range,zag hu,hxx], .inl rfl,hptr 0,zaN.make hR hid hlt rfl hit,zgf⟩
  ·cases h
 |makeSlice t l c=>
  rw[hop] at h1;simp only[zdc,hop] at h;split at h
  ·rename_i e n k hu hl hc;split at h
   ·rename_i i z hi hz;split at h
    ·rename_i hcond;simp only[bT,decide_eq_true_eq,beq_iff_eq] at hcond;obtain⟨⟨⟨⟨⟨⟨hp,hn0⟩,hnk⟩,hk40⟩,hbytes⟩,hzs⟩,hs0⟩:=hcond;simp only[sI,pI] at h;obtain⟨rfl,rfl⟩:=h;have hlr:=hr l (by simp[h1,Op.operands]);have hcr:=hr c (by simp[h1,Op.operands]);rw[hl] at hlr;rw[hc] at hcr;have hll:=hlr.int_inv;have hcc:=hcr.int_inv;have hw1:IntKind.i64.wrap n=n:=IntWalk.i64_in _ ⟨by omega,by omega⟩;have hw2:IntKind.i64.wrap k=k:=IntWalk.i64_in _ ⟨by omega,by omega⟩;have hsz:(sizeOf e).run P w= .ok i.size w:=by simp[sizeOf,zb0 hi]
     have ht:((k<0||(i.bytes:Int)*k>2 ^ 48)||n<0||n>k)=false:=by simp only[Bool.or_eq_false_iff,decide_eq_false_iff_not];exact⟨⟨⟨by omega,by omega⟩,by omega⟩,by omega⟩
     refine zc7 (t:=e) hR hid hlt (by rw[Cells.fill_list];exact zhK (σ:=σ) (ρ:=ρ) (n:=k.toNat*i.size) hp hzs hs0) ?_ (hsl n.toNat k.toNat (by omega));by_cases hn:k.toNat*i.size=0
     ·have e0:((Array.range (k.toNat*i.size)).map (z.cells[· % z.cells.size]!))= #[]:=by rw[hn];simp
      have e1:((Array.range 0).map λx=>(#[]:Array Value)[x % (#[]:Array Value).size]!)= #[]:=by simp
      rw[e0];simp only[execOp,h1,Instr.makeSlice,Sem.run_bind,zag hu,Result.andThen_ok,hll,hcc,asInt,asIntOf,Sem.run_pure,zb0 hi,hw1,hw2,ht,bF,↓reduceIte,run_askRoom,hsz,hn,newRow];rw[e1];simp
     ·simp only[execOp,h1,Instr.makeSlice,Sem.run_bind,zag hu,Result.andThen_ok,hll,hcc,asInt,asIntOf,Sem.run_pure,zb0 hi,hw1,hw2,ht,bF,↓reduceIte,run_askRoom,hsz,if_neg hn,zcO hz,newRow];simp
    ·cases h
   ·cases h
  ·cases h
 |_=>simp[zdc,hop] at h
end
end Go.Ab
