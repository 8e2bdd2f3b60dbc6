/- Part. -/
import Derived.Test.YtdhcheegbnnlbaaGreatDoorA08
set_option linter.all false
open Go.Ab.Mem renaming next_bump → bN, next_put → nP, get_bump → gB, get_put → gP
open Nat renaming le_add_right_of_le → lA, lt_of_lt_of_le → lL, le_refl → lR', le_trans → lT
open List renaming getD_eq_getElem?_getD → gD', getElem?_eq_getElem → gE', append_assoc → aA, getElem?_append_left → aB', mem_append_right → aD', length_set → sL
open Bool renaming false_eq_true → bF
namespace Go.Ab
noncomputable section
section
variable{P:Program}{E:Env}{n0:Nat}{rd:Option Nat}
section
variable{base i:Nat}{rest:List (Nat×SOp)}{L:List Inst}{t:List Value}{m:Mem}{K:KI}{ty rt:TypeId}{d:Tmp}
theorem Z_guard [NoSym E]{dst:Option Tmp}{op:Op}{g:Tmp}{b:Bool}:XWi E base ((i,⟨dst,op,ty,some (g,b)⟩)::rest) L t m (Q:=K)=GDi (t.getD g undef) b (A:=⟨XWi E base ((i,⟨dst,op,ty,none⟩)::rest) L t m (Q:=K)⟩) (B:=⟨XWi E base rest L (putT dst undef t) m (Q:=K)⟩):=X_guard NoSym.h
theorem Z_pick [NoSym E]{a b c:Operand}:XWi E base ((i,⟨some d, .pick c a b,ty,none⟩)::rest) L t m (Q:=K)=okI (pickV (ev c t) (ev a t) (ev b t)) (k:=⟨λv=>XWi E base rest L (t.set d v) m (Q:=K)⟩):=X_pick NoSym.h
theorem Z_bin [NoSym E]{op:BinOp}{yt:TypeId}{x y:Operand}(h:isCmp op=false):XWi E base ((i,⟨some d, .binOp op ty x y yt,rt,none⟩)::rest) L t m (Q:=K)=okI (binV E.P op ty (ev x t) (ev y t)) (k:=⟨λv=>XWi E base rest L (t.set d v) m (Q:=K)⟩):=X_bin NoSym.h h
theorem Z_eql [NoSym E]{yt:TypeId}{x y:Operand}:XWi E base ((i,⟨some d, .binOp .eql ty x y yt,rt,none⟩)::rest) L t m (Q:=K)=okI (eqA E.P .eql ty x y (ev x t) (ev y t) m) (k:=⟨λv=>XWi E base rest L (t.set d v) m (Q:=K)⟩):=X_eql NoSym.h
theorem Z_neq [NoSym E]{yt:TypeId}{x y:Operand}:XWi E base ((i,⟨some d, .binOp .neq ty x y yt,rt,none⟩)::rest) L t m (Q:=K)=okI (eqA E.P .neq ty x y (ev x t) (ev y t) m) (k:=⟨λv=>XWi E base rest L (t.set d v) m (Q:=K)⟩):=X_neq NoSym.h
theorem Z_un [NoSym E]{op:UnOp}{x:Operand}:XWi E base ((i,⟨some d, .unOp op ty x,rt,none⟩)::rest) L t m (Q:=K)=okI (unV E.P op (ev x t)) (k:=⟨λv=>XWi E base rest L (t.set d v) m (Q:=K)⟩):=X_un NoSym.h
theorem Z_nilCheck [NoSym E]{x:Operand}:XWi E base ((i,⟨some d, .nilCheck x,ty,none⟩)::rest) L t m (Q:=K)=okI (nilV E.P (ev x t)) (k:=⟨λv=>XWi E base rest L (t.set d v) m (Q:=K)⟩):=X_nilCheck NoSym.h
theorem Z_field [NoSym E]{x:Operand}{f:Nat}:XWi E base ((i,⟨some d, .field ty x f,rt,none⟩)::rest) L t m (Q:=K)=okI (pureA E.P ⟨some d, .field ty x f,rt,none⟩ (ev · t)) (k:=⟨λv=>XWi E base rest L (t.set d v) m (Q:=K)⟩):=X_field NoSym.h
theorem Z_extract [NoSym E]{x:Operand}{k:Nat}:XWi E base ((i,⟨some d, .extract x k,ty,none⟩)::rest) L t m (Q:=K)=okI (match ev x t with| .tuple vs=>vs[k]? |_=>none) (k:=⟨λv=>XWi E base rest L (t.set d v) m (Q:=K)⟩):=X_extract NoSym.h
theorem Z_makeFunc [NoSym E]{f:FuncId}{a c:Array Operand}:XWi E base ((i,⟨some d, .makeFunc (.func f) a c,ty,none⟩)::rest) L t m (Q:=K)=XWi E base rest L (t.set d (.func (.func f) (a.map (ev · t)) (c.map (ev · t)))) m (Q:=K):=X_makeFunc NoSym.h
theorem Z_makeMeth [NoSym E]{nm:String}{a c:Array Operand}:XWi E base ((i,⟨some d, .makeFunc (.method nm) a c,ty,none⟩)::rest) L t m (Q:=K)=okI (methV nm (a.map (ev · t)).toList (c.map (ev · t)).toList) (k:=⟨λv=>XWi E base rest L (t.set d v) m (Q:=K)⟩):=X_makeMeth NoSym.h
theorem Z_build [NoSym E]{ps:Array (Nat×Operand)}:XWi E base ((i,⟨some d, .build ty ps,rt,none⟩)::rest) L t m (Q:=K)=okI (buildA E.P ty (ps.toList.map λp=>(p.1,ev p.2 t))) (k:=⟨λv=>XWi E base rest L (t.set d v) m (Q:=K)⟩):=X_build NoSym.h
theorem Z_slice [NoSym E]{x:Operand}{l h:Option Operand}:XWi E base ((i,⟨some d, .slice ty x l h none,rt,none⟩)::rest) L t m (Q:=K)=okI (sliceA E.P ty (ev x t) (l.map (ev · t)) (h.map (ev · t))) (k:=⟨λv=>XWi E base rest L (t.set d v) m (Q:=K)⟩):=X_slice NoSym.h
theorem Z_load [NoSym E]{a:Operand}:XWi E base ((i,⟨some d, .load ty a,rt,none⟩)::rest) L t m (Q:=K)=okI (loadA E.P ty (ev a t) m) (k:=⟨λv=>XWi E base rest L (t.set d v) m (Q:=K)⟩):=X_load NoSym.h
theorem Z_lookup [NoSym E]{x k:Operand}{ok:Bool}:XWi E base ((i,⟨some d, .lookup ty x k ok,rt,none⟩)::rest) L t m (Q:=K)=okI (lookupA E.P ty (ev x t) (ev k t) ok m) (k:=⟨λv=>XWi E base rest L (t.set d v) m (Q:=K)⟩):=X_lookup NoSym.h
theorem Z_convert [NoSym E]{s e:TypeId}{x:Operand}:XWi E base ((i,⟨some d, .convert s e x,rt,none⟩)::rest) L t m (Q:=K)=okI (convV E.P s e (ev x t) m) (k:=⟨λv=>XWi E base rest L (t.set d v) m (Q:=K)⟩):=X_convert NoSym.h
theorem Z_len [NoSym E]{x:Operand}:XWi E base ((i,⟨some d, .call ⟨.builtin .len,#[x],#[ty]⟩,rt,none⟩)::rest) L t m (Q:=K)=okI (lenA E.P ty (ev x t) m) (k:=⟨λv=>XWi E base rest L (t.set d v) m (Q:=K)⟩):=X_len NoSym.h
def offO:Option Nat->Value->Option Value
 |some n,v=>offV v n
 |none,_=>none
theorem offO_some{n:Nat}{v:Value}:offO (some n) v=offV v n:=rfl
theorem Z_fieldAddr [NoSym E]{x:Operand}{f:Nat}:XWi E base ((i,⟨some d, .fieldAddr ty x f,rt,none⟩)::rest) L t m (Q:=K)=okI (offO (fieldOff E.P ty f) (ev x t)) (k:=⟨λv=>XWi E base rest L (t.set d v) m (Q:=K)⟩):=by
 cases h:fieldOff E.P ty f with
 |some off=>exact X_fieldAddr NoSym.h h
 |none=>
  refine propext ?_
  unfold XWi okI
  rw[XW_pure rfl rfl,pureE_none NoSym.h]
  have:pureA E.P ⟨some d, .fieldAddr ty x f,rt,none⟩ (ev · t)=none:=by
   simp only[pureA]
   unfold fieldOff at h
   split
   ·rename_i fs b o h1 h2
    rw[h1] at h
    simp only at h
    split
    ·rename_i fl h3
     rw[h3] at h
     simp only at h
     split
     ·rename_i n h4;rw[h4] at h;cases h
     ·rfl
    ·rfl
   ·rfl
  rw[this]
  exact Iff.rfl
def idxG(P:Program)(d:Option TypeDesc)(x i:Value):Option Value:=match d,x,i with
 |some (.array len e), .pointer (some ⟨b,o,none⟩), .int _ n=>if 0<=n∧n<len then match szOf P e with
   |some s=>some (ptr b (o+n.toNat*s))
   |none=>none
  else none
 |some (.slice e), .slice (some ⟨b,o,none⟩) len _, .int _ n=>if 0<=n∧n<len then match szOf P e with
   |some s=>some (ptr b (o+n.toNat*s))
   |none=>none
  else none
 |_,_,_=>none
theorem Z_indexAddr [NoSym E]{x y:Operand}:XWi E base ((i,⟨some d, .indexAddr ty x y,rt,none⟩)::rest) L t m (Q:=K)=okI (idxG E.P (E.P.underlying ty) (ev x t) (ev y t)) (k:=⟨λv=>XWi E base rest L (t.set d v) m (Q:=K)⟩):=X_indexAddr NoSym.h
def mulO(b o:Nat)(n:Int):Option Nat->Option Value
 |some s=>some (.pointer (some ⟨b,o+n.toNat*s,none⟩))
 |none=>none
theorem mulO_some{b o s:Nat}{n:Int}:mulO b o n (some s)=some (.pointer (some ⟨b,o+n.toNat*s,none⟩)):=rfl
theorem idxG_arr{e:TypeId}{len b o:Nat}{k:IntKind}{n:Int}(h1:0<=n)(h2:n<len):idxG P (some (.array len e)) (.pointer (some ⟨b,o,none⟩)) (.int k n)=mulO b o n (szOf P e):=by
 unfold idxG mulO;simp only[h1,h2,and_self,if_true]
theorem idxG_sl{e:TypeId}{len c b o:Nat}{k:IntKind}{n:Int}(h1:0<=n)(h2:n<len):idxG P (some (.slice e)) (.slice (some ⟨b,o,none⟩) len c) (.int k n)=mulO b o n (szOf P e):=by
 unfold idxG mulO;simp only[h1,h2,and_self,if_true]
def ldG:Option (Option Nat)->Option AObj->Nat->Option Value
 |some none,o,n=>ld1 o n
 |some (some k),o,n=>ldN o n k
 |none,_,_=>none
theorem ldG_1{o:Option AObj}{n:Nat}:ldG (some none) o n=ld1 o n:=rfl
theorem ldG_N{o:Option AObj}{n k:Nat}:ldG (some (some k)) o n=ldN o n k:=rfl
theorem loadG{b o:Nat}:loadA P ty (.pointer (some ⟨b,o,none⟩)) m=ldG (lay P ty) (m.get b) o:=by
 cases h:lay P ty with
 |none=>
  unfold loadA
  rw[h]
  show(match m.get b with|some (.cells cs _ _)=>_|_=>none)=none
  cases m.get b with
  |none=>rfl
  |some x=>cases x<;>rfl
 |some l=>cases l with
  |none=>exact load1 h
  |some k=>exact loadN h
def stG:Option Nat->Option AObj->Nat->Nat->List Value->Mem->Option Mem
 |some k,o,b,n,l,m=>st1 o b n k l m
 |none,_,_,_,_,_=>none
theorem stG_some{o:Option AObj}{b n k:Nat}{l:List Value}{m:Mem}:stG (some k) o b n l m=st1 o b n k l m:=rfl
theorem storeG{b o:Nat}{v:Value}:storeA P ty (.pointer (some ⟨b,o,none⟩)) v m=stG (szOf P ty) (m.get b) b o v.cells.toList m:=by
 cases h:szOf P ty with
 |some n=>exact store1 h
 |none=>
  unfold storeA
  rw[h]
  show(match m.get b with|some (.cells cs true sz)=>_|_=>none)=none
  cases m.get b with
  |none=>rfl
  |some x=>cases x with
   |cells c w z=>cases w<;>rfl
   |_=>rfl
theorem len_sl{p:Option Addr}{n c:Nat}(h:slT P ty=true):lenA P ty (.slice p n c) m=some (.int .i64 n):=by
 unfold slT at h
 split at h
 ·rename_i e hu;exact len_slice hu
 ·cases h
theorem ptT_und(h:ptT P ty=true):∃e k,P.underlying ty=some (.pointer e)∧szOf P e=some (k+1):=by
 unfold ptT at h
 split at h
 ·rename_i e hu
  split at h
  ·rename_i k hk;exact⟨e,k,hu,hk⟩
  ·cases h
 ·cases h
theorem eqP_nil{x y:Operand}{p:Addr}(h:ptT P ty=true):eqA P .eql ty x y (.pointer (some p)) (.pointer none) m=some (.bool false):=by
 obtain⟨e,k,hu,_⟩:=ptT_und h;exact eq_ptr_nil hu
theorem neqP_nil{x y:Operand}{p:Addr}(h:ptT P ty=true):eqA P .neq ty x y (.pointer (some p)) (.pointer none) m=some (.bool true):=by
 obtain⟨e,k,hu,_⟩:=ptT_und h;exact neq_ptr_nil hu
theorem eqP_pp{x y:Operand}{a b:Nat}{ca cb:Cells}{za zb:Nat}(h:ptT P ty=true)(ha:m.get a=some (.cells ca true za))(hb:m.get b=some (.cells cb true zb)):eqA P .eql ty x y (.pointer (some ⟨a,0,none⟩)) (.pointer (some ⟨b,0,none⟩)) m=some (.bool (decide (a=b))):=by
 obtain⟨e,k,hu,hz⟩:=ptT_und h
 unfold eqA
 rw[if_neg (by simp[plain,plainN]),hu]
 simp only[hz,ha,hb]
 by_cases e:a=b
 ·simp[e]
 ·simp[e]
theorem neqP_pp{x y:Operand}{a b:Nat}{ca cb:Cells}{za zb:Nat}(h:ptT P ty=true)(ha:m.get a=some (.cells ca true za))(hb:m.get b=some (.cells cb true zb)):eqA P .neq ty x y (.pointer (some ⟨a,0,none⟩)) (.pointer (some ⟨b,0,none⟩)) m=some (.bool (!decide (a=b))):=by
 obtain⟨e,k,hu,hz⟩:=ptT_und h
 unfold eqA
 rw[if_neg (by simp[plain,plainN]),hu]
 simp only[hz,ha,hb]
 by_cases e:a=b
 ·simp[e]
 ·simp[e]
def fieldV(P:Program)(ty:TypeId)(v:Value)(f:Nat):Option Value:=pureA P ⟨none, .field ty (.const v) f,0,none⟩ (λ_=>v)
theorem Z_fieldV [NoSym E]{x:Operand}{f:Nat}:XWi E base ((i,⟨some d, .field ty x f,rt,none⟩)::rest) L t m (Q:=K)=okI (fieldV E.P ty (ev x t) f) (k:=⟨λv=>XWi E base rest L (t.set d v) m (Q:=K)⟩):=Z_field
def paG:Option Nat->Option (Option Nat)->List Value->Nat->Option Value
 |some s,some none,l,k=>l[k*s]?
 |some s,some (some n),l,k=>some (.agg ((l.drop (k*s)).take n).toArray)
 |_,_,_,_=>none
theorem paG_1{l:List Value}{s k:Nat}:paG (some s) (some none) l k=l[k*s]? :=rfl
theorem paG_N{l:List Value}{s n k:Nat}:paG (some s) (some (some n)) l k=some (.agg ((l.drop (k*s)).take n).toArray):=rfl
def ixV(P:Program)(ty:TypeId)(v w:Value):Option Value:=pureA P ⟨none, .index ty (.const v) (.const w),0,none⟩ (ev · [])
theorem Z_index [NoSym E]{x y:Operand}:XWi E base ((i,⟨some d, .index ty x y,rt,none⟩)::rest) L t m (Q:=K)=okI (ixV E.P ty (ev x t) (ev y t)) (k:=⟨λv=>XWi E base rest L (t.set d v) m (Q:=K)⟩):=by
 refine propext ?_
 unfold XWi okI
 rw[XW_pure rfl rfl,pureE_none NoSym.h]
 rfl
theorem ixV_agg{l:List Value}{n:Int}{k:IntKind}{len e:Nat}(hu:P.underlying ty=some (.array len e))(h1:0<=n)(h2:n<len):ixV P ty (.agg l.toArray) (.int k n)=paG (szOf P e) (lay P e) l n.toNat:=by
 unfold ixV
 simp only[pureA,ev,hu,h1,h2,and_self,if_true]
 cases szOf P e with
 |none=>unfold paG;rfl
 |some s=>
  unfold paG partA
  simp only
  cases lay P e with
  |none=>rfl
  |some o=>cases o with
   |none=>simp
   |some w=>
    simp only
    congr 2
    simp[List.extract_eq_take_drop]
theorem putT_some{k:Nat}{v:Value}:putT (some k) v t=t.set k v:=rfl
theorem putT_none{v:Value}:putT none v t=t:=rfl
theorem ZY_guard [NoSym E]{h:List (Nat×Option Mem)}{ys:List (Nat×SOp×List Nat×Bool)}{kp:Bool}{e:Nat}{l:List Nat}{dst:Option Tmp}{op:Op}{g:Tmp}{b:Bool}:YWi E base ((i,⟨dst,op,ty,some (g,b)⟩,e::l,kp)::ys) h L t m (Q:=K)=
  GDi (t.getD g undef) b (A:=⟨YWi E base ((i,⟨dst,op,ty,none⟩,e::l,kp)::ys) h L t m (Q:=K)⟩) (B:=⟨YWi E base ys ((i,keepM kp m)::h) L (putT dst undef t) m (Q:=K)⟩):=Y_guard NoSym.h
theorem ZRE_load [NoSym E]{dst:Option Tmp}{g:Option (Tmp×Bool)}{a:Operand}:readE E ⟨dst, .load ty a,rt,g⟩ (ev · t) m=loadA E.P ty (ev a t) m:=RE_load NoSym.h
theorem ZRE_len [NoSym E]{dst:Option Tmp}{g:Option (Tmp×Bool)}{x:Operand}{t:List Value}{m:Mem}{ty rt:TypeId}:readE E ⟨dst, .call ⟨.builtin .len,#[x],#[ty]⟩,rt,g⟩ (ev · t) m=lenA E.P ty (ev x t) m:=RE_len NoSym.h
theorem isCmp_lss:isCmp .lss=false:=rfl
theorem isCmp_leq:isCmp .leq=false:=rfl
theorem isCmp_gtr:isCmp .gtr=false:=rfl
theorem isCmp_geq:isCmp .geq=false:=rfl
theorem isCmp_add:isCmp .add=false:=rfl
theorem isCmp_sub:isCmp .sub=false:=rfl
theorem isCmp_mul:isCmp .mul=false:=rfl
theorem isCmp_rem:isCmp .rem=false:=rfl
theorem isCmp_quo:isCmp .quo=false:=rfl
theorem isCmp_and:isCmp .and=false:=rfl
theorem isCmp_or:isCmp .or=false:=rfl
theorem isCmp_xor:isCmp .xor=false:=rfl
theorem isCmp_andNot:isCmp .andNot=false:=rfl
theorem isCmp_shl:isCmp .shl=false:=rfl
theorem isCmp_shr:isCmp .shr=false:=rfl
end
def XX:=aI @eN_c<|aI @eN_n<|aI @W_seq<|aI @W_block<|aI @W_cond<|aI @W_ret<|aI @W_skip<|aI @W_exit<|aI @W_scope<|aI @W_label<|aI @thenQ_normal<|aI @thenQ_ret<|aI @thenQ_exit<|aI @blockQ_normal<|aI @blockQ_ret<|aI @blockQ_exit<|aI @scopeQ_normal<|aI @scopeQ_ret<|aI @scopeQ_exit<|aI @X_nil<|aI @Y_nil<|aI @Y_0<|aI @Y_re<|aI @TDi_t<|aI @keepM_t<|aI @keepM_f<|aI @lookK_cons<|aI @X_move<|aI @X_assign<|aI @X_alloc<|aI @X_box<|aI @X_makeMap<|aI @X_store<|aI @X_append<|aI @ev_T<|aI @ev_const<|aI @ev_func<|aI @ev_global<|aI @T_set<|aI @T_get<|aI @lk_cons<|aI @okI_some<|aI @CDi_t<|aI @CDi_f<|aI @GDi_tt<|aI @GDi_ft<|aI @GDi_ff<|aI @GDi_tf<|aI @GDi_u<|aI @bN<|aI @nP<|aI @pickV_bool<|aI @FinC_ret<|aI @FinC_normal<|aI @fXr<|aI @fXn<|aI @resA_nil<|aI @resA_tmp<|aI @resA_cell<|aI @oneOr1<|aI @oneOr2<|aI @oneOr0<|aI @bump_bump<|aI @put_bump<|aI @offV_ptr<|aI @nilV_ptr<|aI @nilV_func<|aI @nilV_yield<|aI @gB<|aI @X_bs<|aI @X_clear<|aI @src_at<|aI @src_nil<|aI @srcC_cells<|aI @ld1_cells<|aI @ldN_cells<|aI @st1_cells<|aI @ofList_n<|aI @write_n<|aI @cells_agg<|aI @cells_int<|aI @cells_bool<|aI @cells_ptr<|aI @cells_slice<|aI @box_agg<|aI @box_ptr<|aI @box_slice<|aI @box_int<|aI @yieldOf_y<|aI @fnV_f<|aI @setAll0<|aI @setAll1<|aI @setAll2<|aI @X_yield<|aI @X_callf<|aI @X_call<|aI @loopI_some<|aI @roundQ1_normal<|aI @roundQ2_normal<|aI @roundQ2_ret<|aI @roundQ2_exit<|aI @Mem.get_kill<|aI @Mem.next_kill<|aI @kill_bump<|aI @un_not<|aI @bin_lss<|aI @bin_leq<|aI @bin_gtr<|aI @bin_geq<|aI @bin_add<|aI @bin_sub<|aI @bin_mul<|aI @eq_int<|aI @neq_int<|aI @sub_write_same<|aI @nth_write_same<|aI @sub_ofList<|aI @nth_ofList<|aI @gP<|aI @Z_guard<|aI @Z_pick<|aI @Z_bin<|aI @Z_eql<|aI @Z_neq<|aI @Z_un<|aI @Z_nilCheck<|aI @Z_fieldV<|aI @Z_index<|aI @paG_1<|aI @paG_N<|aI @Z_extract<|aI @Z_makeFunc<|aI @Z_makeMeth<|aI @methV_i<|aI @nilV_meth<|aI @X_inv<|aI @invV_i<|aI @Z_build<|aI @Z_slice<|aI @Z_load<|aI @Z_lookup<|aI @Z_convert<|aI @Z_len<|aI @ZY_guard<|aI @ZRE_load<|aI @ZRE_len<|aI @Z_fieldAddr<|aI @Z_indexAddr<|aI @loadG<|aI @ldG_1<|aI @ldG_N<|aI @storeG<|aI @stG_some<|aI @offO_some<|aI @idxG_arr<|aI @idxG_sl<|aI @len_sl<|aI @eqP_nil<|aI @neqP_nil<|aI @eqP_pp<|aI @neqP_pp<|aI @putT_some<|aI @putT_none<|aI @isCmp_lss<|aI @isCmp_leq<|aI @isCmp_gtr<|aI @isCmp_geq<|aI @isCmp_add<|aI @isCmp_sub<|aI @isCmp_mul<|aI @isCmp_rem<|aI @isCmp_quo<|aI @isCmp_and<|aI @isCmp_or<|aI @isCmp_xor<|aI @isCmp_andNot<|aI @isCmp_shl<|aI @isCmp_shr<| @mulO_some
theorem dec_true{h:Decidable True}: @decide True h=true:=by cases h with|isTrue _=>rfl|isFalse h=>exact absurd trivial h
theorem dec_false{h:Decidable False}: @decide False h=false:=by cases h with|isTrue h=>exact h.elim|isFalse _=>rfl
def XY:=aI @if_true.{1}<|aI @if_false.{1}<|aI @true_and<|aI @and_true<|aI @and_self<|aI @not_true_eq_false<|aI @not_false_eq_true<|aI @or_self<|aI @or_false<|aI @false_or<|aI @or_true<|aI @true_or<|aI @lR'<|aI @Nat.le_add_right<|aI @Nat.add_assoc<|aI @Nat.zero_add<|aI @Nat.add_zero<|aI @Nat.left_eq_add<|aI @Nat.add_eq_left<|aI @Nat.add_left_cancel_iff<|aI @Nat.add_le_add_iff_left<|aI @Nat.one_mul<|aI @Nat.mul_one<|aI @Nat.one_ne_zero<|aI @bF<|aI @Bool.true_eq_false<|aI @Bool.not_true<|aI @Bool.not_false<|aI @Bool.and_self<|aI @Option.map_some.{0,0}<|aI @Option.map_none.{0,0}<|aI @Option.bind_some.{0,0}<|aI @Option.getD_some.{0}<|aI @Option.isSome_some.{0}<|aI @List.length_cons.{0}<|aI @List.length_nil.{0}<|aI @List.length_append.{0}<|aI @List.all_cons.{0}<|aI @List.all_nil.{0}<|aI @List.map_cons.{0,0}<|aI @List.map_nil.{0,0}<|aI @List.getElem?_cons_zero.{0}<|aI @List.getElem?_cons_succ.{0}<|aI @List.getElem?_toArray.{0}<|aI @List.toList_toArray.{0}<|aI @List.nil_append.{0}<|aI @List.append_nil.{0}<|aI @List.singleton_append.{0}<|aI @List.cons_append.{0}<|aI @List.map_toArray.{0,0}<|aI @List.drop_zero.{0}<|aI @List.take_succ_cons.{0}<|aI @List.take_zero.{0}<|aI @List.drop_succ_cons.{0}<|aI @List.take_nil.{0}<|aI @Array.toList_map.{0,0}<|aI @Int.toNat_natCast<|aI @beq_self_eq_true.{0}<|aI @enumV.eq_1<|aI @enumV.eq_2<|aI @oneCell.eq_def<|aI @dec_true<| @dec_false
end
end
end Go.Ab
namespace Go.Ab
open Go.Proofs
noncomputable section
def F6:=aI f6.eq_1<|aI (aQ Tryz.f6.body)<|aI lay_24<|aI lay_58<|aI lay_3<|aI lay_47<|aI sz_24<|aI sz_58<|aI sz_3<|aI sz_47<|aI sz_113<|aI zero_58<|aI zero_47<|aI und_28<|aI und_41<|aI und_3<|aI und_53<|aI ca_13<|aI ca_7<|aI ca_8<|aI ca_20<|aI ca_22<|aI ca_14<|aI ca_19<|aI ca_21<|aI ca_15<|aI ca_23<|aI ca_17<|aI ca_24<|aI ca_25<|aI sl_41<|sl_53
def F7:=aI f7.eq_1<|aI (aQ Tryz.f7.body)<|aI lay_3<|aI lay_22<|aI sz_3<|aI sz_22<|aI sz_38<|aI sz_36<|aI fo_24_1<|aI fo_24_2<|aI fo_24_4<|aI und_25<|aI und_22<|aI sl_25<|sl_22
def F21:=aI f21.eq_1<|aI (aQ Tryz.f21.body)<|aI lay_4<|aI sz_4<|aI fo_69_7<|ca_48
def F22:=aI f22.eq_1<|aI (aQ Tryz.f22.body)<|ca_42
def F46:=aI f46.eq_1<|aI (aQ Tryz.f46.body)<|aI lay_73<|aI lay_47<|aI lay_36<|aI sz_73<|aI sz_47<|aI sz_36<|aI zero_73<|aI zero_47<|aI fo_83_7<|aI fo_83_5<|aI fo_83_6<|aI fo_73_2<|aI fo_47_0<|aI fo_47_2<|aI und_3<|aI und_36<|aI und_71<|aI und_43<|aI ca_78<|aI ca_79<|aI ca_80<|aI ca_81<|ca_82
def F48:=aI f48.eq_1<|aI (aQ Tryz.f48.body)<|aI lay_3<|aI sz_3<|aI fo_69_6<|aI und_27<|aI und_3<|aI pt_27<|aI nn_27<|nm_27
def F79:=aI f79.eq_1<|aI (aQ Tryz.f79.body)<|aI lay_70<|aI lay_27<|aI lay_3<|aI lay_36<|aI lay_79<|aI lay_78<|aI lay_4<|aI sz_70<|aI sz_27<|aI sz_3<|aI sz_36<|aI sz_79<|aI sz_78<|aI sz_4<|aI zero_4<|aI fo_83_0<|aI fo_83_3<|aI fo_83_4<|aI fo_83_12<|aI fo_83_1<|aI fo_69_7<|aI fo_83_2<|aI und_79<|aI und_78<|aI und_3<|aI ca_80<|aI ca_71<|aI ca_121<|aI ca_122<|aI ca_68<|aI ca_124<|aI ca_51<|aI pt_78<|aI nn_78<|nm_78
def F82:=aI f82.eq_1<|aI (aQ Tryz.f82.body)<|aI lay_43<|aI lay_216<|aI lay_214<|aI lay_3<|aI sz_43<|aI sz_216<|aI sz_214<|aI sz_3<|aI zero_216<|aI zero_214<|aI fo_83_5<|aI fo_47_0<|aI fo_216_1<|aI fo_216_0<|aI und_3<|aI ca_103<|aI ca_87<|aI ca_130<|aI ca_131<|aI ca_132<|ca_133
def F83:=aI f83.eq_1<|aI (aQ Tryz.f83.body)<|aI lay_70<|aI sz_70<|aI und_67<|sl_67
def F86:=aI f86.eq_1<|aI (aQ Tryz.f86.body)<|aI lay_73<|aI sz_73<|aI zero_73<|ca_78
def F101:=aI f101.eq_1<|aI (aQ Tryz.f101.body)<|aI lay_27<|aI lay_67<|aI lay_70<|aI lay_115<|aI sz_27<|aI sz_67<|aI sz_70<|aI sz_115<|aI fo_69_1<|aI und_67<|aI ca_102<|sl_67
def F118:=aI f118.eq_1<|aI (aQ Tryz.f118.body)<|aI lay_36<|aI sz_36<|aI fo_73_0<|aI fo_73_1<|aI fo_73_2<|aI und_36<|und_71
def F132:=aI f132.eq_1<|aI (aQ Tryz.f132.body)<|aI lay_27<|aI lay_36<|aI lay_77<|aI lay_3<|aI lay_67<|aI lay_70<|aI sz_27<|aI sz_36<|aI sz_77<|aI sz_3<|aI sz_67<|aI sz_70<|aI zero_77<|aI fo_83_0<|aI fo_83_8<|aI fo_83_10<|aI fo_69_2<|aI und_214<|aI und_3<|aI und_36<|aI und_67<|aI ca_187<|aI ca_188<|aI ca_87<|aI ca_102<|aI ca_70<|aI ca_71<|sl_67
def F151:=aI f151.eq_1<|aI (aQ Tryz.f151.body)<|aI lay_3<|aI lay_216<|aI lay_36<|aI sz_3<|aI sz_216<|aI sz_36<|aI zero_216<|aI fo_216_0<|aI fo_216_1<|aI und_214<|ca_214
def F171:=aI f171.eq_1<|aI (aQ Tryz.f171.body)<|aI und_21<|aI und_36<|aI und_2<|ca_227
def F214:=aI f214.eq_1<|aQ Tryz.f214.body
def F227:=aI f227.eq_1<|aI (aQ Tryz.f227.body)<|aI und_401<|ca_293
def F228:=aI f228.eq_1<|aI (aQ Tryz.f228.body)<|aI und_2<|aI und_401<|ca_294
def F232:=aI f232.eq_1<|aI (aQ Tryz.f232.body)<|aI sz_5<|aI und_36<|aI und_3<|aI und_127<|aI ca_64<|sl_127
def F17:=aI f17.eq_1<|aI (aQ Tryz.f17.body)<|aI lay_3<|aI sz_3<|aI fo_83_8<|aI und_28<|aI und_70<|aI und_3<|aI ca_45<|aI ca_44<|aI ca_46<|aI ca_47<|aI pt_70<|aI nn_70<|nm_70
def F19:=aI f19.eq_1<|aI (aQ Tryz.f19.body)<|aI lay_58<|aI lay_3<|aI lay_67<|aI sz_58<|aI sz_3<|aI sz_67<|aI sz_70<|aI zero_58<|aI fo_69_0<|aI fo_24_1<|aI fo_69_3<|aI fo_24_2<|aI fo_69_1<|aI fo_69_4<|aI fo_69_5<|aI und_67<|aI ca_48<|sl_67
def F20:=aI f20.eq_1<|aI (aQ Tryz.f20.body)<|aI lay_3<|aI lay_38<|aI sz_3<|aI sz_38<|aI fo_38_0<|aI fo_38_3<|aI fo_38_4<|aI und_25<|aI und_3<|aI ca_14<|aI ca_31<|aI ca_17<|aI ca_34<|aI ca_24<|sl_25
def F42:=aI f42.eq_1<|aI (aQ Tryz.f42.body)<|aI lay_41<|aI lay_3<|aI sz_41<|aI sz_3<|aI zero_41<|aI fo_83_1<|aI und_41<|aI ca_48<|aI ca_68<|sl_41
def F70:=aI f70.eq_1<|aI (aQ Tryz.f70.body)<|aI lay_43<|aI lay_216<|aI lay_36<|aI lay_3<|aI sz_43<|aI sz_216<|aI sz_36<|aI sz_3<|aI zero_216<|aI fo_83_5<|aI fo_47_0<|aI fo_47_2<|aI fo_216_0<|aI und_43<|aI ca_103<|ca_80
def F84:=aI f84.eq_1<|aI (aQ Tryz.f84.body)<|aI lay_3<|aI sz_3<|aI fo_83_1<|und_3
def F105:=aI f105.eq_1<|aI (aQ Tryz.f105.body)<|aI lay_70<|aI sz_70<|aI und_70<|aI pt_70<|aI nn_70<|nm_70
def F125:=aI f125.eq_1<|aI (aQ Tryz.f125.body)<|aI lay_36<|aI lay_237<|aI sz_36<|aI sz_237<|aI zero_237<|aI fo_47_2<|aI und_36<|aI und_28<|ca_170
def F128:=aI f128.eq_1<|aI (aQ Tryz.f128.body)<|aI lay_3<|aI lay_36<|aI lay_44<|aI sz_3<|aI sz_36<|aI sz_44<|aI fo_237_0<|aI fo_237_1<|aI fo_237_2<|aI fo_47_0<|aI fo_47_1<|aI und_3<|aI und_43<|aI und_45<|aI ca_171<|aI ca_172<|aI ca_173<|aI ca_174<|ca_175
def F135:=aI f135.eq_1<|aI (aQ Tryz.f135.body)<|aI und_36<|aI und_3<|ca_192
def F150:=aI f150.eq_1<|aI (aQ Tryz.f150.body)<|ca_213
def F169:=aI f169.eq_1<|aI (aQ Tryz.f169.body)<|aI ca_68<|ca_71
def F170:=aI f170.eq_1<|aI (aQ Tryz.f170.body)<|aI lay_237<|aI sz_237<|aI zero_237<|aI und_3<|aI und_36<|aI und_350<|aI und_28<|ca_166
def F174:=aI f174.eq_1<|aI (aQ Tryz.f174.body)<|aI ca_230<|ca_229
def F176:=aI f176.eq_1<|aQ Tryz.f176.body
def F179:=aI f179.eq_1<|aI (aQ Tryz.f179.body)<|aI lay_27<|aI lay_3<|aI lay_78<|aI sz_27<|aI sz_3<|aI sz_78<|aI sz_36<|aI fo_83_0<|aI fo_69_4<|aI fo_69_5<|aI fo_83_12<|aI und_41<|aI und_3<|aI und_36<|aI und_22<|aI und_79<|aI ca_87<|aI ca_54<|aI ca_53<|aI ca_70<|aI sl_41<|sl_22
def F180:=aI f180.eq_1<|aI (aQ Tryz.f180.body)<|aI lay_127<|aI lay_3<|aI lay_74<|aI lay_27<|aI sz_127<|aI sz_3<|aI sz_74<|aI sz_27<|aI sz_5<|aI fo_297_0<|aI fo_297_2<|aI fo_83_8<|aI fo_83_9<|aI fo_83_0<|aI und_127<|aI und_3<|aI und_36<|aI ca_87<|aI ca_53<|aI ca_231<|aI ca_169<|aI ca_70<|sl_127
def F186:=aI f186.eq_1<|aI (aQ Tryz.f186.body)<|aI lay_73<|aI lay_4<|aI sz_73<|aI sz_4<|aI zero_73<|aI fo_73_3<|aI und_28<|ca_118
def F192:=aI f192.eq_1<|aI (aQ Tryz.f192.body)<|aI lay_361<|aI lay_360<|aI lay_3<|aI lay_9<|aI sz_361<|aI sz_360<|aI sz_3<|aI sz_9<|aI zero_360<|aI fo_360_0<|aI fo_360_1<|aI und_361<|und_3
def F235:=aI f235.eq_1<|aI (aQ Tryz.f235.body)<|aI lay_81<|aI lay_80<|aI lay_75<|aI lay_3<|aI lay_4<|aI lay_125<|aI sz_81<|aI sz_80<|aI sz_75<|aI sz_3<|aI sz_4<|aI sz_125<|aI zero_125<|aI fo_83_14<|aI fo_125_0<|aI fo_123_1<|aI fo_125_3<|aI fo_125_1<|aI fo_125_2<|aI und_81<|aI und_80<|aI pt_80<|aI nn_80<|nm_80
def F284:=aI f284.eq_1<|aI (aQ Tryz.f284.body)<|aI lay_214<|aI lay_36<|aI lay_3<|aI sz_214<|aI sz_36<|aI sz_3<|aI fo_216_1<|aI fo_216_0<|aI und_214<|ca_150
def F333:=aI f333.eq_1<|aI (aQ Tryz.f333.body)<|aI lay_44<|sz_44
def F23:=aI f23.eq_1<|aI (aQ Tryz.f23.body)<|aI lay_3<|aI sz_3<|aI fo_83_3<|aI fo_83_8<|aI und_70<|aI ca_50<|aI pt_70<|aI nn_70<|nm_70
def F26:=aI f26.eq_1<|aI (aQ Tryz.f26.body)<|aI lay_27<|aI lay_3<|aI lay_80<|aI sz_27<|aI sz_3<|aI sz_80<|aI fo_83_0<|aI fo_69_0<|aI fo_24_1<|aI fo_69_3<|aI fo_83_14<|aI und_3<|aI und_36<|aI und_81<|ca_52
def F27:=aI f27.eq_1<|aI (aQ Tryz.f27.body)<|aI sz_36<|aI und_22<|aI und_3<|aI ca_54<|aI ca_53<|sl_22
def F45:=aI f45.eq_1<|aI (aQ Tryz.f45.body)<|aI lay_4<|aI sz_4<|aI fo_69_7<|ca_48
def F64:=aI f64.eq_1<|aI (aQ Tryz.f64.body)<|aI lay_75<|aI lay_5<|aI sz_75<|aI sz_5<|aI fo_125_0<|aI fo_123_0<|aI und_80<|aI und_121<|aI ca_88<|aI pt_80<|aI nn_80<|nm_80
def F69:=aI f69.eq_1<|aI (aQ Tryz.f69.body)<|aI lay_3<|aI sz_3<|aI fo_83_8<|und_3
def F71:=aI f71.eq_1<|aI (aQ Tryz.f71.body)<|aI lay_70<|aI lay_3<|aI lay_74<|aI lay_77<|aI lay_36<|aI lay_27<|aI lay_67<|aI sz_70<|aI sz_3<|aI sz_74<|aI sz_77<|aI sz_36<|aI sz_27<|aI sz_67<|aI fo_83_8<|aI fo_83_9<|aI fo_83_10<|aI fo_83_11<|aI fo_83_0<|aI fo_69_2<|aI ca_102<|ca_104
def F80:=aI f80.eq_1<|aI (aQ Tryz.f80.body)<|aI lay_27<|aI lay_53<|aI lay_3<|aI sz_27<|aI sz_53<|aI sz_3<|aI sz_113<|aI fo_83_0<|aI fo_69_8<|aI fo_83_1<|aI und_53<|sl_53
def F104:=aI f104.eq_1<|aI (aQ Tryz.f104.body)<|aI lay_70<|aI sz_70<|aI und_3<|aI und_67<|aI ca_83<|sl_67
def F119:=aI f119.eq_1<|aQ Tryz.f119.body
def F120:=aI f120.eq_1<|aI (aQ Tryz.f120.body)<|aI lay_36<|aI sz_36<|aI fo_73_2<|aI und_71<|aI und_3<|und_36
def F126:=aI f126.eq_1<|aI (aQ Tryz.f126.body)<|aI lay_3<|aI lay_36<|aI sz_3<|aI sz_36<|aI fo_237_2<|aI fo_47_0<|aI fo_237_3<|aI fo_237_0<|aI fo_237_1<|aI und_43<|aI und_36<|aI und_3<|und_5
def F131:=aI f131.eq_1<|aI (aQ Tryz.f131.body)<|aI lay_36<|aI lay_73<|aI lay_47<|aI sz_36<|aI sz_73<|aI sz_47<|aI zero_73<|aI fo_83_7<|aI fo_83_6<|aI fo_83_5<|aI und_214<|aI und_36<|aI und_3<|aI und_28<|aI ca_182<|aI ca_183<|aI ca_184<|aI ca_185<|aI ca_186<|ca_87
def F168:=aI f168.eq_1<|aI (aQ Tryz.f168.body)<|aI lay_80<|aI lay_75<|aI lay_3<|aI lay_27<|aI sz_80<|aI sz_75<|aI sz_3<|aI sz_27<|aI fo_83_14<|aI fo_125_0<|aI fo_123_1<|aI fo_83_0<|aI fo_69_3<|aI und_81<|aI und_80<|aI und_3<|aI pt_80<|aI nn_80<|nm_80
def F175:=aI f175.eq_1<|aI (aQ Tryz.f175.body)<|aI ca_228<|ca_227
def F177:=aI f177.eq_1<|aI (aQ Tryz.f177.body)<|aI lay_78<|aI sz_78<|aI fo_83_12<|und_79
def F190:=aI f190.eq_1<|aI (aQ Tryz.f190.body)<|aI lay_70<|aI lay_27<|aI lay_67<|aI lay_3<|aI lay_36<|aI sz_70<|aI sz_27<|aI sz_67<|aI sz_3<|aI sz_36<|aI fo_83_0<|aI fo_69_1<|aI fo_83_8<|aI fo_83_4<|aI fo_83_1<|aI und_67<|aI und_36<|aI und_22<|aI und_3<|aI und_405<|aI ca_83<|aI ca_237<|aI ca_87<|aI ca_54<|aI ca_53<|aI ca_239<|aI ca_70<|aI sl_67<|aI sl_22<|sl_405
def F226:=aI f226.eq_1<|aI (aQ Tryz.f226.body)<|aI lay_3<|aI lay_74<|aI sz_3<|aI sz_74<|aI fo_83_8<|aI fo_83_9<|aI und_3<|aI und_74<|aI pt_74<|aI nn_74<|nm_74
def F234:=aI f234.eq_1<|aI (aQ Tryz.f234.body)<|aI lay_36<|aI lay_73<|aI sz_36<|aI sz_73<|aI zero_73<|fo_73_0
def F293:=aI f293.eq_1<|aI (aQ Tryz.f293.body)<|aI und_401<|und_2
def F44:=aI f44.eq_1<|aI (aQ Tryz.f44.body)<|aI lay_3<|aI sz_3<|aI fo_83_3<|aI und_70<|aI und_3<|aI ca_50<|aI pt_70<|aI nn_70<|nm_70
def F47:=aI f47.eq_1<|aI (aQ Tryz.f47.body)<|aI lay_53<|aI sz_53<|fo_69_8
def F68:=aI f68.eq_1<|aQ Tryz.f68.body
def F85:=aI f85.eq_1<|aI (aQ Tryz.f85.body)<|aI lay_73<|aI lay_36<|aI sz_73<|aI sz_36<|aI zero_73<|aI fo_73_0<|aI und_28<|aI ca_118<|ca_134
def F123:=aI f123.eq_1<|aI (aQ Tryz.f123.body)<|aI lay_3<|aI lay_70<|aI sz_3<|aI sz_70<|aI fo_83_2<|aI fo_83_1<|und_3
def F124:=aI f124.eq_1<|aI (aQ Tryz.f124.body)<|aI lay_3<|aI sz_3<|aI fo_83_8<|aI und_70<|aI und_3<|aI ca_44<|aI ca_71<|aI pt_70<|aI nn_70<|nm_70
def F129:=aI f129.eq_1<|aI (aQ Tryz.f129.body)<|aI lay_3<|aI sz_3<|aI fo_237_0<|aI fo_237_3<|aI und_3<|aI und_36<|aI und_292<|aI und_21<|ca_176
def F130:=aI f130.eq_1<|aI (aQ Tryz.f130.body)<|aI lay_36<|aI lay_4<|aI lay_74<|aI lay_78<|aI lay_27<|aI lay_3<|aI sz_36<|aI sz_4<|aI sz_74<|aI sz_78<|aI sz_27<|aI sz_3<|aI fo_294_1<|aI fo_294_0<|aI fo_83_12<|aI fo_83_0<|aI fo_294_2<|aI und_214<|aI und_3<|aI und_78<|aI und_79<|aI und_41<|aI und_36<|aI ca_177<|aI ca_178<|aI ca_179<|aI ca_180<|aI ca_181<|aI ca_70<|aI ca_122<|aI ca_87<|aI pt_78<|aI nn_78<|aI nm_78<|sl_41
def F166:=aI f166.eq_1<|aI (aQ Tryz.f166.body)<|aI lay_3<|aI lay_343<|aI lay_4<|aI sz_3<|aI sz_343<|aI sz_4<|aI zero_343<|aI fo_237_0<|aI fo_237_3<|aI fo_343_3<|aI fo_237_1<|aI fo_343_1<|aI fo_237_2<|aI fo_343_2<|aI und_3<|ca_223
def F178:=aI f178.eq_1<|aI (aQ Tryz.f178.body)<|aI lay_79<|aI lay_78<|aI sz_79<|aI sz_78<|aI sz_3<|aI fo_83_12<|aI und_79<|aI und_78<|aI und_41<|aI pt_78<|aI nn_78<|aI nm_78<|sl_41
def F181:=aI f181.eq_1<|aI (aQ Tryz.f181.body)<|aI lay_27<|aI lay_3<|aI lay_127<|aI lay_74<|aI sz_27<|aI sz_3<|aI sz_127<|aI sz_74<|aI sz_5<|aI fo_83_0<|aI fo_69_0<|aI fo_24_3<|aI fo_297_0<|aI fo_297_1<|aI fo_83_8<|aI fo_83_9<|aI und_127<|aI und_3<|aI und_36<|aI und_190<|aI ca_87<|aI ca_232<|aI ca_233<|aI ca_169<|aI ca_70<|aI sl_127<|sl_190
def F182:=aI f182.eq_1<|aI (aQ Tryz.f182.body)<|aI lay_27<|aI sz_27<|aI fo_83_0<|aI und_70<|aI und_3<|aI und_36<|aI ca_87<|aI ca_44<|aI ca_70<|aI ca_51<|aI pt_70<|aI nn_70<|nm_70
def F183:=aI f183.eq_1<|aI (aQ Tryz.f183.body)<|aI lay_73<|aI lay_36<|aI sz_73<|aI sz_36<|aI zero_73<|aI fo_73_1<|aI und_28<|aI und_36<|ca_118
def F184:=aI f184.eq_1<|aI (aQ Tryz.f184.body)<|aI lay_73<|aI sz_73<|aI fo_83_7<|aI und_28<|aI ca_87<|ca_70
def F230:=aI f230.eq_1<|aI (aQ Tryz.f230.body)<|ca_294
def F231:=aI f231.eq_1<|aI (aQ Tryz.f231.body)<|aI sz_5<|aI und_127<|sl_127
def F236:=aI f236.eq_1<|aI (aQ Tryz.f236.body)<|aI lay_3<|aI lay_70<|aI sz_3<|aI sz_70<|aI fo_83_2<|aI fo_83_1<|aI fo_83_3<|und_3
def F239:=aI f239.eq_1<|aI (aQ Tryz.f239.body)<|aI lay_67<|aI sz_67<|aI sz_70<|aI und_405<|aI und_67<|aI ca_296<|aI sl_405<|sl_67
def F294:=aI f294.eq_1<|aI (aQ Tryz.f294.body)<|aI lay_4<|aI sz_4<|aI zero_4<|aI und_401<|aI ca_318<|ca_319
def F318:=aI f318.eq_1<|aQ Tryz.f318.body
def F8:=aI f8.eq_1<|aI (aQ Tryz.f8.body)<|aI lay_22<|aI lay_3<|aI lay_24<|aI lay_36<|aI lay_67<|aI sz_22<|aI sz_3<|aI sz_24<|aI sz_36<|aI sz_67<|aI sz_70<|aI fo_24_4<|aI fo_24_0<|aI fo_24_1<|aI fo_24_2<|aI fo_24_3<|aI fo_69_0<|aI fo_69_1<|aI und_22<|aI und_36<|aI und_3<|aI und_67<|aI ca_26<|aI ca_27<|aI sl_22<|sl_67
def F14:=aI f14.eq_1<|aI (aQ Tryz.f14.body)<|ca_42
def F24:=aI f24.eq_1<|aI (aQ Tryz.f24.body)<|aI und_28<|aI und_70<|aI ca_45<|aI ca_44<|aI ca_51<|aI ca_47<|aI pt_70<|aI nn_70<|nm_70
def F31:=aI f31.eq_1<|aI (aQ Tryz.f31.body)<|aI lay_3<|aI sz_3<|aI fo_38_0<|aI fo_38_3<|aI fo_38_2<|aI und_3<|aI und_41<|sl_41
def F43:=aI f43.eq_1<|aI (aQ Tryz.f43.body)<|aI lay_3<|aI sz_3<|aI fo_83_3<|aI fo_83_8<|und_3
def F49:=aI f49.eq_1<|aQ Tryz.f49.body
def F50:=aI f50.eq_1<|aI (aQ Tryz.f50.body)<|aI lay_67<|aI lay_70<|aI sz_67<|aI sz_70<|aI fo_69_1<|aI und_67<|aI ca_48<|aI ca_83<|sl_67
def F52:=aI f52.eq_1<|aI (aQ Tryz.f52.body)<|aI lay_80<|aI sz_80<|aI fo_83_14<|aI und_81<|aI und_80<|aI und_4<|aI pt_80<|aI nn_80<|nm_80
def F53:=aI f53.eq_1<|aI (aQ Tryz.f53.body)<|aI lay_4<|aI lay_75<|aI lay_3<|aI lay_27<|aI lay_5<|aI lay_121<|aI sz_4<|aI sz_75<|aI sz_3<|aI sz_27<|aI sz_5<|aI sz_121<|aI fo_125_1<|aI fo_125_3<|aI fo_125_0<|aI fo_123_1<|aI fo_83_0<|aI fo_69_0<|aI fo_24_1<|aI fo_69_3<|aI fo_123_0<|aI und_127<|aI und_36<|aI und_3<|aI und_80<|aI und_121<|aI ca_88<|aI pt_80<|aI nn_80<|aI nm_80<|sl_127
def F88:=aI f88.eq_1<|aI (aQ Tryz.f88.body)<|aI lay_80<|aI sz_80<|aI fo_83_14<|und_81
def F103:=aI f103.eq_1<|aI (aQ Tryz.f103.body)<|aI lay_36<|aI lay_216<|aI lay_3<|aI sz_36<|aI sz_216<|aI sz_3<|aI zero_216<|aI fo_216_0<|aI und_43<|aI und_3<|aI und_36<|aI und_214<|aI ca_150<|ca_151
def F122:=aI f122.eq_1<|aI (aQ Tryz.f122.body)<|aI lay_3<|aI lay_74<|aI lay_4<|aI sz_3<|aI sz_74<|aI sz_4<|aI fo_294_2<|aI fo_69_4<|aI fo_294_0<|aI fo_297_1<|aI fo_294_1<|aI fo_297_2<|aI fo_69_5<|aI und_3<|ca_169
def F127:=aI f127.eq_1<|aI (aQ Tryz.f127.body)<|aI lay_36<|aI lay_3<|aI sz_36<|aI sz_3<|aI fo_47_2<|aI fo_237_3<|aI fo_237_1<|aI fo_47_0<|aI fo_237_0<|aI und_36<|aI und_3<|und_43
def F134:=aI f134.eq_1<|aQ Tryz.f134.body
def F189:=aI f189.eq_1<|aI (aQ Tryz.f189.body)<|aI lay_27<|aI lay_67<|aI lay_3<|aI lay_47<|aI lay_73<|aI lay_79<|aI lay_36<|aI lay_78<|aI sz_27<|aI sz_67<|aI sz_3<|aI sz_47<|aI sz_73<|aI sz_79<|aI sz_36<|aI sz_78<|aI sz_70<|aI fo_83_0<|aI fo_69_1<|aI fo_69_0<|aI fo_24_2<|aI fo_69_6<|aI fo_83_1<|aI fo_83_5<|aI fo_83_6<|aI fo_83_7<|aI fo_83_12<|aI fo_83_13<|aI fo_294_2<|aI fo_47_0<|aI fo_47_2<|aI und_67<|aI und_79<|aI und_78<|aI und_43<|aI und_36<|aI und_3<|aI ca_87<|aI ca_234<|aI ca_235<|aI ca_70<|aI pt_78<|aI nn_78<|aI nm_78<|sl_67
def F213:=aI f213.eq_1<|aI (aQ Tryz.f213.body)<|aI lay_335<|aI sz_335<|aI zero_335<|und_398
def F223:=aI f223.eq_1<|aI (aQ Tryz.f223.body)<|aI lay_343<|aI sz_343<|aI zero_343<|und_344
def F229:=aI f229.eq_1<|aI (aQ Tryz.f229.body)<|aI und_2<|aI und_401<|ca_227
def F233:=aI f233.eq_1<|aI (aQ Tryz.f233.body)<|aI lay_127<|aI sz_127<|aI sz_5<|aI und_190<|aI und_127<|aI ca_295<|aI sl_190<|sl_127
def F370:=aI f370.eq_1<|aI (aQ Tryz.f370.body)<|aI sz_5<|aI und_127<|aI und_3<|aI ca_53<|sl_127
def F15:=aI f15.eq_1<|aI (aQ Tryz.f15.body)<|aI lay_47<|aI sz_47<|aI zero_47<|aI fo_83_5<|aI und_70<|aI ca_44<|aI pt_70<|aI nn_70<|nm_70
def F25:=aI f25.eq_1<|aI (aQ Tryz.f25.body)<|aI lay_3<|aI sz_3<|aI und_41<|aI und_3<|sl_41
def F34:=aI f34.eq_1<|aI (aQ Tryz.f34.body)<|aI lay_36<|aI sz_36<|aI fo_83_11<|aI und_28<|aI und_36<|aI ca_45<|aI ca_68<|aI ca_70<|aI ca_71<|ca_47
def F51:=aI f51.eq_1<|aI (aQ Tryz.f51.body)<|aI lay_73<|aI lay_3<|aI sz_73<|aI sz_3<|aI fo_83_7<|aI fo_83_8<|aI und_70<|aI und_3<|aI ca_44<|aI ca_85<|aI ca_86<|aI ca_87<|aI ca_71<|aI pt_70<|aI nn_70<|nm_70
def F54:=aI f54.eq_1<|aI (aQ Tryz.f54.body)<|aI lay_36<|aI sz_36<|aI sz_5<|aI und_22<|aI und_5<|aI und_36<|aI und_127<|aI sl_22<|sl_127
def F78:=aI f78.eq_1<|aI (aQ Tryz.f78.body)<|aI lay_73<|aI lay_3<|aI lay_36<|aI lay_4<|aI sz_73<|aI sz_3<|aI sz_36<|aI sz_4<|aI zero_3<|aI zero_73<|aI fo_73_0<|aI fo_73_1<|aI fo_73_3<|aI und_28<|aI und_3<|aI ca_118<|aI ca_119<|ca_120
def F81:=aI f81.eq_1<|aI (aQ Tryz.f81.body)<|aI lay_47<|aI lay_237<|aI lay_3<|aI lay_36<|aI sz_47<|aI sz_237<|aI sz_3<|aI sz_36<|aI zero_47<|aI zero_237<|aI fo_237_0<|aI fo_47_2<|aI fo_237_1<|aI fo_47_0<|aI fo_237_2<|aI und_3<|aI und_43<|aI ca_125<|aI ca_126<|aI ca_127<|aI ca_128<|ca_129
def F87:=aI f87.eq_1<|aI (aQ Tryz.f87.body)<|aI ca_135<|ca_70
def F102:=aI f102.eq_1<|aI (aQ Tryz.f102.body)<|aI sz_70<|aI und_67<|sl_67
def F121:=aI f121.eq_1<|aI (aQ Tryz.f121.body)<|ca_168
def F133:=aI f133.eq_1<|aI (aQ Tryz.f133.body)<|aI lay_36<|aI lay_3<|aI lay_27<|aI sz_36<|aI sz_3<|aI sz_27<|aI fo_83_1<|aI fo_83_2<|aI fo_83_8<|aI fo_83_11<|aI fo_83_0<|aI fo_69_0<|aI fo_24_0<|aI fo_83_13<|aI fo_83_5<|aI fo_47_0<|aI fo_47_2<|aI und_3<|aI und_214<|aI und_36<|aI und_43<|aI ca_79<|aI ca_189<|aI ca_190<|aI ca_70<|aI ca_26<|aI ca_87<|aI ca_191<|ca_80
def F167:=aI f167.eq_1<|aI (aQ Tryz.f167.body)<|aI lay_36<|aI sz_36<|und_36
def F172:=aI f172.eq_1<|aI (aQ Tryz.f172.body)<|aI und_36<|aI und_2<|ca_228
def F173:=aI f173.eq_1<|aI (aQ Tryz.f173.body)<|aI ca_230<|ca_229
def F185:=aI f185.eq_1<|aI (aQ Tryz.f185.body)<|aI lay_73<|aI lay_36<|aI sz_73<|aI sz_36<|aI zero_73<|aI fo_73_2<|aI und_28<|aI und_3<|aI und_71<|aI ca_118<|ca_134
def F187:=aI f187.eq_1<|aI (aQ Tryz.f187.body)<|aI lay_77<|aI lay_4<|aI lay_75<|aI sz_77<|aI sz_4<|aI sz_75<|aI zero_77<|aI fo_125_2<|aI fo_125_0<|aI und_36<|aI ca_188<|ca_88
def F188:=aI f188.eq_1<|aI (aQ Tryz.f188.body)<|aI lay_5<|aI sz_5<|aI und_3<|aI und_127<|aI und_36<|aI und_5<|aI ca_232<|sl_127
def F191:=aI f191.eq_1<|aI (aQ Tryz.f191.body)<|aI und_3<|aI und_36<|aI ca_52<|ca_168
def F237:=aI f237.eq_1<|aI (aQ Tryz.f237.body)<|ca_83
def F238:=aI f238.eq_1<|aI (aQ Tryz.f238.body)<|aI lay_3<|aI lay_70<|aI sz_3<|aI sz_70<|aI fo_83_2<|aI fo_83_1<|und_3
def F319:=aI f319.eq_1<|aI (aQ Tryz.f319.body)<|ca_335
abbrev Um(x:BitVec 32):Value:= .int .u32 (x.toNat:Int)
abbrev By(x:BitVec 8):Value:= .int .u8 (x.toNat:Int)
def pV:Option Nat->Value
 |none=> .pointer none
 |some b=>PT b
theorem nth_write_ne{cs:Cells}{o k:Nat}{l:List Value}(h:k<o∨o+l.length<=k):(cs.write o l).nth k=cs.nth k:=by
 unfold Cells.nth
 rw[write_n]
 split
 ·rw[get_write,if_neg (by omega)]
 ·rfl
theorem sub_write_ne{cs:Cells}{o k n:Nat}{l:List Value}(h:k+n<=o∨o+l.length<=k):(cs.write o l).sub k n=cs.sub k n:=by
 unfold Cells.sub
 rw[write_n]
 split
 ·congr 1
  have:∀n k,(k+n<=o∨o+l.length<=k)->(cs.write o l).seg k n=cs.seg k n:=by
   intro n
   induction n with
   |zero=>intro k _;rfl
   |succ n ih=>
    intro k hk
    show(cs.write o l).get k::(cs.write o l).seg (k+1) n=cs.get k::cs.seg (k+1) n
    rw[get_write,if_neg (by omega),ih (k+1) (by omega)]
  exact this n k h
 ·rfl
theorem nwl{cs:Cells}{r:Option Value}{o k:Nat}{l:List Value}(g:cs.nth k=r)(h:k<o:=by exact Nat.le_of_ble_eq_true rfl):(cs.write o l).nth k=r:=(nth_write_ne (.inl h)).trans g
theorem nwr{cs:Cells}{r:Option Value}{o k:Nat}{l:List Value}(g:cs.nth k=r)(h:o+l.length<=k:=by exact Nat.le_of_ble_eq_true rfl):(cs.write o l).nth k=r:=(nth_write_ne (.inr h)).trans g
theorem swl{cs:Cells}{r:Option (List Value)}{o k n:Nat}{l:List Value}(g:cs.sub k n=r)(h:k+n<=o:=by exact Nat.le_of_ble_eq_true rfl):(cs.write o l).sub k n=r:=(sub_write_ne (.inl h)).trans g
theorem swr{cs:Cells}{r:Option (List Value)}{o k n:Nat}{l:List Value}(g:cs.sub k n=r)(h:o+l.length<=k:=by exact Nat.le_of_ble_eq_true rfl):(cs.write o l).sub k n=r:=(sub_write_ne (.inr h)).trans g
theorem sub_len{cs:Cells}{o n:Nat}{l:List Value}(h:cs.sub o n=some l):l.length=n:=by
 unfold Cells.sub at h
 split at h
 ·cases h
  have:∀n k,(cs.seg k n).length=n:=by
   intro n
   induction n with
   |zero=>intro k;rfl
   |succ n ih=>intro k;show(cs.seg (k+1) n).length+1=n+1;rw[ih]
  exact this n o
 ·cases h
theorem sub_le{cs:Cells}{o n:Nat}{l:List Value}(h:cs.sub o n=some l):o+n<=cs.n:=by
 unfold Cells.sub at h
 split at h
 ·assumption
 ·cases h
theorem sub_nth{cs:Cells}{o n k:Nat}{l:List Value}(h:cs.sub o n=some l)(hk:k<n):cs.nth (o+k)=l[k]? :=by
 have h1:=sub_get_inv h hk
 have h2:=sub_le h
 have h3:=sub_len h
 rw[nth_lt (by omega),h1,gD',gE' (by omega)]
 rfl
theorem sub_ext{cs:Cells}{o n:Nat}{l:List Value}(hl:l.length=n)(hn:o+n<=cs.n)(h:∀k,k<n->cs.get (o+k)=l.getD k undef):cs.sub o n=some l:=by
 unfold Cells.sub
 rw[if_pos hn]
 congr 1
 have:∀(n k:Nat) (l:List Value),l.length=n->(∀j,j<n->cs.get (k+j)=l.getD j undef)->cs.seg k n=l:=by
  intro n
  induction n with
  |zero=>intro k l hl _;rw[List.length_eq_zero_iff.1 hl];rfl
  |succ n ih=>
   intro k l hl hg
   cases l with
   |nil=>cases hl
   |cons a l=>
    show cs.get k::cs.seg (k+1) n=a::l
    rw[ih (k+1) l (by simpa using hl) (λj hj=>by have:=hg (j+1) (by omega);rw[show k+1+j=k+(j+1) by omega,this];rfl)]
    have:=hg 0 (by omega)
    simp at this
    rw[this]
 exact this n o l hl h
theorem sub_write_in{cs:Cells}{o n k:Nat}{l:List Value}{v:Value}(h:cs.sub o n=some l)(hk:k<n):(cs.write (o+k) [v]).sub o n=some (l.set k v):=by
 have h2:=sub_le h
 have h3:=sub_len h
 refine sub_ext (by rw[sL,h3]) (by rw[write_n];exact h2) λj hj=>?_
 rw[get_write,gD' (l:=l.set k v),List.getElem?_set]
 by_cases e:k=j
 ·subst e
  rw[if_pos (by simp),if_pos rfl,if_pos (by omega)]
  simp
 ·rw[if_neg (by simp;omega),if_neg e,sub_get_inv h hj,gD']
theorem sub_sub{cs:Cells}{o n k j:Nat}{l:List Value}(h:cs.sub o n=some l)(hk:k+j<=n):cs.sub (o+k) j=some ((l.drop k).take j):=by
 have h2:=sub_le h
 have h3:=sub_len h
 refine sub_ext (by rw[List.length_take,List.length_drop];omega) (by omega) λi hi=>?_
 have:=sub_get_inv h (i:=k+i) (by omega)
 rw[show o+k+i=o+(k+i) by omega,this,gD',gD',List.getElem?_take_of_lt hi,List.getElem?_drop]
structure Cpu where
 r:List (BitVec 32)
 z:List (Int×Int)
 pc:BitVec 32
structure Sg where
 pend:BitVec 32
 mask:BitVec 32
 h:List (BitVec 32)
 busy:Bool
structure Page where
 c:Nat
 write:Bool
 shared:Bool
 cow:Bool
structure Cont where
 b:List (BitVec 8)
 refs:Int
structure Pipe where
 b:List (BitVec 8)
 readers:Int
 writers:Int
structure File where
 p:Nat
 write:Bool
 refs:Int
structure Fut where
 c:Option Nat
 p:Option Nat
 a:BitVec 32
structure Proc where
 pid:Int
 parent:Int
 state:Int
 status:BitVec 32
 cpu:Cpu
 saved:Cpu
 sig:Sg
 wait:Int
 pipe:Option Nat
 fut:Fut
 left:BitVec 32
 fds:List (Option Nat)
 aff:BitVec 32
 pages:List (Option Nat)
structure SeenR where
 pid:Int
 kind:Int
 call:Int
 v:BitVec 32
structure St where
 cores:Int
 frames:Int
 procs:Int
 cap:Int
 l:List Nat
 fut:List Nat
 contents:Int
 files:Int
 pipes:Int
 next:Int
 halted:Bool
 seen:List SeenR
 P:List Proc
 G:List Page
 C:List Cont
 I:List Pipe
 F:List File
def Zin(z:Int×Int):Prop:=(-524288<=z.1∧z.1<524288)∧(-524288<=z.2∧z.2<524288)
def Cpu.ok0(c:Cpu):Prop:=c.r.length=8∧c.z.length=2
def Cpu.ok(c:Cpu):Prop:=c.r.length=8∧(c.z.length=2∧∀k,k<2->Zin (c.z.getD k (0,0)))
theorem Cpu.ok.o{c:Cpu}(h:c.ok):c.ok0:=⟨h.1,h.2.1⟩
def cpu0:Cpu:=⟨List.replicate 8 0#32,[(0,0),(0,0)],0#32⟩
theorem cpu0_ok:cpu0.ok:=⟨rfl,rfl,λk hk=>by
 rcases k with _|_|k
 ·exact⟨⟨by decide,by decide⟩,⟨by decide,by decide⟩⟩
 ·exact⟨⟨by decide,by decide⟩,⟨by decide,by decide⟩⟩
 ·omega⟩
def proc0:Proc:=⟨0,0,0,0#32,cpu0,cpu0,⟨0#32,0#32,List.replicate 16 0#32,false⟩,0,none,⟨none,none,0#32⟩,0#32,List.replicate 8 none,0#32,List.replicate 64 none⟩
def page0:Page:=⟨0,false,false,false⟩
def cont0:Cont:=⟨List.replicate 64 0#8,0⟩
def pipe0:Pipe:=⟨[],0,0⟩
def file0:File:=⟨0,false,0⟩
abbrev St.p(X:St)(i:Nat):Proc:=X.P.getD i proc0
abbrev St.g(X:St)(i:Nat):Page:=X.G.getD i page0
abbrev St.c(X:St)(i:Nat):Cont:=X.C.getD i cont0
abbrev St.i(X:St)(i:Nat):Pipe:=X.I.getD i pipe0
abbrev St.x(X:St)(i:Nat):File:=X.F.getD i file0
structure Loc where
 f:Nat
 P:List Nat
 G:List Nat
 C:List Nat
 I:List Nat
 F:List Nat
 lv:Value
 fv:Value
 sv:Value
 gv:Value
 bv:List Value
 D:Nat->Prop
abbrev Loc.p(L:Loc)(i:Nat):Nat:=L.P.getD i 0
abbrev Loc.g(L:Loc)(i:Nat):Nat:=L.G.getD i 0
abbrev Loc.c(L:Loc)(i:Nat):Nat:=L.C.getD i 0
abbrev Loc.i(L:Loc)(i:Nat):Nat:=L.I.getD i 0
abbrev Loc.x(L:Loc)(i:Nat):Nat:=L.F.getD i 0
abbrev fbits(n:Int):Nat:=FloatKind.f64.nearest n
def zV(z:Int×Int):Value:= .complex .f64 (fbits z.1) (fbits z.2)
def cpuL(c:Cpu):List Value:=c.r.map Um++c.z.map zV++ [Um c.pc]
def sgL(s:Sg):List Value:=[Um s.pend,Um s.mask]++s.h.map Um++ [.bool s.busy]
def futL(L:Loc)(x:Fut):List Value:=[pV (x.c.map L.c),pV (x.p.map L.p),Um x.a]
def seenL(s:SeenR):List Value:=[In s.pid,In s.kind,In s.call,Um s.v]
structure PC(L:Loc)(r:Proc)(cs:Cells):Prop where
 n:cs.n=125
 f:cs.nth 0=some (PT L.f)
 pid:cs.nth 1=some (In r.pid)
 parent:cs.nth 2=some (In r.parent)
 state:cs.nth 3=some (In r.state)
 status:cs.nth 4=some (Um r.status)
 cpu:cs.sub 5 11=some (cpuL r.cpu)
 saved:cs.sub 16 11=some (cpuL r.saved)
 sig:cs.sub 27 19=some (sgL r.sig)
 wait:cs.nth 46=some (In r.wait)
 pipe:cs.nth 47=some (pV (r.pipe.map L.i))
 fut:cs.sub 48 3=some (futL L r.fut)
 left:cs.nth 51=some (Um r.left)
 fds:cs.sub 52 8=some (r.fds.map λx=>pV (x.map L.x))
 aff:cs.nth 60=some (Um r.aff)
 pages:cs.sub 61 64=some (r.pages.map λx=>pV (x.map L.g))
 okc:r.cpu.ok
 oks:r.saved.ok
 okh:r.sig.h.length=16
theorem PC.w_parent{L:Loc}{r:Proc}{cs:Cells}(h:PC L r cs){x:Int}:PC L {r with parent:=x} (cs.write 2 ([In x])):=⟨by rw[write_n,h.n],nwl h.f,nwl h.pid,nth_write_same (by rw[h.n];decide),nwr h.state,nwr h.status,swr h.cpu,swr h.saved,swr h.sig,nwr h.wait,nwr h.pipe,swr h.fut,nwr h.left,swr h.fds,nwr h.aff,swr h.pages,h.okc,h.oks,h.okh⟩
theorem PC.w_state{L:Loc}{r:Proc}{cs:Cells}(h:PC L r cs){x:Int}:PC L {r with state:=x} (cs.write 3 ([In x])):=⟨by rw[write_n,h.n],nwl h.f,nwl h.pid,nwl h.parent,nth_write_same (by rw[h.n];decide),nwr h.status,swr h.cpu,swr h.saved,swr h.sig,nwr h.wait,nwr h.pipe,swr h.fut,nwr h.left,swr h.fds,nwr h.aff,swr h.pages,h.okc,h.oks,h.okh⟩
theorem PC.w_status{L:Loc}{r:Proc}{cs:Cells}(h:PC L r cs){x:BitVec 32}:PC L {r with status:=x} (cs.write 4 ([Um x])):=⟨by rw[write_n,h.n],nwl h.f,nwl h.pid,nwl h.parent,nwl h.state,nth_write_same (by rw[h.n];decide),swr h.cpu,swr h.saved,swr h.sig,nwr h.wait,nwr h.pipe,swr h.fut,nwr h.left,swr h.fds,nwr h.aff,swr h.pages,h.okc,h.oks,h.okh⟩
theorem PC.w_cpu{L:Loc}{r:Proc}{cs:Cells}(h:PC L r cs){x:Cpu}(hl:(cpuL x).length=11)(hx:x.ok):PC L {r with cpu:=x} (cs.write 5 (cpuL x)):=⟨by rw[write_n,h.n],nwl h.f,nwl h.pid,nwl h.parent,nwl h.state,nwl h.status,sub_write_same hl (by rw[h.n];decide),(sub_write_ne (.inr (by rw[hl];decide))).trans h.saved,(sub_write_ne (.inr (by rw[hl];decide))).trans h.sig,(nth_write_ne (.inr (by rw[hl];decide))).trans h.wait,(nth_write_ne (.inr (by rw[hl];decide))).trans h.pipe,(sub_write_ne (.inr (by rw[hl];decide))).trans h.fut,(nth_write_ne (.inr (by rw[hl];decide))).trans h.left,(sub_write_ne (.inr (by rw[hl];decide))).trans h.fds,(nth_write_ne (.inr (by rw[hl];decide))).trans h.aff,(sub_write_ne (.inr (by rw[hl];decide))).trans h.pages,hx,h.oks,h.okh⟩
theorem PC.w_saved{L:Loc}{r:Proc}{cs:Cells}(h:PC L r cs){x:Cpu}(hl:(cpuL x).length=11)(hx:x.ok):PC L {r with saved:=x} (cs.write 16 (cpuL x)):=⟨by rw[write_n,h.n],nwl h.f,nwl h.pid,nwl h.parent,nwl h.state,nwl h.status,swl h.cpu,sub_write_same hl (by rw[h.n];decide),(sub_write_ne (.inr (by rw[hl];decide))).trans h.sig,(nth_write_ne (.inr (by rw[hl];decide))).trans h.wait,(nth_write_ne (.inr (by rw[hl];decide))).trans h.pipe,(sub_write_ne (.inr (by rw[hl];decide))).trans h.fut,(nth_write_ne (.inr (by rw[hl];decide))).trans h.left,(sub_write_ne (.inr (by rw[hl];decide))).trans h.fds,(nth_write_ne (.inr (by rw[hl];decide))).trans h.aff,(sub_write_ne (.inr (by rw[hl];decide))).trans h.pages,h.okc,hx,h.okh⟩
theorem PC.w_sig{L:Loc}{r:Proc}{cs:Cells}(h:PC L r cs){x:Sg}(hl:(sgL x).length=19)(hx:x.h.length=16):PC L {r with sig:=x} (cs.write 27 (sgL x)):=⟨by rw[write_n,h.n],nwl h.f,nwl h.pid,nwl h.parent,nwl h.state,nwl h.status,swl h.cpu,swl h.saved,sub_write_same hl (by rw[h.n];decide),(nth_write_ne (.inr (by rw[hl];decide))).trans h.wait,(nth_write_ne (.inr (by rw[hl];decide))).trans h.pipe,(sub_write_ne (.inr (by rw[hl];decide))).trans h.fut,(nth_write_ne (.inr (by rw[hl];decide))).trans h.left,(sub_write_ne (.inr (by rw[hl];decide))).trans h.fds,(nth_write_ne (.inr (by rw[hl];decide))).trans h.aff,(sub_write_ne (.inr (by rw[hl];decide))).trans h.pages,h.okc,h.oks,hx⟩
theorem PC.w_wait{L:Loc}{r:Proc}{cs:Cells}(h:PC L r cs){x:Int}:PC L {r with wait:=x} (cs.write 46 ([In x])):=⟨by rw[write_n,h.n],nwl h.f,nwl h.pid,nwl h.parent,nwl h.state,nwl h.status,swl h.cpu,swl h.saved,swl h.sig,nth_write_same (by rw[h.n];decide),nwr h.pipe,swr h.fut,nwr h.left,swr h.fds,nwr h.aff,swr h.pages,h.okc,h.oks,h.okh⟩
theorem PC.w_pipe{L:Loc}{r:Proc}{cs:Cells}(h:PC L r cs){x:Option Nat}:PC L {r with pipe:=x} (cs.write 47 ([pV (x.map L.i)])):=⟨by rw[write_n,h.n],nwl h.f,nwl h.pid,nwl h.parent,nwl h.state,nwl h.status,swl h.cpu,swl h.saved,swl h.sig,nwl h.wait,nth_write_same (by rw[h.n];decide),swr h.fut,nwr h.left,swr h.fds,nwr h.aff,swr h.pages,h.okc,h.oks,h.okh⟩
theorem PC.w_fut{L:Loc}{r:Proc}{cs:Cells}(h:PC L r cs){x:Fut}(hl:(futL L x).length=3):PC L {r with fut:=x} (cs.write 48 (futL L x)):=⟨by rw[write_n,h.n],nwl h.f,nwl h.pid,nwl h.parent,nwl h.state,nwl h.status,swl h.cpu,swl h.saved,swl h.sig,nwl h.wait,nwl h.pipe,sub_write_same hl (by rw[h.n];decide),(nth_write_ne (.inr (by rw[hl];decide))).trans h.left,(sub_write_ne (.inr (by rw[hl];decide))).trans h.fds,(nth_write_ne (.inr (by rw[hl];decide))).trans h.aff,(sub_write_ne (.inr (by rw[hl];decide))).trans h.pages,h.okc,h.oks,h.okh⟩
theorem PC.w_left{L:Loc}{r:Proc}{cs:Cells}(h:PC L r cs){x:BitVec 32}:PC L {r with left:=x} (cs.write 51 ([Um x])):=⟨by rw[write_n,h.n],nwl h.f,nwl h.pid,nwl h.parent,nwl h.state,nwl h.status,swl h.cpu,swl h.saved,swl h.sig,nwl h.wait,nwl h.pipe,swl h.fut,nth_write_same (by rw[h.n];decide),swr h.fds,nwr h.aff,swr h.pages,h.okc,h.oks,h.okh⟩
theorem PC.w_aff{L:Loc}{r:Proc}{cs:Cells}(h:PC L r cs){x:BitVec 32}:PC L {r with aff:=x} (cs.write 60 ([Um x])):=⟨by rw[write_n,h.n],nwl h.f,nwl h.pid,nwl h.parent,nwl h.state,nwl h.status,swl h.cpu,swl h.saved,swl h.sig,nwl h.wait,nwl h.pipe,swl h.fut,nwl h.left,swl h.fds,nth_write_same (by rw[h.n];decide),swr h.pages,h.okc,h.oks,h.okh⟩
theorem PC.w1_cpu{L:Loc}{r:Proc}{cs:Cells}(h:PC L r cs){k:Nat}(hk:k<11){v:Value}{x:Cpu}(e:(cpuL r.cpu).set k v=cpuL x)(hx:x.ok):PC L {r with cpu:=x} (cs.write (5+k) [v]):=⟨by rw[write_n,h.n],(nth_write_ne (.inl (by omega))).trans h.f,(nth_write_ne (.inl (by omega))).trans h.pid,(nth_write_ne (.inl (by omega))).trans h.parent,(nth_write_ne (.inl (by omega))).trans h.state,(nth_write_ne (.inl (by omega))).trans h.status,by rw[sub_write_in h.cpu hk,e],(sub_write_ne (.inr (by simp only[List.length_cons,List.length_nil];omega))).trans h.saved,(sub_write_ne (.inr (by simp only[List.length_cons,List.length_nil];omega))).trans h.sig,(nth_write_ne (.inr (by simp only[List.length_cons,List.length_nil];omega))).trans h.wait,(nth_write_ne (.inr (by simp only[List.length_cons,List.length_nil];omega))).trans h.pipe,(sub_write_ne (.inr (by simp only[List.length_cons,List.length_nil];omega))).trans h.fut,(nth_write_ne (.inr (by simp only[List.length_cons,List.length_nil];omega))).trans h.left,(sub_write_ne (.inr (by simp only[List.length_cons,List.length_nil];omega))).trans h.fds,(nth_write_ne (.inr (by simp only[List.length_cons,List.length_nil];omega))).trans h.aff,(sub_write_ne (.inr (by simp only[List.length_cons,List.length_nil];omega))).trans h.pages,hx,h.oks,h.okh⟩
theorem PC.w1_fds{L:Loc}{r:Proc}{cs:Cells}(h:PC L r cs){k:Nat}(hk:k<8){v:Value}{x:List (Option Nat)}(e:(r.fds.map λx=>pV (x.map L.x)).set k v=x.map λx=>pV (x.map L.x)):PC L {r with fds:=x} (cs.write (52+k) [v]):=⟨by rw[write_n,h.n],(nth_write_ne (.inl (by omega))).trans h.f,(nth_write_ne (.inl (by omega))).trans h.pid,(nth_write_ne (.inl (by omega))).trans h.parent,(nth_write_ne (.inl (by omega))).trans h.state,(nth_write_ne (.inl (by omega))).trans h.status,(sub_write_ne (.inl (by omega))).trans h.cpu,(sub_write_ne (.inl (by omega))).trans h.saved,(sub_write_ne (.inl (by omega))).trans h.sig,(nth_write_ne (.inl (by omega))).trans h.wait,(nth_write_ne (.inl (by omega))).trans h.pipe,(sub_write_ne (.inl (by omega))).trans h.fut,(nth_write_ne (.inl (by omega))).trans h.left,by rw[sub_write_in h.fds hk,e],(nth_write_ne (.inr (by simp only[List.length_cons,List.length_nil];omega))).trans h.aff,(sub_write_ne (.inr (by simp only[List.length_cons,List.length_nil];omega))).trans h.pages,h.okc,h.oks,h.okh⟩
theorem PC.w1_pages{L:Loc}{r:Proc}{cs:Cells}(h:PC L r cs){k:Nat}(hk:k<64){v:Value}{x:List (Option Nat)}(e:(r.pages.map λx=>pV (x.map L.g)).set k v=x.map λx=>pV (x.map L.g)):PC L {r with pages:=x} (cs.write (61+k) [v]):=⟨by rw[write_n,h.n],(nth_write_ne (.inl (by omega))).trans h.f,(nth_write_ne (.inl (by omega))).trans h.pid,(nth_write_ne (.inl (by omega))).trans h.parent,(nth_write_ne (.inl (by omega))).trans h.state,(nth_write_ne (.inl (by omega))).trans h.status,(sub_write_ne (.inl (by omega))).trans h.cpu,(sub_write_ne (.inl (by omega))).trans h.saved,(sub_write_ne (.inl (by omega))).trans h.sig,(nth_write_ne (.inl (by omega))).trans h.wait,(nth_write_ne (.inl (by omega))).trans h.pipe,(sub_write_ne (.inl (by omega))).trans h.fut,(nth_write_ne (.inl (by omega))).trans h.left,(sub_write_ne (.inl (by omega))).trans h.fds,(nth_write_ne (.inl (by omega))).trans h.aff,by rw[sub_write_in h.pages hk,e],h.okc,h.oks,h.okh⟩
structure FC(L:Loc)(r:St)(cs:Cells):Prop where
 n:cs.n=13
 cores:cs.nth 0=some (In r.cores)
 frames:cs.nth 1=some (In r.frames)
 procs:cs.nth 2=some (In r.procs)
 cap:cs.nth 3=some (In r.cap)
 prog:cs.nth 4=some (L.gv)
 lv:cs.nth 5=some (L.lv)
 fv:cs.nth 6=some (L.fv)
 contents:cs.nth 7=some (In r.contents)
 files:cs.nth 8=some (In r.files)
 pipes:cs.nth 9=some (In r.pipes)
 next:cs.nth 10=some (In r.next)
 halted:cs.nth 11=some (.bool r.halted)
 sv:cs.nth 12=some (L.sv)
theorem FC.w_contents{L:Loc}{r:St}{cs:Cells}(h:FC L r cs){x:Int}:FC L {r with contents:=x} (cs.write 7 ([In x])):=⟨by rw[write_n,h.n],nwl h.cores,nwl h.frames,nwl h.procs,nwl h.cap,nwl h.prog,nwl h.lv,nwl h.fv,nth_write_same (by rw[h.n];decide),nwr h.files,nwr h.pipes,nwr h.next,nwr h.halted,nwr h.sv⟩
theorem FC.w_files{L:Loc}{r:St}{cs:Cells}(h:FC L r cs){x:Int}:FC L {r with files:=x} (cs.write 8 ([In x])):=⟨by rw[write_n,h.n],nwl h.cores,nwl h.frames,nwl h.procs,nwl h.cap,nwl h.prog,nwl h.lv,nwl h.fv,nwl h.contents,nth_write_same (by rw[h.n];decide),nwr h.pipes,nwr h.next,nwr h.halted,nwr h.sv⟩
theorem FC.w_pipes{L:Loc}{r:St}{cs:Cells}(h:FC L r cs){x:Int}:FC L {r with pipes:=x} (cs.write 9 ([In x])):=⟨by rw[write_n,h.n],nwl h.cores,nwl h.frames,nwl h.procs,nwl h.cap,nwl h.prog,nwl h.lv,nwl h.fv,nwl h.contents,nwl h.files,nth_write_same (by rw[h.n];decide),nwr h.next,nwr h.halted,nwr h.sv⟩
theorem FC.w_next{L:Loc}{r:St}{cs:Cells}(h:FC L r cs){x:Int}:FC L {r with next:=x} (cs.write 10 ([In x])):=⟨by rw[write_n,h.n],nwl h.cores,nwl h.frames,nwl h.procs,nwl h.cap,nwl h.prog,nwl h.lv,nwl h.fv,nwl h.contents,nwl h.files,nwl h.pipes,nth_write_same (by rw[h.n];decide),nwr h.halted,nwr h.sv⟩
theorem FC.w_halted{L:Loc}{r:St}{cs:Cells}(h:FC L r cs){x:Bool}:FC L {r with halted:=x} (cs.write 11 ([.bool x])):=⟨by rw[write_n,h.n],nwl h.cores,nwl h.frames,nwl h.procs,nwl h.cap,nwl h.prog,nwl h.lv,nwl h.fv,nwl h.contents,nwl h.files,nwl h.pipes,nwl h.next,nth_write_same (by rw[h.n];decide),nwr h.sv⟩
structure GC(L:Loc)(r:Page)(cs:Cells):Prop where
 n:cs.n=4
 c:cs.nth 0=some (PT (L.c r.c))
 write:cs.nth 1=some (.bool r.write)
 shared:cs.nth 2=some (.bool r.shared)
 cow:cs.nth 3=some (.bool r.cow)
theorem GC.w_c{L:Loc}{r:Page}{cs:Cells}(h:GC L r cs){x:Nat}:GC L {r with c:=x} (cs.write 0 ([PT (L.c x)])):=⟨by rw[write_n,h.n],nth_write_same (by rw[h.n];decide),nwr h.write,nwr h.shared,nwr h.cow⟩
theorem GC.w_cow{L:Loc}{r:Page}{cs:Cells}(h:GC L r cs){x:Bool}:GC L {r with cow:=x} (cs.write 3 ([.bool x])):=⟨by rw[write_n,h.n],nwl h.c,nwl h.write,nwl h.shared,nth_write_same (by rw[h.n];decide)⟩
structure CC(L:Loc)(r:Cont)(cs:Cells):Prop where
 n:cs.n=65
 b:cs.sub 0 64=some (r.b.map By)
 refs:cs.nth 64=some (In r.refs)
theorem CC.w_refs{L:Loc}{r:Cont}{cs:Cells}(h:CC L r cs){x:Int}:CC L {r with refs:=x} (cs.write 64 ([In x])):=⟨by rw[write_n,h.n],swl h.b,nth_write_same (by rw[h.n];decide)⟩
theorem CC.w1_b{L:Loc}{r:Cont}{cs:Cells}(h:CC L r cs){k:Nat}(hk:k<64){v:Value}{x:List (BitVec 8)}(e:(r.b.map By).set k v=x.map By):CC L {r with b:=x} (cs.write (0+k) [v]):=⟨by rw[write_n,h.n],by rw[sub_write_in h.b hk,e],(nth_write_ne (.inr (by simp only[List.length_cons,List.length_nil];omega))).trans h.refs⟩
structure XC(L:Loc)(r:File)(cs:Cells):Prop where
 n:cs.n=3
 p:cs.nth 0=some (PT (L.i r.p))
 write:cs.nth 1=some (.bool r.write)
 refs:cs.nth 2=some (In r.refs)
theorem XC.w_refs{L:Loc}{r:File}{cs:Cells}(h:XC L r cs){x:Int}:XC L {r with refs:=x} (cs.write 2 ([In x])):=⟨by rw[write_n,h.n],nwl h.p,nwl h.write,nth_write_same (by rw[h.n];decide)⟩
theorem map_pV{l:List (Option Nat)}{f g:Nat->Nat}(h:∀k x,l.getD k none=some x->g x=f x):(l.map λx=>pV (x.map g))=l.map λx=>pV (x.map f):=by
 apply List.map_congr_left
 intro o ho
 obtain⟨k,hk,e⟩:=List.getElem_of_mem ho
 cases o with
 |none=>rfl
 |some x=>
  have:=h k x (by rw[gD',gE' hk,e];rfl)
  simp only[Option.map_some,this]
theorem opt_pV{o:Option Nat}{f g:Nat->Nat}(h:∀x,o=some x->g x=f x):pV (o.map g)=pV (o.map f):=by
 cases o with
 |none=>rfl
 |some x=>simp only[Option.map_some,h x rfl]
theorem PC.move{L L':Loc}{r:Proc}{cs:Cells}(h:PC L r cs)(hf:L'.f=L.f)(hi:∀q,r.pipe=some q->L'.i q=L.i q)(hx:∀k x,r.fds.getD k none=some x->L'.x x=L.x x)(hg:∀k x,r.pages.getD k none=some x->L'.g x=L.g x)(hc:∀q,r.fut.c=some q->L'.c q=L.c q)(hp:∀q,r.fut.p=some q->L'.p q=L.p q):PC L' r cs:=
 ⟨h.n,by rw[hf];exact h.f,h.pid,h.parent,h.state,h.status,h.cpu,h.saved,h.sig,h.wait,by rw[opt_pV hi];exact h.pipe,by unfold futL;rw[opt_pV hc,opt_pV hp];exact h.fut,h.left,by rw[map_pV hx];exact h.fds,h.aff,by rw[map_pV hg];exact h.pages,h.okc,h.oks,h.okh⟩
theorem GC.move{L L':Loc}{r:Page}{cs:Cells}(h:GC L r cs)(hc:L'.c r.c=L.c r.c):GC L' r cs:=⟨h.n,by rw[hc];exact h.c,h.write,h.shared,h.cow⟩
theorem CC.move{L L':Loc}{r:Cont}{cs:Cells}(h:CC L r cs):CC L' r cs:=⟨h.n,h.b,h.refs⟩
theorem XC.move{L L':Loc}{r:File}{cs:Cells}(h:XC L r cs)(hc:L'.i r.p=L.i r.p):XC L' r cs:=⟨h.n,by rw[hc];exact h.p,h.write,h.refs⟩
structure IC(bv:Value)(r:Pipe)(cs:Cells):Prop where
 n:cs.n=3
 bv:cs.nth 0=some bv
 readers:cs.nth 1=some (In r.readers)
 writers:cs.nth 2=some (In r.writers)
abbrev Loc.b(L:Loc)(i:Nat):Value:=L.bv.getD i (.slice none 0 0)
def Loc.ids(L:Loc):List Nat:=L.f::(L.P++(L.G++(L.C++(L.I++L.F))))
structure FAt(m:Mem)(L:Loc)(X:St):Prop where
 fl:∃cs,m.get L.f=some (.cells cs true 0)∧FC L X cs
 pr:∀k,k<X.P.length->∃cs,m.get (L.p k)=some (.cells cs true 0)∧PC L (X.p k) cs
 pg:∀k,k<X.G.length->∃cs,m.get (L.g k)=some (.cells cs true 0)∧GC L (X.g k) cs
 ct:∀k,k<X.C.length->∃cs,m.get (L.c k)=some (.cells cs true 0)∧CC L (X.c k) cs
 ip:∀k,k<X.I.length->∃cs,m.get (L.i k)=some (.cells cs true 0)∧IC (L.bv.getD k (.slice none 0 0)) (X.i k) cs
 xs:∀k,k<X.F.length->∃cs,m.get (L.x k)=some (.cells cs true 0)∧XC L (X.x k) cs
 lP:L.P.length=X.P.length
 lG:L.G.length=X.G.length
 lC:L.C.length=X.C.length
 lI:L.I.length=X.I.length
 lF:L.F.length=X.F.length
 lb:L.bv.length=X.I.length
 nd:L.ids.Nodup
 dm:∀y∈L.ids,L.D y
 ls:SlV m 1 L.lv X.l.length (X.l.map λi=>PT (L.p i))
 fs:SlV m 1 L.fv X.fut.length (X.fut.map λi=>PT (L.p i))
 ss:SlV m 4 L.sv X.seen.length (X.seen.flatMap seenL)
 bs:∀k,k<X.I.length->SlV m 1 (L.b k) (X.i k).b.length ((X.i k).b.map By)
 dl:∀y,slB L.lv=some y->L.D y
 df:∀y,slB L.fv=some y->L.D y
 ds:∀y,slB L.sv=some y->L.D y
 db:∀k y,k<X.I.length->slB (L.b k)=some y->L.D y
 sep:∀y,slB L.lv=some y->slB L.fv≠some y∧∀k,k<X.I.length->slB (L.b k)≠some y
 lt:∀y,L.D y->y<m.next
 d64:∀y,L.D y->64<=y
 pi:∀j∈X.l,j<X.P.length
 pf:∀j∈X.fut,j<X.P.length
structure Fd(D:Nat->Prop)(m m':Mem):Prop where
 next:m.next<=m'.next
 fresh:Fresh m'
 old:∀y,y<m.next->¬D y->m'.get y=m.get y
 low:∀y,y<m.next->m.get y=none->m'.get y=none
structure Lx(n:Nat)(L L':Loc):Prop where
 f:L'.f=L.f
 P:∃l,L'.P=L.P++l
 G:∃l,L'.G=L.G++l
 C:∃l,L'.C=L.C++l
 I:∃l,L'.I=L.I++l
 F:∃l,L'.F=L.F++l
 D:∀y,L'.D y->L.D y∨n<=y
theorem getD_app{l k:List Nat}{i:Nat}(h:i<l.length):(l++k).getD i 0=l.getD i 0:=by
 rw[gD',gD',aB' h]
theorem getD_mem{l:List Nat}{i:Nat}(h:i<l.length):l.getD i 0∈l:=by
 rw[gD',gE' h];exact List.getElem_mem h
theorem getD_inj{l:List Nat}{i j:Nat}(hn:l.Nodup)(hi:i<l.length)(hj:j<l.length)(h:l.getD i 0=l.getD j 0):i=j:=by
 rw[gD',gD',gE' hi,gE' hj] at h
 rcases Nat.lt_trichotomy i j with hij|hij|hij
 ·exact absurd h (List.pairwise_iff_getElem.1 hn i j hi hj hij)
 ·exact hij
 ·exact absurd h.symm (List.pairwise_iff_getElem.1 hn j i hj hi hij)
theorem Fd.refl{D:Nat->Prop}{m:Mem}(h:Fresh m):Fd D m m:=⟨lR' _,h,λ_ _ _=>rfl,λ_ _ h=>h⟩
theorem Fd.bump{D:Nat->Prop}{m m':Mem}(h:Fd D m m')(j:Nat):Fd D m (m'.bump j):=⟨by rw[bN];exact lA h.next,h.fresh.bump,h.old,h.low⟩
theorem Fd.of_nx{D:Nat->Prop}{m m':Mem}(h:Nx m m'):Fd D m m':=⟨h.next,h.fresh,λy hy _=>h.old y hy,λy hy e=>by rw[h.old y hy,e]⟩
theorem Fd.trans{D D':Nat->Prop}{m m1 m2:Mem}(h:Fd D m m1)(k:Fd D' m1 m2)(hD:∀y,D' y->D y∨m.next<=y):Fd D m m2:=
 ⟨lT h.next k.next,k.fresh,λy hy hn=>by
  rw[k.old y (lL hy h.next) (λe=>(hD y e).elim hn (λe2=>by omega)),h.old y hy hn],
  λy hy e=>k.low y (lL hy h.next) (h.low y hy e)⟩
theorem Fd.grow{D:Nat->Prop}{m m':Mem}(h:Fd D m m'):Grow m m':=⟨h.next,h.low⟩
theorem Fd.raw{D:Nat->Prop}{m m':Mem}{u:Value}{R:Value->Mem->Prop}(h:Fd D m m')(hR:R u m'):RawE m m' u R:=⟨h.grow,hR⟩
theorem Lx.refl{n:Nat}{L:Loc}:Lx n L L:=⟨rfl,⟨[],by simp⟩,⟨[],by simp⟩,⟨[],by simp⟩,⟨[],by simp⟩,⟨[],by simp⟩,λ_ h=> .inl h⟩
theorem Lx.trans{n k:Nat}{L L1 L2:Loc}(h:Lx n L L1)(g:Lx k L1 L2)(hn:n<=k):Lx n L L2:=by
 obtain⟨h0,⟨a1,h1⟩,⟨a2,h2⟩,⟨a3,h3⟩,⟨a4,h4⟩,⟨a5,h5⟩,h6⟩:=h
 obtain⟨g0,⟨b1,g1⟩,⟨b2,g2⟩,⟨b3,g3⟩,⟨b4,g4⟩,⟨b5,g5⟩,g6⟩:=g
 exact⟨g0.trans h0,⟨a1++b1,by rw[g1,h1,aA]⟩,⟨a2++b2,by rw[g2,h2,aA]⟩,⟨a3++b3,by rw[g3,h3,aA]⟩,⟨a4++b4,by rw[g4,h4,aA]⟩,⟨a5++b5,by rw[g5,h5,aA]⟩,
  λy hy=>(g6 y hy).elim (h6 y) (λe=> .inr (by omega))⟩
section
variable{m m':Mem}{L L':Loc}{X:St}{n:Nat}
theorem Lx.p(h:Lx n L L'){j:Nat}(hj:j<L.P.length):L'.p j=L.p j:=by
 obtain⟨l,e⟩:=h.P
 show L'.P.getD j 0=_
 rw[e,getD_app hj]
theorem Lx.g(h:Lx n L L'){j:Nat}(hj:j<L.G.length):L'.g j=L.g j:=by
 obtain⟨l,e⟩:=h.G
 show L'.G.getD j 0=_
 rw[e,getD_app hj]
theorem Lx.c(h:Lx n L L'){j:Nat}(hj:j<L.C.length):L'.c j=L.c j:=by
 obtain⟨l,e⟩:=h.C
 show L'.C.getD j 0=_
 rw[e,getD_app hj]
theorem Lx.i(h:Lx n L L'){j:Nat}(hj:j<L.I.length):L'.i j=L.i j:=by
 obtain⟨l,e⟩:=h.I
 show L'.I.getD j 0=_
 rw[e,getD_app hj]
theorem Lx.x(h:Lx n L L'){j:Nat}(hj:j<L.F.length):L'.x j=L.x j:=by
 obtain⟨l,e⟩:=h.F
 show L'.F.getD j 0=_
 rw[e,getD_app hj]
theorem FAt.mp(h:FAt m L X){j:Nat}(hj:j<X.P.length):L.p j∈L.ids:=List.mem_cons_of_mem _ (List.mem_append_left _ (getD_mem (by rw[h.lP];exact hj)))
theorem FAt.mg(h:FAt m L X){j:Nat}(hj:j<X.G.length):L.g j∈L.ids:=List.mem_cons_of_mem _ (aD' _ (List.mem_append_left _ (getD_mem (by rw[h.lG];exact hj))))
theorem FAt.mc(h:FAt m L X){j:Nat}(hj:j<X.C.length):L.c j∈L.ids:=List.mem_cons_of_mem _ (aD' _ (aD' _ (List.mem_append_left _ (getD_mem (by rw[h.lC];exact hj)))))
theorem FAt.mi(h:FAt m L X){j:Nat}(hj:j<X.I.length):L.i j∈L.ids:=List.mem_cons_of_mem _ (aD' _ (aD' _ (aD' _ (List.mem_append_left _ (getD_mem (by rw[h.lI];exact hj))))))
theorem FAt.mx(h:FAt m L X){j:Nat}(hj:j<X.F.length):L.x j∈L.ids:=List.mem_cons_of_mem _ (aD' _ (aD' _ (aD' _ (aD' _ (getD_mem (by rw[h.lF];exact hj))))))
theorem FAt.mf(_:FAt m L X):L.f∈L.ids:=List.mem_cons_self
theorem FAt.nds(h:FAt m L X):L.f∉L.P++(L.G++(L.C++(L.I++L.F)))∧(L.P.Nodup∧(L.G.Nodup∧(L.C.Nodup∧(L.I.Nodup∧L.F.Nodup∧∀a∈L.I,∀b∈L.F,a≠b)∧∀a∈L.C,∀b∈L.I++L.F,a≠b)∧∀a∈L.G,∀b∈L.C++(L.I++L.F),a≠b)∧∀a∈L.P,∀b∈L.G++(L.C++(L.I++L.F)),a≠b):=by
 have h1:=h.nd
 unfold Loc.ids at h1
 obtain⟨a1,a2⟩:=List.nodup_cons.1 h1
 obtain⟨b1,b2,b3⟩:=List.nodup_append.1 a2
 obtain⟨c1,c2,c3⟩:=List.nodup_append.1 b2
 obtain⟨d1,d2,d3⟩:=List.nodup_append.1 c2
 obtain⟨e1,e2,e3⟩:=List.nodup_append.1 d2
 exact⟨a1,b1,⟨c1,⟨d1,⟨e1,e2,e3⟩,d3⟩,c3⟩,b3⟩
theorem FAt.ij_p(h:FAt m L X){i j:Nat}(hi:i<X.P.length)(hj:j<X.P.length)(e:L.p i=L.p j):i=j:=getD_inj h.nds.2.1 (by rw[h.lP];exact hi) (by rw[h.lP];exact hj) e
theorem FAt.f_p(h:FAt m L X){j:Nat}(hj:j<X.P.length):L.f≠L.p j:=λe=>h.nds.1 (by rw[e];exact List.mem_append_left _ (getD_mem (by rw[h.lP];exact hj)))
theorem FAt.ij_g(h:FAt m L X){i j:Nat}(hi:i<X.G.length)(hj:j<X.G.length)(e:L.g i=L.g j):i=j:=getD_inj h.nds.2.2.1.1 (by rw[h.lG];exact hi) (by rw[h.lG];exact hj) e
theorem FAt.f_g(h:FAt m L X){j:Nat}(hj:j<X.G.length):L.f≠L.g j:=λe=>h.nds.1 (by rw[e];exact aD' _ (List.mem_append_left _ (getD_mem (by rw[h.lG];exact hj))))
theorem FAt.ij_c(h:FAt m L X){i j:Nat}(hi:i<X.C.length)(hj:j<X.C.length)(e:L.c i=L.c j):i=j:=getD_inj h.nds.2.2.1.2.1.1 (by rw[h.lC];exact hi) (by rw[h.lC];exact hj) e
theorem FAt.f_c(h:FAt m L X){j:Nat}(hj:j<X.C.length):L.f≠L.c j:=λe=>h.nds.1 (by rw[e];exact aD' _ (aD' _ (List.mem_append_left _ (getD_mem (by rw[h.lC];exact hj)))))
theorem FAt.ij_i(h:FAt m L X){i j:Nat}(hi:i<X.I.length)(hj:j<X.I.length)(e:L.i i=L.i j):i=j:=getD_inj h.nds.2.2.1.2.1.2.1.1 (by rw[h.lI];exact hi) (by rw[h.lI];exact hj) e
theorem FAt.f_i(h:FAt m L X){j:Nat}(hj:j<X.I.length):L.f≠L.i j:=λe=>h.nds.1 (by rw[e];exact aD' _ (aD' _ (aD' _ (List.mem_append_left _ (getD_mem (by rw[h.lI];exact hj))))))
theorem FAt.ij_x(h:FAt m L X){i j:Nat}(hi:i<X.F.length)(hj:j<X.F.length)(e:L.x i=L.x j):i=j:=getD_inj h.nds.2.2.1.2.1.2.1.2.1 (by rw[h.lF];exact hi) (by rw[h.lF];exact hj) e
theorem FAt.f_x(h:FAt m L X){j:Nat}(hj:j<X.F.length):L.f≠L.x j:=λe=>h.nds.1 (by rw[e];exact aD' _ (aD' _ (aD' _ (aD' _ (getD_mem (by rw[h.lF];exact hj))))))
theorem FAt.p_g(h:FAt m L X){i j:Nat}(hi:i<X.P.length)(hj:j<X.G.length):L.p i≠L.g j:=h.nds.2.2.2 _ (getD_mem (by rw[h.lP];exact hi)) _ (List.mem_append_left _ (getD_mem (by rw[h.lG];exact hj)))
theorem FAt.p_c(h:FAt m L X){i j:Nat}(hi:i<X.P.length)(hj:j<X.C.length):L.p i≠L.c j:=h.nds.2.2.2 _ (getD_mem (by rw[h.lP];exact hi)) _ (aD' _ (List.mem_append_left _ (getD_mem (by rw[h.lC];exact hj))))
theorem FAt.p_i(h:FAt m L X){i j:Nat}(hi:i<X.P.length)(hj:j<X.I.length):L.p i≠L.i j:=h.nds.2.2.2 _ (getD_mem (by rw[h.lP];exact hi)) _ (aD' _ (aD' _ (List.mem_append_left _ (getD_mem (by rw[h.lI];exact hj)))))
theorem FAt.p_x(h:FAt m L X){i j:Nat}(hi:i<X.P.length)(hj:j<X.F.length):L.p i≠L.x j:=h.nds.2.2.2 _ (getD_mem (by rw[h.lP];exact hi)) _ (aD' _ (aD' _ (aD' _ (getD_mem (by rw[h.lF];exact hj)))))
theorem FAt.g_c(h:FAt m L X){i j:Nat}(hi:i<X.G.length)(hj:j<X.C.length):L.g i≠L.c j:=h.nds.2.2.1.2.2 _ (getD_mem (by rw[h.lG];exact hi)) _ (List.mem_append_left _ (getD_mem (by rw[h.lC];exact hj)))
theorem FAt.g_i(h:FAt m L X){i j:Nat}(hi:i<X.G.length)(hj:j<X.I.length):L.g i≠L.i j:=h.nds.2.2.1.2.2 _ (getD_mem (by rw[h.lG];exact hi)) _ (aD' _ (List.mem_append_left _ (getD_mem (by rw[h.lI];exact hj))))
theorem FAt.g_x(h:FAt m L X){i j:Nat}(hi:i<X.G.length)(hj:j<X.F.length):L.g i≠L.x j:=h.nds.2.2.1.2.2 _ (getD_mem (by rw[h.lG];exact hi)) _ (aD' _ (aD' _ (getD_mem (by rw[h.lF];exact hj))))
theorem FAt.c_i(h:FAt m L X){i j:Nat}(hi:i<X.C.length)(hj:j<X.I.length):L.c i≠L.i j:=h.nds.2.2.1.2.1.2.2 _ (getD_mem (by rw[h.lC];exact hi)) _ (List.mem_append_left _ (getD_mem (by rw[h.lI];exact hj)))
theorem FAt.c_x(h:FAt m L X){i j:Nat}(hi:i<X.C.length)(hj:j<X.F.length):L.c i≠L.x j:=h.nds.2.2.1.2.1.2.2 _ (getD_mem (by rw[h.lC];exact hi)) _ (aD' _ (getD_mem (by rw[h.lF];exact hj)))
theorem FAt.i_x(h:FAt m L X){i j:Nat}(hi:i<X.I.length)(hj:j<X.F.length):L.i i≠L.x j:=h.nds.2.2.1.2.1.2.1.2.2 _ (getD_mem (by rw[h.lI];exact hi)) _ (getD_mem (by rw[h.lF];exact hj))
theorem FAt.cell0(h:FAt m L X){y:Nat}(hy:y∈L.ids):∃cs,m.get y=some (.cells cs true 0):=by
 have gx:∀(l:List Nat),y∈l->∃i,i<l.length∧l.getD i 0=y:=λl hl=>by
  obtain⟨i,hi,e⟩:=List.getElem_of_mem hl
  exact⟨i,hi,by rw[gD',gE' hi];exact e⟩
 unfold Loc.ids at hy
 rcases List.mem_cons.1 hy with rfl|hy
 ·obtain⟨cs,h1,_⟩:=h.fl;exact⟨cs,h1⟩
 rcases List.mem_append.1 hy with hy|hy
 ·obtain⟨i,hi,e⟩:=gx _ hy;obtain⟨cs,h1,_⟩:=h.pr i (by rw[<-h.lP];exact hi);exact⟨cs,by rw[<-e];exact h1⟩
 rcases List.mem_append.1 hy with hy|hy
 ·obtain⟨i,hi,e⟩:=gx _ hy;obtain⟨cs,h1,_⟩:=h.pg i (by rw[<-h.lG];exact hi);exact⟨cs,by rw[<-e];exact h1⟩
 rcases List.mem_append.1 hy with hy|hy
 ·obtain⟨i,hi,e⟩:=gx _ hy;obtain⟨cs,h1,_⟩:=h.ct i (by rw[<-h.lC];exact hi);exact⟨cs,by rw[<-e];exact h1⟩
 rcases List.mem_append.1 hy with hy|hy
 ·obtain⟨i,hi,e⟩:=gx _ hy;obtain⟨cs,h1,_⟩:=h.ip i (by rw[<-h.lI];exact hi);exact⟨cs,by rw[<-e];exact h1⟩
 ·obtain⟨i,hi,e⟩:=gx _ hy;obtain⟨cs,h1,_⟩:=h.xs i (by rw[<-h.lF];exact hi);exact⟨cs,by rw[<-e];exact h1⟩
theorem FAt.ids_lt(h:FAt m L X){y:Nat}(hy:y∈L.ids):y<m.next:=h.lt y (h.dm y hy)
theorem SlV.ne0{sz n:Nat}{v:Value}{fl:List Value}(h:SlV m sz v n fl)(hz:sz≠0){y:Nat}{cs:Cells}(hy:m.get y=some (.cells cs true 0)):slB v≠some y:=λe=>by
 obtain⟨c2,h2⟩:=h.ob e
 rw[hy] at h2
 cases h2
 exact hz rfl
theorem SlV.put0{sz n b:Nat}{v:Value}{fl:List Value}{o:AObj}(h:SlV m sz v n fl)(hz:sz≠0){cs:Cells}(hb:m.get b=some (.cells cs true 0)):SlV (m.put b o) sz v n fl:=
 h.keep λy _ hy ho=>by rw[gP,if_neg (λe=>h.ne0 hz hb (by rw[hy,e]))];exact ho
theorem FAt.bump(h:FAt m L X)(j:Nat):FAt (m.bump j) L X:=
 ⟨h.fl,h.pr,h.pg,h.ct,h.ip,h.xs,h.lP,h.lG,h.lC,h.lI,h.lF,h.lb,h.nd,h.dm,h.ls.bump j,h.fs.bump j,h.ss.bump j,λk hk=>(h.bs k hk).bump j,h.dl,h.df,h.ds,h.db,h.sep,λy hy=>by rw[bN];exact lL (h.lt y hy) (Nat.le_add_right _ _),h.d64,h.pi,h.pf⟩
theorem FAt.keep(h:FAt m L X)(hn:m.next<=m'.next)(ho:∀y,L.D y->m'.get y=m.get y):FAt m' L X:=by
 have hi:∀y∈L.ids,m'.get y=m.get y:=λy hy=>ho y (h.dm y hy)
 refine⟨?_,?_,?_,?_,?_,?_,h.lP,h.lG,h.lC,h.lI,h.lF,h.lb,h.nd,h.dm,h.ls.keep λy _ hy e=>?_,h.fs.keep λy _ hy e=>?_,h.ss.keep λy _ hy e=>?_,λk hk=>(h.bs k hk).keep λy _ hy e=>?_,h.dl,h.df,h.ds,h.db,h.sep,λy hy=>lL (h.lt y hy) hn,h.d64,h.pi,h.pf⟩
 ·obtain⟨cs,h1,h2⟩:=h.fl;exact⟨cs,by rw[hi _ h.mf];exact h1,h2⟩
 ·intro k hk;obtain⟨cs,h1,h2⟩:=h.pr k hk;exact⟨cs,by rw[hi _ (h.mp hk)];exact h1,h2⟩
 ·intro k hk;obtain⟨cs,h1,h2⟩:=h.pg k hk;exact⟨cs,by rw[hi _ (h.mg hk)];exact h1,h2⟩
 ·intro k hk;obtain⟨cs,h1,h2⟩:=h.ct k hk;exact⟨cs,by rw[hi _ (h.mc hk)];exact h1,h2⟩
 ·intro k hk;obtain⟨cs,h1,h2⟩:=h.ip k hk;exact⟨cs,by rw[hi _ (h.mi hk)];exact h1,h2⟩
 ·intro k hk;obtain⟨cs,h1,h2⟩:=h.xs k hk;exact⟨cs,by rw[hi _ (h.mx hk)];exact h1,h2⟩
 ·rw[ho y (h.dl y hy)];exact e
 ·rw[ho y (h.df y hy)];exact e
 ·rw[ho y (h.ds y hy)];exact e
 ·rw[ho y (h.db k y hk hy)];exact e
theorem FAt.nx(h:FAt m L X)(hn:Nx m m'):FAt m' L X:=h.keep hn.next λy hy=>hn.old y (h.lt y hy)
theorem FAt.new(h:FAt m L X){b:Nat}{o:AObj}(hb:¬L.D b):FAt (m.put b o) L X:=h.keep (lR' _) λy hy=>by rw[gP,if_neg (λe=>hb (by rw[<-e];exact hy))]
theorem FAt.new'(h:FAt m L X){j:Nat}{o:AObj}:FAt (m.put (m.next+j) o) L X:=h.new λe=>by have:=h.lt _ e;omega
theorem FAt.put_p(h:FAt m L X){i:Nat}(hi:i<X.P.length){cs:Cells}{r:Proc}(hr:PC L (r) cs):FAt (m.put (L.p i) (.cells cs true 0)) L {X with P:=X.P.set i r}:=by
 obtain⟨c0,hc0,_⟩:=h.pr i hi
 refine⟨?_,?_,?_,?_,?_,?_,by rw[h.lP];simp,h.lG,h.lC,h.lI,h.lF,h.lb,h.nd,h.dm,h.ls.put0 (by decide) hc0,h.fs.put0 (by decide) hc0,h.ss.put0 (by decide) hc0,λk hk=>(h.bs k hk).put0 (by decide) hc0,h.dl,h.df,h.ds,h.db,h.sep,h.lt,h.d64,λj hj=>by simpa using h.pi j hj,λj hj=>by simpa using h.pf j hj⟩
 ·obtain⟨c1,h1,h2⟩:=h.fl;exact⟨c1,by rw[gP,if_neg (h.f_p hi)];exact h1,⟨h2.n,h2.cores,h2.frames,h2.procs,h2.cap,h2.prog,h2.lv,h2.fv,h2.contents,h2.files,h2.pipes,h2.next,h2.halted,h2.sv⟩⟩
 ·intro k hk
  have hk':k<X.P.length:=by simpa using hk
  by_cases e:k=i
  ·subst e
   refine⟨cs,by rw[gP,if_pos rfl],?_⟩
   have:(X.P.set k r).getD k proc0=r:=by rw[gD',List.getElem?_set_self hk'];rfl
   show PC L ((X.P.set k r).getD k proc0) cs
   rw[this];exact hr
  ·obtain⟨c1,h1,h2⟩:=h.pr k hk'
   refine⟨c1,by rw[gP,if_neg (λe2=>e (h.ij_p hk' hi e2))];exact h1,?_⟩
   have:(X.P.set i r).getD k proc0=X.p k:=by rw[gD',List.getElem?_set_ne (λe2=>e e2.symm),<-gD']
   show PC L ((X.P.set i r).getD k proc0) c1
   rw[this];exact h2
 ·intro k hk;obtain⟨c1,h1,h2⟩:=h.pg k hk;exact⟨c1,by rw[gP,if_neg (λe=>h.p_g hi hk e.symm)];exact h1,h2⟩
 ·intro k hk;obtain⟨c1,h1,h2⟩:=h.ct k hk;exact⟨c1,by rw[gP,if_neg (λe=>h.p_c hi hk e.symm)];exact h1,h2⟩
 ·intro k hk;obtain⟨c1,h1,h2⟩:=h.ip k hk;exact⟨c1,by rw[gP,if_neg (λe=>h.p_i hi hk e.symm)];exact h1,h2⟩
 ·intro k hk;obtain⟨c1,h1,h2⟩:=h.xs k hk;exact⟨c1,by rw[gP,if_neg (λe=>h.p_x hi hk e.symm)];exact h1,h2⟩
theorem FAt.put_g(h:FAt m L X){i:Nat}(hi:i<X.G.length){cs:Cells}{r:Page}(hr:GC L (r) cs):FAt (m.put (L.g i) (.cells cs true 0)) L {X with G:=X.G.set i r}:=by
 obtain⟨c0,hc0,_⟩:=h.pg i hi
 refine⟨?_,?_,?_,?_,?_,?_,h.lP,by rw[h.lG];simp,h.lC,h.lI,h.lF,h.lb,h.nd,h.dm,h.ls.put0 (by decide) hc0,h.fs.put0 (by decide) hc0,h.ss.put0 (by decide) hc0,λk hk=>(h.bs k hk).put0 (by decide) hc0,h.dl,h.df,h.ds,h.db,h.sep,h.lt,h.d64,h.pi,h.pf⟩
 ·obtain⟨c1,h1,h2⟩:=h.fl;exact⟨c1,by rw[gP,if_neg (h.f_g hi)];exact h1,⟨h2.n,h2.cores,h2.frames,h2.procs,h2.cap,h2.prog,h2.lv,h2.fv,h2.contents,h2.files,h2.pipes,h2.next,h2.halted,h2.sv⟩⟩
 ·intro k hk;obtain⟨c1,h1,h2⟩:=h.pr k hk;exact⟨c1,by rw[gP,if_neg (h.p_g hk hi)];exact h1,h2⟩
 ·intro k hk
  have hk':k<X.G.length:=by simpa using hk
  by_cases e:k=i
  ·subst e
   refine⟨cs,by rw[gP,if_pos rfl],?_⟩
   have:(X.G.set k r).getD k page0=r:=by rw[gD',List.getElem?_set_self hk'];rfl
   show GC L ((X.G.set k r).getD k page0) cs
   rw[this];exact hr
  ·obtain⟨c1,h1,h2⟩:=h.pg k hk'
   refine⟨c1,by rw[gP,if_neg (λe2=>e (h.ij_g hk' hi e2))];exact h1,?_⟩
   have:(X.G.set i r).getD k page0=X.g k:=by rw[gD',List.getElem?_set_ne (λe2=>e e2.symm),<-gD']
   show GC L ((X.G.set i r).getD k page0) c1
   rw[this];exact h2
 ·intro k hk;obtain⟨c1,h1,h2⟩:=h.ct k hk;exact⟨c1,by rw[gP,if_neg (λe=>h.g_c hi hk e.symm)];exact h1,h2⟩
 ·intro k hk;obtain⟨c1,h1,h2⟩:=h.ip k hk;exact⟨c1,by rw[gP,if_neg (λe=>h.g_i hi hk e.symm)];exact h1,h2⟩
 ·intro k hk;obtain⟨c1,h1,h2⟩:=h.xs k hk;exact⟨c1,by rw[gP,if_neg (λe=>h.g_x hi hk e.symm)];exact h1,h2⟩
theorem FAt.put_c(h:FAt m L X){i:Nat}(hi:i<X.C.length){cs:Cells}{r:Cont}(hr:CC L (r) cs):FAt (m.put (L.c i) (.cells cs true 0)) L {X with C:=X.C.set i r}:=by
 obtain⟨c0,hc0,_⟩:=h.ct i hi
 refine⟨?_,?_,?_,?_,?_,?_,h.lP,h.lG,by rw[h.lC];simp,h.lI,h.lF,h.lb,h.nd,h.dm,h.ls.put0 (by decide) hc0,h.fs.put0 (by decide) hc0,h.ss.put0 (by decide) hc0,λk hk=>(h.bs k hk).put0 (by decide) hc0,h.dl,h.df,h.ds,h.db,h.sep,h.lt,h.d64,h.pi,h.pf⟩
 ·obtain⟨c1,h1,h2⟩:=h.fl;exact⟨c1,by rw[gP,if_neg (h.f_c hi)];exact h1,⟨h2.n,h2.cores,h2.frames,h2.procs,h2.cap,h2.prog,h2.lv,h2.fv,h2.contents,h2.files,h2.pipes,h2.next,h2.halted,h2.sv⟩⟩
 ·intro k hk;obtain⟨c1,h1,h2⟩:=h.pr k hk;exact⟨c1,by rw[gP,if_neg (h.p_c hk hi)];exact h1,h2⟩
 ·intro k hk;obtain⟨c1,h1,h2⟩:=h.pg k hk;exact⟨c1,by rw[gP,if_neg (h.g_c hk hi)];exact h1,h2⟩
 ·intro k hk
  have hk':k<X.C.length:=by simpa using hk
  by_cases e:k=i
  ·subst e
   refine⟨cs,by rw[gP,if_pos rfl],?_⟩
   have:(X.C.set k r).getD k cont0=r:=by rw[gD',List.getElem?_set_self hk'];rfl
   show CC L ((X.C.set k r).getD k cont0) cs
   rw[this];exact hr
  ·obtain⟨c1,h1,h2⟩:=h.ct k hk'
   refine⟨c1,by rw[gP,if_neg (λe2=>e (h.ij_c hk' hi e2))];exact h1,?_⟩
   have:(X.C.set i r).getD k cont0=X.c k:=by rw[gD',List.getElem?_set_ne (λe2=>e e2.symm),<-gD']
   show CC L ((X.C.set i r).getD k cont0) c1
   rw[this];exact h2
 ·intro k hk;obtain⟨c1,h1,h2⟩:=h.ip k hk;exact⟨c1,by rw[gP,if_neg (λe=>h.c_i hi hk e.symm)];exact h1,h2⟩
 ·intro k hk;obtain⟨c1,h1,h2⟩:=h.xs k hk;exact⟨c1,by rw[gP,if_neg (λe=>h.c_x hi hk e.symm)];exact h1,h2⟩
theorem FAt.put_x(h:FAt m L X){i:Nat}(hi:i<X.F.length){cs:Cells}{r:File}(hr:XC L (r) cs):FAt (m.put (L.x i) (.cells cs true 0)) L {X with F:=X.F.set i r}:=by
 obtain⟨c0,hc0,_⟩:=h.xs i hi
 refine⟨?_,?_,?_,?_,?_,?_,h.lP,h.lG,h.lC,h.lI,by rw[h.lF];simp,h.lb,h.nd,h.dm,h.ls.put0 (by decide) hc0,h.fs.put0 (by decide) hc0,h.ss.put0 (by decide) hc0,λk hk=>(h.bs k hk).put0 (by decide) hc0,h.dl,h.df,h.ds,h.db,h.sep,h.lt,h.d64,h.pi,h.pf⟩
 ·obtain⟨c1,h1,h2⟩:=h.fl;exact⟨c1,by rw[gP,if_neg (h.f_x hi)];exact h1,⟨h2.n,h2.cores,h2.frames,h2.procs,h2.cap,h2.prog,h2.lv,h2.fv,h2.contents,h2.files,h2.pipes,h2.next,h2.halted,h2.sv⟩⟩
 ·intro k hk;obtain⟨c1,h1,h2⟩:=h.pr k hk;exact⟨c1,by rw[gP,if_neg (h.p_x hk hi)];exact h1,h2⟩
 ·intro k hk;obtain⟨c1,h1,h2⟩:=h.pg k hk;exact⟨c1,by rw[gP,if_neg (h.g_x hk hi)];exact h1,h2⟩
 ·intro k hk;obtain⟨c1,h1,h2⟩:=h.ct k hk;exact⟨c1,by rw[gP,if_neg (h.c_x hk hi)];exact h1,h2⟩
 ·intro k hk;obtain⟨c1,h1,h2⟩:=h.ip k hk;exact⟨c1,by rw[gP,if_neg (h.i_x hk hi)];exact h1,h2⟩
 ·intro k hk
  have hk':k<X.F.length:=by simpa using hk
  by_cases e:k=i
  ·subst e
   refine⟨cs,by rw[gP,if_pos rfl],?_⟩
   have:(X.F.set k r).getD k file0=r:=by rw[gD',List.getElem?_set_self hk'];rfl
   show XC L ((X.F.set k r).getD k file0) cs
   rw[this];exact hr
  ·obtain⟨c1,h1,h2⟩:=h.xs k hk'
   refine⟨c1,by rw[gP,if_neg (λe2=>e (h.ij_x hk' hi e2))];exact h1,?_⟩
   have:(X.F.set i r).getD k file0=X.x k:=by rw[gD',List.getElem?_set_ne (λe2=>e e2.symm),<-gD']
   show XC L ((X.F.set i r).getD k file0) c1
   rw[this];exact h2
theorem FAt.put_f(h:FAt m L X){cs:Cells}{X':St}(hr:FC L X' cs)(e:X'.l=X.l∧X'.fut=X.fut∧X'.seen=X.seen∧X'.P=X.P∧X'.G=X.G∧X'.C=X.C∧X'.I=X.I∧X'.F=X.F):FAt (m.put L.f (.cells cs true 0)) L X':=by
 obtain⟨c0,hc0,_⟩:=h.fl
 obtain⟨xc,xf,xp,xa,l,fu,ct,fi,pp,nx,ha,se,P,G,C,I,F⟩:=X
 obtain⟨xc',xf',xp',xa',l',fu',ct',fi',pp',nx',ha',se',P',G',C',I',F'⟩:=X'
 obtain⟨rfl,rfl,rfl,rfl,rfl,rfl,rfl,rfl⟩:=e
 refine⟨⟨cs,by rw[gP,if_pos rfl],hr⟩,?_,?_,?_,?_,?_,h.lP,h.lG,h.lC,h.lI,h.lF,h.lb,h.nd,h.dm,h.ls.put0 (by decide) hc0,h.fs.put0 (by decide) hc0,h.ss.put0 (by decide) hc0,λk hk=>(h.bs k hk).put0 (by decide) hc0,h.dl,h.df,h.ds,h.db,h.sep,h.lt,h.d64,h.pi,h.pf⟩
 ·intro k hk;obtain⟨c1,h1,h2⟩:=h.pr k hk;exact⟨c1,by rw[gP,if_neg (λe=>h.f_p hk e.symm)];exact h1,h2⟩
 ·intro k hk;obtain⟨c1,h1,h2⟩:=h.pg k hk;exact⟨c1,by rw[gP,if_neg (λe=>h.f_g hk e.symm)];exact h1,h2⟩
 ·intro k hk;obtain⟨c1,h1,h2⟩:=h.ct k hk;exact⟨c1,by rw[gP,if_neg (λe=>h.f_c hk e.symm)];exact h1,h2⟩
 ·intro k hk;obtain⟨c1,h1,h2⟩:=h.ip k hk;exact⟨c1,by rw[gP,if_neg (λe=>h.f_i hk e.symm)];exact h1,h2⟩
 ·intro k hk;obtain⟨c1,h1,h2⟩:=h.xs k hk;exact⟨c1,by rw[gP,if_neg (λe=>h.f_x hk e.symm)];exact h1,h2⟩
end
end
end Go.Ab
