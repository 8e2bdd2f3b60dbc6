/- Part. -/
import Derived.Test.YtdhcheegbnnlbaaGreatDoorR05
import Derived.KernelRfl
set_option linter.all false
open Go.Ab.Mem renaming next_bump → bN, next_put → nP, get_bump → gB, get_put → gP
open Nat renaming le_add_right_of_le → lA, lt_of_lt_of_le → lL, le_refl → lR', le_trans → lT
open List renaming getD_eq_getElem?_getD → gD', getElem?_eq_getElem → gE', length_append → aL, getElem?_append_left → aB', getElem?_append_right → aC'
open Option.some renaming injEq → sI
open Go.Ab.Cells renaming ofList → ofL
namespace Go.Ab
noncomputable section
section
variable{P:Program}{E:Env}{n0:Nat}{rd:Option Nat}
class PI where
 p:Prop
class KI where
 k:List zb8->List Value->Mem->Prop
class VI (α:Type) where
 k:α->Prop
class QI where
 k:Exit->List Value->Mem->Prop
class CI where
 k:List zb8->Value->Mem->Prop
def XWi(E:Env)(base:Nat)(xs:List (Nat×SOp))(L:List zb8)(t:List Value)(m:Mem) [Q:KI]:Prop:=XW E base xs L t m Q.k
def YWi(E:Env)(base:Nat)(ys:List (Nat×SOp×List Nat×Bool))(h:List (Nat×Option Mem))(L:List zb8)(t:List Value)(m:Mem) [Q:KI]:Prop:=YW E base ys h L t m Q.k
def TDi(b:Bool) [A:PI]:Prop:=b=true∧A.p
theorem zF3{A:Prop}:TDi true (A:=⟨A⟩)=A:=by simp[TDi]
def okI{α:Type}(x:Option α) [k:VI α]:Prop:=okP x k.k
def GDi(c:Value)(b:Bool) [A:PI] [B:PI]:Prop:=GD c b A.p B.p
def CallI(E:Env)(L:List zb8)(tk:zpE)(m:Mem) [K:CI]:Prop:=zmy E L tk m K.k
def CDi(c:Value) [A:PI] [B:PI]:Prop:=match c with
 | .bool v=>(v=true->A.p)∧(v=false->B.p)
 |_=>False
def WXi(E:Env)(n0:Nat)(rd:Option Nat)(c:zan)(t:List Value)(m:Mem) [Q:QI]:Prop:=WX E n0 rd c t m Q.k
theorem zgL{α:Type}{a:α}{k:α->Prop}:okI (some a) (k:=⟨k⟩)=k a:=rfl
theorem zuD{P:Program}{a:Addr}:zwU P (.pointer (some a))=some (.pointer (some a)):=rfl
theorem zp3{P:Program}{f:FuncId}{a c:Array Value}:zwU P (.func (.func f) a c)=some (.func (.func f) a c):=rfl
theorem zsg{P:Program}{ty:TypeId}{nm:String}{a c:Array Value}(h:(zaB P ty nm).isSome=true):zwU P (.func (.methodOf ty nm) a c)=some (.func (.methodOf ty nm) a c):=by simp[zwU,h]
theorem zxV{nm:String}{ty:TypeId}{v:Value}:zjZ nm [.iface ty v] []=some (.func (.methodOf ty nm) #[v] #[]):=rfl
theorem zn6{P:Program}{f:Nat}{a c:Array Value}:zwU P (.func (.yield f) a c)=some (.func (.yield f) a c):=rfl
theorem zCk{A B:Prop}:GDi (.bool true) true (A:=⟨A⟩) (B:=⟨B⟩)=A:=by unfold GDi;rw[zjt];simp
theorem zDn{A B:Prop}:GDi (.bool true) false (A:=⟨A⟩) (B:=⟨B⟩)=B:=by unfold GDi;rw[zjt];simp
theorem zDQ{A B:Prop}:GDi (.bool false) true (A:=⟨A⟩) (B:=⟨B⟩)=B:=by unfold GDi;rw[zjt];simp
theorem zCp{A B:Prop}:GDi (.bool false) false (A:=⟨A⟩) (B:=⟨B⟩)=A:=by unfold GDi;rw[zjt];simp
theorem zHj{A B:Prop}:CDi (.bool true) (A:=⟨A⟩) (B:=⟨B⟩)=A:=by simp[CDi]
theorem zEJ{A B:Prop}:CDi (.bool false) (A:=⟨A⟩) (B:=⟨B⟩)=B:=by simp[CDi]
section
variable{base i:Nat}{rest:List (Nat×SOp)}{L:List zb8}{t:List Value}{m:Mem}{K:KI}{ty rt:TypeId}{d:Tmp}
theorem zFP{k:List zb8->List Value->Mem->Prop}:XWi E base [] L t m (Q:=⟨k⟩)=k L t m:=rfl
section
variable(hs:∀o r,E.sym o r=none)
include hs
theorem zzq{dst:Option Tmp}{op:Op}{g:Tmp}{b:Bool}:XWi E base ((i,⟨dst,op,ty,some (g,b)⟩)::rest) L t m (Q:=K)=GDi (t.getD g undef) b (A:=⟨XWi E base ((i,⟨dst,op,ty,none⟩)::rest) L t m (Q:=K)⟩) (B:=⟨XWi E base rest L (zdP dst undef t) m (Q:=K)⟩):=propext (zm4 hs)
theorem zDL{a b c:Operand}:XWi E base ((i,⟨some d, .pick c a b,ty,none⟩)::rest) L t m (Q:=K)=okI (zqQ (ev c t) (ev a t) (ev b t)) (k:=⟨λv=>XWi E base rest L (t.set d v) m (Q:=K)⟩):=propext (zza hs)
theorem zFQ{op:BinOp}{yt:TypeId}{x y:Operand}(h:zd7 op=false):XWi E base ((i,⟨some d, .binOp op ty x y yt,rt,none⟩)::rest) L t m (Q:=K)=okI (zcG E.P op ty (ev x t) (ev y t)) (k:=⟨λv=>XWi E base rest L (t.set d v) m (Q:=K)⟩):=propext (zAN hs h)
theorem zHg{yt:TypeId}{x y:Operand}:XWi E base ((i,⟨some d, .binOp .eql ty x y yt,rt,none⟩)::rest) L t m (Q:=K)=okI (eqA E.P .eql ty x y (ev x t) (ev y t) m) (k:=⟨λv=>XWi E base rest L (t.set d v) m (Q:=K)⟩):=propext (zDK hs)
theorem zG0{yt:TypeId}{x y:Operand}:XWi E base ((i,⟨some d, .binOp .neq ty x y yt,rt,none⟩)::rest) L t m (Q:=K)=okI (eqA E.P .neq ty x y (ev x t) (ev y t) m) (k:=⟨λv=>XWi E base rest L (t.set d v) m (Q:=K)⟩):=propext (zCz hs)
theorem zIX{op:UnOp}{x:Operand}:XWi E base ((i,⟨some d, .unOp op ty x,rt,none⟩)::rest) L t m (Q:=K)=okI (unV E.P op (ev x t)) (k:=⟨λv=>XWi E base rest L (t.set d v) m (Q:=K)⟩):=propext (zFH hs)
theorem zoj{x:Operand}:XWi E base ((i,⟨some d, .nilCheck x,ty,none⟩)::rest) L t m (Q:=K)=okI (zwU E.P (ev x t)) (k:=⟨λv=>XWi E base rest L (t.set d v) m (Q:=K)⟩):=propext (zmd hs)
theorem zl3{x:Operand}{f off:Nat}(hf:zaf E.P ty f=some off):XWi E base ((i,⟨some d, .fieldAddr ty x f,rt,none⟩)::rest) L t m (Q:=K)=okI (zx3 (ev x t) off) (k:=⟨λv=>XWi E base rest L (t.set d v) m (Q:=K)⟩):=propext (zkS hs hf)
theorem zyC{x:Operand}{f:Nat}:XWi E base ((i,⟨some d, .field ty x f,rt,none⟩)::rest) L t m (Q:=K)=okI (za9 E.P ⟨some d, .field ty x f,rt,none⟩ (ev · t)) (k:=⟨λv=>XWi E base rest L (t.set d v) m (Q:=K)⟩):=propext (zuN hs)
theorem zmD{x y:Operand}:XWi E base ((i,⟨some d, .indexAddr ty x y,rt,none⟩)::rest) L t m (Q:=K)=okI (zHG E.P ty (ev x t) (ev y t)) (k:=⟨λv=>XWi E base rest L (t.set d v) m (Q:=K)⟩):=propext (zlk hs)
theorem zs7{x:Operand}{k:Nat}:XWi E base ((i,⟨some d, .extract x k,ty,none⟩)::rest) L t m (Q:=K)=okI (match ev x t with| .tuple vs=>vs[k]? |_=>none) (k:=⟨λv=>XWi E base rest L (t.set d v) m (Q:=K)⟩):=propext (zoO hs)
theorem zpy{nm:String}{a c:Array Operand}:XWi E base ((i,⟨some d, .makeFunc (.method nm) a c,ty,none⟩)::rest) L t m (Q:=K)=okI (zjZ nm (a.map (ev · t)).toList (c.map (ev · t)).toList) (k:=⟨λv=>XWi E base rest L (t.set d v) m (Q:=K)⟩):=propext (zlK hs)
theorem zpi{f:FuncId}{a c:Array Operand}:XWi E base ((i,⟨some d, .makeFunc (.func f) a c,ty,none⟩)::rest) L t m (Q:=K)=XWi E base rest L (t.set d (.func (.func f) (a.map (ev · t)) (c.map (ev · t)))) m (Q:=K):=propext (zmj hs)
theorem zzM{ps:Array (Nat×Operand)}:XWi E base ((i,⟨some d, .build ty ps,rt,none⟩)::rest) L t m (Q:=K)=okI (zaT E.P ty (ps.toList.map λp=>(p.1,ev p.2 t))) (k:=⟨λv=>XWi E base rest L (t.set d v) m (Q:=K)⟩):=propext (zvv hs)
theorem zxB{x:Operand}{l h:Option Operand}:XWi E base ((i,⟨some d, .slice ty x l h none,rt,none⟩)::rest) L t m (Q:=K)=okI (zb5 E.P ty (ev x t) (l.map (ev · t)) (h.map (ev · t))) (k:=⟨λv=>XWi E base rest L (t.set d v) m (Q:=K)⟩):=propext (zvc hs)
theorem zAS{a:Operand}:XWi E base ((i,⟨some d, .load ty a,rt,none⟩)::rest) L t m (Q:=K)=okI (zdo E.P ty (ev a t) m) (k:=⟨λv=>XWi E base rest L (t.set d v) m (Q:=K)⟩):=propext (zxa hs)
theorem ztL{x k:Operand}{ok:Bool}:XWi E base ((i,⟨some d, .lookup ty x k ok,rt,none⟩)::rest) L t m (Q:=K)=okI (ze7 E.P ty (ev x t) (ev k t) ok m) (k:=⟨λv=>XWi E base rest L (t.set d v) m (Q:=K)⟩):=propext (zqR hs)
theorem zs4{s e:TypeId}{x:Operand}:XWi E base ((i,⟨some d, .convert s e x,rt,none⟩)::rest) L t m (Q:=K)=okI (zbU E.P s e (ev x t) m) (k:=⟨λv=>XWi E base rest L (t.set d v) m (Q:=K)⟩):=propext (zoB hs)
theorem zEX{x:Operand}:XWi E base ((i,⟨some d, .call ⟨.builtin .len,#[x],#[ty]⟩,rt,none⟩)::rest) L t m (Q:=K)=okI (lenA E.P ty (ev x t) m) (k:=⟨λv=>XWi E base rest L (t.set d v) m (Q:=K)⟩):=propext (zCF hs)
end
theorem zCi{x:Operand}:XWi E base ((i,⟨some d, .move x,ty,none⟩)::rest) L t m (Q:=K)=XWi E base rest L (t.set d (ev x t)) m (Q:=K):=propext (zzh)
theorem ztJ{x:Operand}:XWi E base ((i,⟨some d, .assign x,ty,none⟩)::rest) L t m (Q:=K)=XWi E base rest L (t.set d (ev x t)) m (Q:=K):=propext (zqc)
theorem zyO:XWi E base ((i,⟨some d, .alloc ty,rt,none⟩)::rest) L t m (Q:=K)=okI (zdy E.P ty) (k:=⟨λz=>XWi E base rest L (t.set d (.pointer (some ⟨base+i,0,none⟩))) (m.put (base+i) (.cells (.ofList z) true 0)) (Q:=K)⟩):=propext (ztW)
theorem zGB{x:Operand}:XWi E base ((i,⟨some d, .box ty x,rt,none⟩)::rest) L t m (Q:=K)=okI (zr8 (ev x t)) (k:=⟨λz=>XWi E base rest L (t.set d (.pointer (some ⟨base+i,0,none⟩))) (m.put (base+i) (.cells (.ofList z) true 0)) (Q:=K)⟩):=propext (zAw)
theorem zku{n:Nat}{ps:Array (Nat×Operand)}:XWi E base ((i,⟨some d, .buildSlice ty n ps,rt,none⟩)::rest) L t m (Q:=K)=okI (zdc E.P ⟨some d, .buildSlice ty n ps,rt,none⟩ (ev · t)) (k:=⟨λq=>XWi E base rest L (t.set d (q.2 (base+i))) (m.put (base+i) q.1) (Q:=K)⟩):=propext (zi0)
theorem zpN:XWi E base ((i,⟨some d, .makeMap ty none,rt,none⟩)::rest) L t m (Q:=K)=XWi E base rest L (t.set d (.map (some (base+i)))) (m.put (base+i) (.map [] true)) (Q:=K):=propext (zpA)
theorem zxG{a x:Operand}:XWi E base ((i,⟨none, .store ty a x,rt,none⟩)::rest) L t m (Q:=K)=okI (zcZ E.P ty (ev a t) (ev x t) m) (k:=⟨λm'=>XWi E base rest L t m' (Q:=K)⟩):=propext (zvu)
theorem zuk{a x:Operand}{ts:Array TypeId}:XWi E base ((i,⟨some d, .call ⟨.builtin .append,#[a,x],ts⟩,rt,none⟩)::rest) L t m (Q:=K)=okI (zaV E.P (base+i) ts (ev a t) (ev x t) m) (k:=⟨λq=>XWi E base rest L (t.set d q.1) q.2 (Q:=K)⟩):=propext (zrT)
theorem zGR{h:List (Nat×Option Mem)}{k:List zb8->List Value->Mem->Prop}:YWi E base [] h L t m (Q:=⟨k⟩)=k L t m:=rfl
section
variable{h:List (Nat×Option Mem)}{ys:List (Nat×SOp×List Nat×Bool)}{kp:Bool}{e:Nat}{l:List Nat}
theorem Y_0{o:SOp}:YWi E base ((i,o,[],kp)::ys) h L t m (Q:=K)=XWi E base [(i,o)] L t m (Q:=⟨λL' t' m'=>YWi E base ys ((i,zfU kp m)::h) L' t' m' (Q:=K)⟩):=by refine propext ⟨λh=>h.2,λh=>⟨trivial,h⟩⟩
theorem zJc{dst:Option Tmp}{op:Op}:YWi E base ((i,⟨dst,op,ty,none⟩,e::l,kp)::ys) h L t m (Q:=K)=
  okI (zck E ⟨dst,op,ty,none⟩ (ev · t) m) (k:=⟨λv=>okI (zlX h e) (k:=⟨λme=>okI (zck E ⟨dst,op,ty,none⟩ (ev · t) me) (k:=⟨λu=>TDi (E.eqv v u) (A:=⟨YWi E base ((i,⟨dst,op,ty,none⟩,l,kp)::ys) h L t m (Q:=K)⟩)⟩)⟩)⟩):=by
 refine propext (Iff.trans ?_ zcq.symm);constructor
 ·rintro⟨⟨_,h1⟩,h2⟩;obtain⟨⟨v,a1,me,a2,u,a3,a4⟩,a5⟩:=h1 rfl;exact⟨v,a1,zcq.2 ⟨me,a2,zcq.2 ⟨u,a3,a4,by cases l with|nil=>trivial|cons _ _=>exact⟨rfl,λ_=>a5⟩,h2⟩⟩⟩
 ·rintro⟨v,a1,h1⟩;obtain⟨me,a2,h1⟩:=zcq.1 h1;obtain⟨u,a3,a4,a5,a6⟩:=zcq.1 h1;refine⟨⟨rfl,λ_=>⟨⟨v,a1,me,a2,u,a3,a4⟩,?_⟩⟩,a6⟩;cases l with
  |nil=>trivial
  |cons _ _=>exact a5.2 rfl
variable(hs:∀o r,E.sym o r=none)
include hs
theorem zko{dst:Option Tmp}{op:Op}{g:Option (Tmp×Bool)}:∀{l:List Nat},reP E ⟨dst,op,ty,g⟩ t m h l↔reP E ⟨dst,op,ty,none⟩ t m h l
 |[]=>Iff.rfl
 |e::l=>by
  have hr:∀m,zck E ⟨dst,op,ty,g⟩ (ev · t) m=zck E ⟨dst,op,ty,none⟩ (ev · t) m:=λm=>by simp only[zbB hs];rfl
  unfold reP;simp only[hr];exact and_congr_right λ_=>zko
theorem zyf{dst:Option Tmp}{op:Op}{g:Tmp}{b:Bool}:YWi E base ((i,⟨dst,op,ty,some (g,b)⟩,e::l,kp)::ys) h L t m (Q:=K)=
  GDi (t.getD g undef) b (A:=⟨YWi E base ((i,⟨dst,op,ty,none⟩,e::l,kp)::ys) h L t m (Q:=K)⟩) (B:=⟨YWi E base ys ((i,zfU kp m)::h) L (zdP dst undef t) m (Q:=K)⟩):=by
 have e1:gOk (some (g,b)) t=gOk (some (0,b)) [t.getD g undef]:=rfl;have e2:wanted (some (g,b)) t=wanted (some (0,b)) [t.getD g undef]:=rfl;refine propext ?_;show ReW E ⟨dst,op,ty,some (g,b)⟩ t m h (e::l)∧XW E base [(i,⟨dst,op,ty,some (g,b)⟩)] L t m _↔GD _ _ (ReW E ⟨dst,op,ty,none⟩ t m h (e::l)∧XW E base [(i,⟨dst,op,ty,none⟩)] L t m _) _;have k1:ReW E ⟨dst,op,ty,some (g,b)⟩ t m h (e::l)↔(gOk (some (0,b)) [t.getD g undef]=true∧(wanted (some (0,b)) [t.getD g undef]=true->reP E ⟨dst,op,ty,none⟩ t m h (e::l))):=by rw[<-e1,<-e2,<-zko hs (g:=some (g,b))];exact Iff.rfl
 have k2:ReW E ⟨dst,op,ty,none⟩ t m h (e::l)↔reP E ⟨dst,op,ty,none⟩ t m h (e::l):=⟨λh=>h.2 rfl,λh=>⟨rfl,λ_=>h⟩⟩;rw[zm4 hs,k1,k2];generalize XW E base [(i,⟨dst,op,ty,none⟩)] L t m _=A;generalize reP E ⟨dst,op,ty,none⟩ t m h (e::l)=R;show _∧GD _ _ A (YW E base ys ((i,zfU kp m)::h) L (zdP dst undef t) m K.k)↔GD _ _ _ (YW E base ys ((i,zfU kp m)::h) L (zdP dst undef t) m K.k);generalize YW E base ys ((i,zfU kp m)::h) L (zdP dst undef t) m K.k=B;unfold GD;simp only[gOk,wanted,List.getD_cons_zero];cases hc:t.getD g undef with
 |bool c=>
  by_cases e:c=b
  ·simp[e]
  ·simp[e]
 |func f _ _=>cases f<;>simp
 |_=>simp
theorem zzT{dst:Option Tmp}{g:Option (Tmp×Bool)}{a:Operand}:zck E ⟨dst, .load ty a,rt,g⟩ (ev · t) m=zdo E.P ty (ev a t) m:=by rw[zbB hs];rfl
end
theorem zyF:zfU true m=some m:=rfl
theorem zzb:zfU false m=none:=rfl
theorem zoq{j k:Nat}{x:Option Mem}{h:List (Nat×Option Mem)}:zlX ((j,x)::h) k=if j=k then x else zlX h k:=rfl
theorem zBK{dst:Option Tmp}{f:FuncId}{args:Array Operand}{ts:Array TypeId}(hc:zab E.P f=true):XWi E base ((i,⟨dst, .call ⟨.value (.func f),args,ts⟩,rt,none⟩)::rest) L t m (Q:=K)=CallI E L (.call f (args.toList.map (ev · t))) m (K:=⟨λL' v m'=>XWi E base rest L' (zdP dst v t) m' (Q:=K)⟩):=propext (zyX hc)
end
section
variable{t:List Value}{m:Mem}{Q:Exit->List Value->Mem->Prop}{a b:zan}{i:Nat}
theorem zDz:WXi E n0 rd .skip t m (Q:=⟨Q⟩)=Q .normal t m:=rfl
theorem zBO:WXi E n0 rd (.exit i) t m (Q:=⟨Q⟩)=Q (.exit i) t m:=rfl
theorem zGl:WXi E n0 rd .ret t m (Q:=⟨Q⟩)=Q .ret t m:=rfl
def zuI(E:Env)(n0:Nat)(rd:Option Nat)(b:zan)(Q:Exit->List Value->Mem->Prop)(x:Exit)(t:List Value)(m:Mem):Prop:=match x with
 | .normal=>WX E n0 rd b t m Q
 |x=>Q x t m
theorem zEM:WXi E n0 rd (.seq a b) t m (Q:=⟨Q⟩)=WXi E n0 rd a t m (Q:=⟨zuI E n0 rd b Q⟩):=rfl
theorem zzc:WXi E n0 rd (.label i) t m (Q:=⟨Q⟩)=Q .normal t m:=rfl
theorem zkZ:zuI E n0 rd b Q .normal t m=WXi E n0 rd b t m (Q:=⟨Q⟩):=rfl
theorem zsP:zuI E n0 rd b Q .ret t m=Q .ret t m:=rfl
theorem zoU:zuI E n0 rd b Q (.exit i) t m=Q (.exit i) t m:=rfl
theorem zDT{c:Operand}:WXi E n0 rd (.cond c a b) t m (Q:=⟨Q⟩)=CDi (ev c t) (A:=⟨WXi E n0 rd a t m (Q:=⟨Q⟩)⟩) (B:=⟨WXi E n0 rd b t m (Q:=⟨Q⟩)⟩):=rfl
def znT(i:Nat)(Q:Exit->List Value->Mem->Prop)(x:Exit)(t:List Value)(m:Mem):Prop:=Q (match x with| .exit k=>if k=i then .normal else .exit k|x=>x) t m
theorem zx8:WXi E n0 rd (.block i b) t m (Q:=⟨Q⟩)=WXi E n0 rd b t m (Q:=⟨znT i Q⟩):=rfl
theorem zjg:znT i Q .normal t m=Q .normal t m:=rfl
theorem zn4:znT i Q .ret t m=Q .ret t m:=rfl
theorem zl2{k:Nat}:znT i Q (.exit k) t m=Q (if k=i then .normal else .exit k) t m:=rfl
def zha(Q:Exit->List Value->Mem->Prop)(x:Exit)(t:List Value)(m:Mem):Prop:=(∀l,x≠ .goto l)∧Q x t m
theorem zz6:WXi E n0 rd (.scope b) t m (Q:=⟨Q⟩)=WXi E n0 rd b t m (Q:=⟨zha Q⟩):=rfl
theorem ziY:zha Q .normal t m=Q .normal t m:=by simp[zha]
theorem zn8:zha Q .ret t m=Q .ret t m:=by simp[zha]
theorem zmp{k:Nat}:zha Q (.exit k) t m=Q (.exit k) t m:=by simp[zha]
end
def zE9(P:Program)(rs:List ResultVar)(m:Mem)(v:Value)(m':Mem)(x:Exit)(t:List Value)(m1:Mem):Prop:=
 (x= .normal∨x= .ret)∧∃vs,zeh P t m1 rs=some vs∧∃Φ,zwp m m1 (zdb vs) v m' Φ
def TidyE(m m1:Mem)(v1 v:Value)(m':Mem):Prop:=∃Φ,zwp m m1 v1 v m' Φ
section
variable{rs:List ResultVar}{m m' m1:Mem}{v v1:Value}{t vs:List Value}
theorem zu1:zE9 P rs m v m' .ret t m1=okI (zeh P t m1 rs) (k:=⟨λvs=>TidyE m m1 (zdb vs) v m'⟩):=by refine propext (Iff.trans ?_ zcq.symm);exact⟨λh=>h.2,λh=>⟨.inr rfl,h⟩⟩
theorem zmf:zE9 P rs m v m' .normal t m1=okI (zeh P t m1 rs) (k:=⟨λvs=>TidyE m m1 (zdb vs) v m'⟩):=by refine propext (Iff.trans ?_ zcq.symm);exact⟨λh=>h.2,λh=>⟨.inl rfl,h⟩⟩
end
structure zad(m:Mem):Prop where
 n64:64<=m.next
 none:∀b,m.next<=b->m.get b=none
theorem zad.lt{m:Mem}(h:zad m){b:Nat}{o:zaS}(hb:m.get b=some o):b<m.next:=by
 rcases Nat.lt_or_ge b m.next with h1|h1
 ·exact h1
 ·rw[h.none b h1] at hb;cases hb
theorem ztZ{σ:Sig}{ρ:Rho}{m:Mem}{w:World}(hR:Rel σ ρ m w):zad m:=by
 refine⟨?_,hR.fresh⟩;rcases Nat.lt_or_ge m.next 64 with h|h
 ·have:=hR.glob m.next h;rw[hR.dom _ (lR' _)] at this;cases this
 ·exact h
def Con(P:Program)(f:FuncId)(args:List Value)(m:Mem)(v:Value)(m':Mem):Prop:=zc5 Sig.none P f args m v m'∧Grow m m'
theorem Con.of(hE:zkh E){f:FuncId}{s:zal}{args:List Value}{m m':Mem}{v:Value}(hf:zaG E.P f=some s)(hl:args.length<=s.ntmps)(hg:Grow m m')
  (h:zad m->WXi E m.next none s.body (T s.ntmps (zhW 0 args)) m (Q:=⟨zE9 E.P s.results m v m'⟩)):Con E.P f args m v m':=by
 by_cases hm:zad m
 ·exact WX.call hE hf ⟨hl,h hm⟩
 ·refine⟨λρ w args' hR ha=>?_,hg⟩;exact absurd (ztZ hR) hm
theorem Grow.rfl{m:Mem}:Grow m m:=⟨lR' _,λ_ _ e=>e⟩
theorem CallI.con{L:List zb8}{f:FuncId}{args:List Value}{m m':Mem}{v:Value}{K:List zb8->Value->Mem->Prop}(h:Con E.P f args m v m')(hL:∀c∈L,c.tk= .call f args->c.m=m->c.v=v∧c.m'=m')(hK:K (⟨.call f args,m,v,m'⟩::L) v m'):CallI E L (.call f args) m (K:=⟨K⟩):=zmy.of h hL hK
theorem CallI.con0{f:FuncId}{args:List Value}{m m':Mem}{v:Value}{K:List zb8->Value->Mem->Prop}(h:Con E.P f args m v m')(hK:K [⟨.call f args,m,v,m'⟩] v m'):CallI E [] (.call f args) m (K:=⟨K⟩):=zmy.of h (by simp) hK
theorem zfF.mono{L:List zb8}{id:Nat}{o:SOp}{t:List Value}{m:Mem}{K K':List zb8->Value->Mem->Prop}(hk:∀L v m,K L v m->K' L v m)(h:zfF E L id o t m K):zfF E L id o t m K':=by
 rcases h with⟨v,m',h1,h2⟩|⟨tk,m1,v,m2,h1,h2,h3,h4⟩
 ·exact .inl ⟨v,m',h1,hk _ _ _ h2⟩
 ·exact .inr ⟨tk,m1,v,m2,h1,h2,h3,hk _ _ _ h4⟩
theorem XW.mono{base:Nat}{Q Q':List zb8->List Value->Mem->Prop}(hq:∀L t m,Q L t m->Q' L t m):∀{xs:List (Nat×SOp)} {L:List zb8} {t:List Value} {m:Mem},XW E base xs L t m Q->XW E base xs L t m Q'
 |[],_,_,_,h=>hq _ _ _ h
 |(_,_)::_,_,_,_,h=>⟨h.1,h.2.imp (λh=>⟨h.1,zfF.mono (λ_ _ _ h=>XW.mono hq h) h.2⟩) λh=>⟨h.1,XW.mono hq h.2⟩⟩
theorem YW.mono{base:Nat}{Q Q':List zb8->List Value->Mem->Prop}(hq:∀L t m,Q L t m->Q' L t m):∀{ys:List (Nat×SOp×List Nat×Bool)} {h:List (Nat×Option Mem)} {L:List zb8} {t:List Value} {m:Mem},YW E base ys h L t m Q->YW E base ys h L t m Q'
 |[],_,_,_,_,h=>hq _ _ _ h
 |(_,_,_,_)::_,_,_,_,_,h=>⟨h.1,XW.mono (λ_ _ _ h=>YW.mono hq h) h.2⟩
theorem LW.mono{B:List Value->Mem->(Exit->List Value->Mem->Prop)->Prop}(hB:∀t m (Q Q':Exit->List Value->Mem->Prop),(∀x t m,Q x t m->Q' x t m)->B t m Q->B t m Q'){Q Q':Exit->List Value->Mem->Prop}(hq:∀x t m,Q x t m->Q' x t m):∀{N:Nat} {t:List Value} {m:Mem},LW n0 rd B N t m Q->LW n0 rd B N t m Q'
 |0,_,_,h=>h.elim
 |N+1,t,m,h=>by
  obtain⟨t1,m1,h1,h2⟩:=h;refine⟨t1,m1,h1,hB _ _ _ _ (λx t m hx=>?_) h2⟩;cases x with
  |normal=>exact LW.mono hB hq hx
  |_=>obtain⟨t2,m2,h3,h4⟩:=hx;exact⟨t2,m2,h3,hq _ _ _ h4⟩
theorem WX.mono:∀{c:zan} {t:List Value} {m:Mem} {Q Q':Exit->List Value->Mem->Prop},(∀x t m,Q x t m->Q' x t m)->WX E n0 rd c t m Q->WX E n0 rd c t m Q':=by
 intro c
 induction c with
 |skip=>intro t m Q Q' hq h;exact hq _ _ _ h
 |exit i=>intro t m Q Q' hq h;exact hq _ _ _ h
 |ret=>intro t m Q Q' hq h;exact hq _ _ _ h
 |seq a b iha ihb=>
  intro t m Q Q' hq h;refine iha (λx t m hx=>?_) h;cases x with
  |normal=>exact ihb hq hx
  |_=>exact hq _ _ _ hx
 |cond c a b iha ihb=>
  intro t m Q Q' hq h;simp only[WX] at h⊢;split at h
  ·exact⟨λe=>iha hq (h.1 e),λe=>ihb hq (h.2 e)⟩
  ·exact h.elim
 |block i b ih=>intro t m Q Q' hq h;exact ih (λx t m hx=>hq _ _ _ hx) h
 |loop b ih=>intro t m Q Q' hq h;obtain⟨N,h⟩:=h;exact⟨N,LW.mono (B:=WX E n0 rd b) (λ_ _ _ _ hq h=>ih hq h) hq h⟩
 |reg ops=>intro t m Q Q' hq h;exact⟨h.1,XW.mono (λ_ t m h=>hq _ _ _ h) h.2⟩
 |dreg ops ord=>
  intro t m Q Q' hq h;refine⟨h.1,?_⟩;have h2:=h.2;split at h2
  ·exact XW.mono (λ_ t m h=>hq _ _ _ h) h2
  ·split at h2
   ·exact YW.mono (λ_ t m h=>hq _ _ _ h) h2
   ·exact h2.elim
 |scope b ih=>intro t m Q Q' hq h;exact ih (λx t m hx=>⟨hx.1,hq _ _ _ hx.2⟩) h
 |label=>intro t m Q Q' hq h;exact hq _ _ _ h
 |goto=>intro t m Q Q' hq h;exact h.elim
 |again=>intro t m Q Q' hq h;exact h.elim
 |rfn=>intro t m Q Q' hq h;obtain⟨x,t',m',h1,h2⟩:=h;exact⟨x,t',m',h1,hq _ _ _ h2⟩
theorem View.refl{t:List Value}{m:Mem}:View Sig.none Sig.none n0 rd t m t m:=λρ _ _ _ hR ht hr=>⟨ρ,hR,ht,hr,λ_ _=>rfl,λb o x hb hx=>⟨b,o,x,hb,hx,rfl,rfl⟩⟩
def zmR(n0:Nat)(rd:Option Nat)(I:Nat->List Value->Mem->Prop)(k:Nat)(Q:Exit->List Value->Mem->Prop)(x:Exit)(t:List Value)(m:Mem):Prop:=match x with
 | .normal=>∃k' t1 m1,k'<k∧View Sig.none Sig.none n0 rd t m t1 m1∧I k' t1 m1
 |x=>Q x t m
theorem zac{I:Nat->List Value->Mem->Prop}{k:Nat}{Q:Exit->List Value->Mem->Prop}{t:List Value}{m:Mem}:zmR n0 rd I k Q .normal t m=∃k' t1 m1,k'<k∧View Sig.none Sig.none n0 rd t m t1 m1∧I k' t1 m1:=rfl
theorem zam{I:Nat->List Value->Mem->Prop}{k i:Nat}{Q:Exit->List Value->Mem->Prop}{t:List Value}{m:Mem}:zmR n0 rd I k Q (.exit i) t m=Q (.exit i) t m:=rfl
theorem zbC{I:Nat->List Value->Mem->Prop}{k:Nat}{Q:Exit->List Value->Mem->Prop}{t:List Value}{m:Mem}:zmR n0 rd I k Q .ret t m=Q .ret t m:=rfl
theorem WX.loop_of{b:zan}{Q:Exit->List Value->Mem->Prop}(I:Nat->List Value->Mem->Prop)
  (step:∀k t m,I k t m->WXi E n0 rd b t m (Q:=⟨zmR n0 rd I k Q⟩))
  {k:Nat} {t t1:List Value} {m m1:Mem} (hv:View Sig.none Sig.none n0 rd t m t1 m1) (h:I k t1 m1):WXi E n0 rd (.loop b) t m (Q:=⟨Q⟩):=by
 have key:∀N k,k<N->∀t m t1 m1,View Sig.none Sig.none n0 rd t m t1 m1->I k t1 m1->LW n0 rd (WX E n0 rd b) N t m Q:=by
  intro N
  induction N with
  |zero=>intro k hk;omega
  |succ N ih=>
   intro k hk t m t1 m1 hv h;refine⟨t1,m1,hv,WX.mono (λx t m hx=>?_) (step k t1 m1 h)⟩;cases x with
   |normal=>obtain⟨k',t2,m2,h1,h2,h3⟩:=hx;exact ih k' (by omega) _ _ _ _ h2 h3
   |_=>exact⟨t,m,View.refl,hx⟩
 exact⟨k+1,key _ k (Nat.lt_succ_self _) _ _ _ _ hv h⟩
end
section
variable{P:Program}{E:Env}
theorem zkp{c:Cells}{o n:Nat}{l:List Value}:(c.write o l).nth n=if o<=n∧n<o+l.length∧n<c.n then l[n-o]? else c.nth n:=by
 unfold Cells.nth;rw[zap,zbA];by_cases h:n<c.n
 ·rw[if_pos h];by_cases h2:o<=n∧n<o+l.length
  ·rw[if_pos h2,if_pos ⟨h2.1,h2.2,h⟩,gD',gE' (by omega)];rfl
  ·rw[if_neg h2,if_neg (λh3=>h2 ⟨h3.1,h3.2.1⟩),if_pos h]
 ·rw[if_neg h,if_neg (λh3=>h h3.2.2),if_neg h]
theorem zak{c:Cells}{o:Nat}{v:Value}{l:List Value}(h:o<c.n):(c.write o (v::l)).nth o=some v:=by rw[zkp,if_pos ⟨lR' _,by simp,h⟩];simp
theorem zgR{c:Cells}:∀{k o:Nat} {l:List Value},l.length=k->(∀i,i<k->c.get (o+i)=l.getD i undef)->c.seg o k=l
 |0,o,l,hl,_=>by cases l with|nil=>rfl|cons=>cases hl
 |k+1,o,l,hl,h=>by
  cases l with
  |nil=>cases hl
  |cons v l=>unfold Cells.seg;have h0:=h 0 (by omega);simp only[Nat.add_zero,List.getD_cons_zero] at h0;rw[h0,zgR (l:=l) (by simpa using hl) λi hi=>?_];have:=h (i+1) (by omega);rw[show o+1+i=o+(i+1) by omega];simpa using this
theorem zlD{c:Cells}{o n:Nat}{l:List Value}(hl:l.length=n)(hn:o+n<=c.n)(h:∀i,i<n->c.get (o+i)=l.getD i undef):c.sub o n=some l:=by rw[zCN hn,zgR hl h]
theorem znD{c:Cells}:∀{k o i:Nat},i<k->(c.seg o k).getD i undef=c.get (o+i)
 |0,_,_,h=>by omega
 |k+1,o,0,_=>rfl
 |k+1,o,i+1,h=>by unfold Cells.seg;rw[List.getD_cons_succ,znD (by omega),Nat.add_right_comm];rfl
theorem zeY{c:Cells}{o n:Nat}{l:List Value}(h:c.sub o n=some l){i:Nat}(hi:i<n):c.get (o+i)=l.getD i undef:=by
 unfold Cells.sub at h;split at h
 ·cases h;exact(znD hi).symm
 ·cases h
theorem zay{c:Cells}{o n:Nat}{l:List Value}(hl:l.length=n)(hn:o+n<=c.n):(c.write o l).sub o n=some l:=by refine zlD hl (by rw[zap];exact hn) λi hi=>?_;rw[zbA,if_pos ⟨by omega,by omega⟩,Nat.add_sub_cancel_left]
theorem zbN{l:List Value}{o n:Nat}(h:o+n<=l.length):(ofL l).sub o n=some ((l.drop o).take n):=by refine zlD (by simp;omega) (by rw[zbW];exact h) λi hi=>?_;rw[zf7 (by omega)];simp[gD',hi]
theorem zad.ne0{m:Mem}(h:zad m){b:Nat}{o:zaS}(hb:m.get b=some o):¬b=m.next:=by have:=h.lt hb;omega
theorem zBb:zdb []= .tuple [].toArray:=rfl
theorem zt8{m:Mem}{b k:Nat}{o:zaS}:((m.put b o).bump k).get b=some o:=zA9
theorem zbL{m:Mem}{k:Nat}(h:k<m.next)(j:Nat):¬k=m.next+j:=by omega
theorem zb3{m:Mem}{k:Nat}(h:k<m.next):¬k=m.next:=by omega
theorem TidyE.pure{m m1:Mem}{v:Value}(h1:plain v=true)(h:∀b,b<m.next->m1.get b=m.get b):TidyE m m1 v v m:=zg5 (ztr h1) h
def LK(l:List (Nat×Value)):List (Nat×Value)->Prop
 |[]=>True
 |(k,v)::l'=>lk l k=v∧LK l l'
theorem LK.all{l:List (Nat×Value)}:∀{l':List (Nat×Value)},LK l l'->∀p∈l',lk l p.1=p.2
 |[],_,p,h=>by cases h
 |(k,v)::l',h,p,hp=>by
  rcases List.mem_cons.1 hp with rfl|hp
  ·exact h.1
  ·exact LK.all h.2 p hp
theorem View.temps{n0 n:Nat}{rd:Option Nat}{l l':List (Nat×Value)}{m:Mem}(h:LK l l'):View Sig.none Sig.none n0 rd (T n l) m (T n l') m:=by
 replace h:=h.all;intro ρ w ts lr hR ht hr;refine⟨ρ,hR,⟨by rw[<-ht.1,zbY,zbY],λi hi=>?_⟩,hr,λ_ _=>rfl,λb o x hb hx=>⟨b,o,x,hb,hx,rfl,rfl⟩⟩;rw[zbY] at hi;have h1:=ht.2 i (by rwa[zbY]);rw[zoZ hi] at h1⊢;have key:∀l':List (Nat×Value),(∀p∈l',lk l p.1=p.2)->lk l' i=JJ∨lk l' i=lk l i:=by
  intro l'
  induction l' with
  |nil=>exact λ_=> .inl rfl
  |cons p l' ih=>
   intro h;obtain⟨k,v⟩:=p;rw[zc4];by_cases e:k=i
   ·subst e;rw[if_pos rfl];exact .inr (h (k,v) (by simp)).symm
   ·rw[if_neg e];exact ih λq hq=>h q (by simp[hq])
 rcases key l' h with e|e<;>rw[e]
 ·exact .junk
 ·exact h1
theorem zae{n:Int}(h1: -9223372036854775808<=n)(h2:n<9223372036854775808):IntKind.i64.wrap n=n:=by simp only[IntKind.wrap,IntKind.signed,IntKind.bits];simp;omega
end
section
variable{P:Program}{E:Env}{n0:Nat}{rd:Option Nat}
theorem zhn.of_t{σ:Sig}{c:zan}{t t':List Value}{m m':Mem}{x:Exit}(h:TOk σ σ P m.next rd c t m x t' m')(hn:m.next<=m'.next):zhn σ P rd c t m x t' m':=by
 intro k ρ w a l lo h1 h2 h3 h4 h5 h6;refine wpIn_mono (h k ρ w a l lo h1 h2 h3 h4 h5 h6) ?_;rintro e a' w' ⟨rfl,g0,ρ',g1,g2,g3,g4,g5⟩;have he:Ext ρ ρ':=λb x hb=>by
  rcases Nat.lt_or_ge b m.next with hlt|hge
  ·rw[g5 b hlt];exact hb
  ·rw[h2.dom b hge] at hb;cases hb
 exact⟨rfl,g0,ρ',g1,g2,⟨g3.rel,he,hn,g3.size,g3.os,g3.tape,g3.output,g3.frame,g3.img⟩,λb hb e=>(g5 b hb).trans e⟩
open Classical in
def zeJ(c1:zan)(t1:List Value)(m1:Mem)(o1:Out×Mem)(c2:zan)(t2:List Value)(m2:Mem)(o2:Out×Mem)(l:Nat):zdv:=λtk m=>
 if tk= .code (some l) c1 t1∧m=m1 then some o1 else if tk= .code (some l) c2 t2∧m=m2 then some o2 else none
def zB2(l:Nat)(r:zct)(m:Mem)(k:Value->Mem->Prop)(x:Exit):Prop:=match x with
 | .normal=>k (.bool true) (m.put l (.loop {r with state:= .ready,pend:=none}))
 | .ret=>k (.bool false) (m.put l (.loop {r with state:= .done,pend:=some .ret}))
 | .exit id=>k (.bool false) (m.put l (.loop {r with state:= .done,pend:=some (.exit id)}))
 |_=>False
def zhh(l:Nat)(n:Nat)(k:Value->Mem->Prop)(x:Exit)(_:List Value)(m3:Mem):Prop:=n<=m3.next∧∃r3,m3.get l=some (.loop r3)∧zB2 l r3 m3 k x
def zlZ(E:Env)(l:Nat)(n:Nat)(b:zan)(k:Value->Mem->Prop)(x:Exit)(t1:List Value)(m1:Mem):Prop:=x= .normal∧n<=m1.next∧∃r1,m1.get l=some (.loop r1)∧r1.state= .ready∧
 WX E m1.next (some l) b t1 (m1.put l (.loop {r1 with state:= .busy})) (zhh l m1.next k)
theorem zex.of_wx(hE:zkh E){l:Nat}{r:zct}{args:List Value}{m:Mem}{k:Value->Mem->Prop}(hl:m.get l=some (.loop r))(hps:r.ps.length=args.length)(hst:r.state= .ready)
  (h:WX E m.next (some l) r.assign (zco r.ps args r.tmps) m (zlZ E l m.next r.body k)):∃v m',zex Sig.none E.P l args m v m'∧k v m':=by
 obtain⟨x,t1,m1,h1,rfl,h2,r1,h3,h4,h5⟩:=WX.ok hE h;obtain⟨x2,t2,m3,h6,h7,r3,h8,h9⟩:=WX.ok hE h5
 let slf:=zeJ r.assign (zco r.ps args r.tmps) m (.exit .normal t1,m1) r.body t1 (m1.put l (.loop {r1 with state:= .busy})) (.exit x2 t2,m3) l
 have hs:zdh Sig.none E.P slf:=by
  refine⟨λf a m v m' hh=>?_,λf a m v m' hh=>?_,λrd c t m' x t' m'' hh=>?_⟩
  ·simp only[slf,zeJ,reduceCtorEq,false_and,if_false] at hh
  ·simp only[slf,zeJ,reduceCtorEq,false_and,if_false] at hh
  ·simp only[slf,zeJ] at hh;split at hh
   ·rename_i e;obtain⟨e1,rfl⟩:=e;cases e1;cases hh;exact zhn.of_t h1 h2
   ·split at hh
    ·rename_i e;obtain⟨e1,rfl⟩:=e;cases e1;cases hh;exact zhn.of_t h6 h7
    ·cases hh
 have q1:slf (.code (some l) r.assign (zco r.ps args r.tmps)) m=some (.exit .normal t1,m1):=by simp only[slf,zeJ,and_self,if_true]
 have q2:slf (.code (some l) r.body t1) (m1.put l (.loop {r1 with state:= .busy}))=some (.exit x2 t2,m3):=by
  simp only[slf,zeJ];rw[if_neg]
  ·simp
  ·rintro⟨e1,e2⟩;have:m.get l=some (.loop {r1 with state:= .busy}):=by rw[<-e2,gP,if_pos rfl]
   rw[hl] at this;simp only[sI,zaS.loop.injEq] at this;rw[this] at hst;cases hst
 have key:∀v m',step E slf (.round l args) m=some (.val v,m')->zex Sig.none E.P l args m v m':=λv m' hh=>znX hs hh;have hstep:step E slf (.round l args) m=match x2 with
   | .normal=>some (.val (.bool true),m3.put l (.loop {r3 with state:= .ready,pend:=none}))
   | .ret=>some (.val (.bool false),m3.put l (.loop {r3 with state:= .done,pend:=some .ret}))
   | .exit id=>some (.val (.bool false),m3.put l (.loop {r3 with state:= .done,pend:=some (.exit id)}))
   |_=>none:=by
  simp only[step,hl,hps,hst,and_self,if_true,q1,h3,h4,q2,h8];cases x2<;>rfl
 cases x2<;>first|exact h9.elim|exact⟨_,_,key _ _ hstep,h9⟩
def zlL(o:Option zaS) [k:VI zct]:Prop:=match o with
 |some (.loop r)=>k.k r
 |_=>False
theorem zoF{r:zct}{k:zct->Prop}:zlL (some (.loop r)) (k:=⟨k⟩)=k r:=rfl
theorem zcD{o:Option zaS}{k:zct->Prop}:zlL o (k:=⟨k⟩)↔∃r,o=some (.loop r)∧k r:=by
 constructor
 ·intro h;unfold zlL at h;split at h
  ·exact⟨_,rfl,h⟩
  ·exact h.elim
 ·rintro⟨r,rfl,h⟩;exact h
section
variable{l n:Nat}{b:zan}{k:Value->Mem->Prop}{t:List Value}{m:Mem}
theorem zh4:zlZ E l n b k .normal t m=(n<=m.next∧zlL (m.get l) (k:=⟨λr1=>r1.state= .ready∧WXi E m.next (some l) b t (m.put l (.loop {r1 with state:= .busy})) (Q:=⟨zhh l m.next k⟩)⟩)):=by refine propext ⟨λh=>⟨h.2.1,zcD.2 h.2.2⟩,λh=>⟨rfl,h.1,zcD.1 h.2⟩⟩
theorem zh2:zhh l n k .normal t m=(n<=m.next∧zlL (m.get l) (k:=⟨λr=>k (.bool true) (m.put l (.loop {r with state:= .ready,pend:=none}))⟩)):=
 propext ⟨λh=>⟨h.1,zcD.2 h.2⟩,λh=>⟨h.1,zcD.1 h.2⟩⟩
theorem zlu:zhh l n k .ret t m=(n<=m.next∧zlL (m.get l) (k:=⟨λr=>k (.bool false) (m.put l (.loop {r with state:= .done,pend:=some .ret}))⟩)):=
 propext ⟨λh=>⟨h.1,zcD.2 h.2⟩,λh=>⟨h.1,zcD.1 h.2⟩⟩
theorem zlj{i:Nat}:zhh l n k (.exit i) t m=(n<=m.next∧zlL (m.get l) (k:=⟨λr=>k (.bool false) (m.put l (.loop {r with state:= .done,pend:=some (.exit i)}))⟩)):=
 propext ⟨λh=>⟨h.1,zcD.2 h.2⟩,λh=>⟨h.1,zcD.1 h.2⟩⟩
end
theorem zxT{p:Tmp}{a:Value}{t:List Value}:zco [p] [a] t=t.set p a:=rfl
theorem zyi{p q:Tmp}{a b:Value}{t:List Value}:zco [p,q] [a,b] t=(t.set p a).set q b:=rfl
theorem zxk{t:List Value}:zco [] [] t=t:=rfl
def zen:Value->Option (Nat×Array Value)
 | .func (.yield l) a _=>some (l,a)
 |_=>none
theorem zsB{l:Nat}{a c:Array Value}:zen (.func (.yield l) a c)=some (l,a):=rfl
def fnV:Value->Option (FuncId×Array Value×Array Value)
 | .func (.func g) a c=>some (g,a,c)
 |_=>none
theorem zEQ{g:FuncId}{a c:Array Value}:fnV (.func (.func g) a c)=some (g,a,c):=rfl
section
variable{base i:Nat}{rest:List (Nat×SOp)}{L:List zb8}{t:List Value}{m:Mem}{K:KI}{rt:TypeId}
theorem zyr{dst:Option Tmp}{f:Tmp}{args:Array Operand}{ts:Array TypeId}(h:(zen (ev (.tmp f) t)).isSome=true):XWi E base ((i,⟨dst, .call ⟨.value (.tmp f),args,ts⟩,rt,none⟩)::rest) L t m (Q:=K)=
  CallI E L (.round ((zen (ev (.tmp f) t)).getD (0,#[])).1 (((zen (ev (.tmp f) t)).getD (0,#[])).2.toList++args.toList.map (ev · t))) m (K:=⟨λL' v m'=>XWi E base rest L' (zdP dst v t) m' (Q:=K)⟩):=by
 have hr:zh8 E.P ⟨dst, .call ⟨.value (.tmp f),args,ts⟩,rt,none⟩ (ev · t) m=some (.round ((zen (ev (.tmp f) t)).getD (0,#[])).1 (((zen (ev (.tmp f) t)).getD (0,#[])).2.toList++args.toList.map (ev · t)),m)∧opA E zj8 (base+i) ⟨dst, .call ⟨.value (.tmp f),args,ts⟩,rt,none⟩ t m=none:=by
  cases hv:ev (.tmp f) t<;>simp only[hv,zen] at h<;>first|cases h|skip
  rename_i g a c;split at h
  ·rename_i l c' e;cases e;simp[zh8,opA,cls,zeZ,hv,zen]
  ·cases h
 refine propext ⟨λh=>?_,zjE rfl hr.1⟩;obtain⟨_,⟨_,h⟩|⟨h,_⟩⟩:=h
 ·rcases h with⟨v,m',h1,_⟩|⟨tk,m1,v,m2,h1,h2,h3,h4⟩
  ·rw[hr.2] at h1;cases h1
  ·rw[hr.1] at h1;cases h1;exact⟨v,m2,h2,h3,h4⟩
 ·cases h
theorem zzQ{dst:Option Tmp}{f:Tmp}{args:Array Operand}{ts:Array TypeId}(h:(fnV (ev (.tmp f) t)).isSome=true)(hc:zab E.P ((fnV (ev (.tmp f) t)).getD (0,#[],#[])).1=true):XWi E base ((i,⟨dst, .call ⟨.value (.tmp f),args,ts⟩,rt,none⟩)::rest) L t m (Q:=K)=
  CallI E L (.call ((fnV (ev (.tmp f) t)).getD (0,#[],#[])).1 (((fnV (ev (.tmp f) t)).getD (0,#[],#[])).2.1.toList++args.toList.map (ev · t)++((fnV (ev (.tmp f) t)).getD (0,#[],#[])).2.2.toList)) m (K:=⟨λL' v m'=>XWi E base rest L' (zdP dst v t) m' (Q:=K)⟩):=by
 have hr:zh8 E.P ⟨dst, .call ⟨.value (.tmp f),args,ts⟩,rt,none⟩ (ev · t) m=some (.call ((fnV (ev (.tmp f) t)).getD (0,#[],#[])).1 (((fnV (ev (.tmp f) t)).getD (0,#[],#[])).2.1.toList++args.toList.map (ev · t)++((fnV (ev (.tmp f) t)).getD (0,#[],#[])).2.2.toList),m)∧opA E zj8 (base+i) ⟨dst, .call ⟨.value (.tmp f),args,ts⟩,rt,none⟩ t m=none:=by
  cases hv:ev (.tmp f) t<;>simp only[hv,fnV] at h<;>first|cases h|skip
  rename_i g a c;split at h
  ·rename_i l a' c' e;cases e;rw[hv] at hc;simp only[fnV,Option.getD_some] at hc;simp[zh8,opA,cls,zeZ,hv,fnV,hc]
  ·cases h
 refine propext ⟨λh=>?_,zjE rfl hr.1⟩;obtain⟨_,⟨_,h⟩|⟨h,_⟩⟩:=h
 ·rcases h with⟨v,m',h1,_⟩|⟨tk,m1,v,m2,h1,h2,h3,h4⟩
  ·rw[hr.2] at h1;cases h1
  ·rw[hr.1] at h1;cases h1;exact⟨v,m2,h2,h3,h4⟩
 ·cases h
def zl9(P:Program)(v:Value)(name:String):Option (FuncId×Value):=match v with
 | .iface ty x=>match zaB P ty name with
   |some f=>if zab P f then some (f,x) else none
   |none=>none
 |_=>none
theorem zhQ{P:Program}{ty:TypeId}{x:Value}{name:String}{f:FuncId}(h:zaB P ty name=some f)(hc:zab P f=true):zl9 P (.iface ty x) name=some (f,x):=by simp[zl9,h,hc]
theorem zEo{dst:Option Tmp}{x:Operand}{name:String}{args:Array Operand}{ts:Array TypeId}(h:(zl9 E.P (ev x t) name).isSome=true):XWi E base ((i,⟨dst, .call ⟨.invoke x name,args,ts⟩,rt,none⟩)::rest) L t m (Q:=K)=
  CallI E L (.call ((zl9 E.P (ev x t) name).getD (0,undef)).1 (((zl9 E.P (ev x t) name).getD (0,undef)).2::args.toList.map (ev · t))) m (K:=⟨λL' v m'=>XWi E base rest L' (zdP dst v t) m' (Q:=K)⟩):=by
 have hr:zh8 E.P ⟨dst, .call ⟨.invoke x name,args,ts⟩,rt,none⟩ (ev · t) m=some (.call ((zl9 E.P (ev x t) name).getD (0,undef)).1 (((zl9 E.P (ev x t) name).getD (0,undef)).2::args.toList.map (ev · t)),m)∧opA E zj8 (base+i) ⟨dst, .call ⟨.invoke x name,args,ts⟩,rt,none⟩ t m=none:=by
  cases hv:ev x t<;>simp only[hv,zl9] at h<;>first|cases h|skip
  rename_i ty v;split at h
  ·rename_i f hm;split at h
   ·rename_i hc;simp[zh8,opA,cls,zeZ,hv,zl9,hm,hc]
   ·cases h
  ·cases h
 refine propext ⟨λh=>?_,zjE rfl hr.1⟩;obtain⟨_,⟨_,h⟩|⟨h,_⟩⟩:=h
 ·rcases h with⟨v,m',h1,_⟩|⟨tk,m1,v,m2,h1,h2,h3,h4⟩
  ·rw[hr.2] at h1;cases h1
  ·rw[hr.1] at h1;cases h1;exact⟨v,m2,h2,h3,h4⟩
 ·cases h
end
def zDE(l0:Nat)(Q:Exit->List Value->Mem->Prop)(t:List Value)(m2:Mem):Prop:=∃r,m2.get l0=some (.loop r)∧r.state≠ .busy∧match r.pend with
 |none=>Q .normal t (m2.put l0 (.loop {r with state:= .exhausted}))
 |some y=>zrH y=true∧Q y t (m2.put l0 (.loop {r with state:= .exhausted}))
theorem zGf{f:Operand}{ps:List Tmp}{sa sb:zan}{n:Nat}{l l':List (Nat×Value)}{m m2:Mem}{g:FuncId}{first cap:Array Value}{v:Value}{Q:Exit->List Value->Mem->Prop}(hn:n0<=m.next)
  (hev:ev f (T n l)= .func (.func g) first cap) (hcall:zab E.P g=true)
  (hc:Con E.P g (first.toList++ [.func (.yield m.next) #[] #[]]++cap.toList) ((m.put m.next (.loop {state:= .ready,pend:=none,tmps:=T n l,ps:=ps,assign:=sa,body:=sb})).bump 1) v m2)
  (hv:∀p∈l',RV (m.next+1) [] (lk l p.1) p.2) (hQ:zDE m.next Q (T n l') m2):
  WXi E n0 none (.rfn f ps sa sb) (T n l) m (Q:=⟨Q⟩):=by
 obtain⟨⟨st,pend,tm,qs,as,bd⟩,h1,h2,h3⟩:=hQ;have hT:zgP Sig.none Sig.none E.P (m.next+1) g (first.toList++ [.func (.yield m.next) #[] #[]]++cap.toList) ((m.bump 1).put m.next (.loop {state:= .ready,pend:=none,tmps:=T n l,ps:=ps,assign:=sa,body:=sb})) v m2:=
  zgP.of_call (lR' _) hc.1
 have hvv:∀(ρ ρ':Rho) (ts:List Value),(∀b,b<m.next+1->ρ' b=ρ b)->zat Sig.none ρ (T n l) ts->zat Sig.none ρ' (T n l') ts:=λρ ρ' ts he ht=>zJt hv he (by simp) ht;cases pend with
 |none=>exact⟨.normal,T n l',_,TOk.rfn hn hev hcall rfl hT hvv h1 h2 rfl,h3⟩
 |some y=>exact⟨y,T n l',_,TOk.rfn hn hev hcall rfl hT hvv h1 h2 ⟨h3.1,rfl⟩,h3.2⟩
theorem zCG{f:Operand}{ps:List Tmp}{sa sb:zan}{n:Nat}{l l':List (Nat×Value)}{m m2 mr:Mem}{l0:Nat}{g:FuncId}(first cap:List Value){v:Value}{Q:Exit->List Value->Mem->Prop}(hn:n0<=m.next)
  (hev:ev f (T n l)= .func (.func g) first.toArray cap.toArray) (hcall:zab E.P g=true) (h0:m.next=l0) (hmr:(m.put l0 (.loop {state:= .ready,pend:=none,tmps:=T n l,ps:=ps,assign:=sa,body:=sb})).bump 1=mr)
  (hc:Con E.P g (first++ [.func (.yield l0) #[] #[]]++cap) mr v m2)
  (hv:∀p∈l',RV (l0+1) [] (lk l p.1) p.2) (hQ:zDE l0 Q (T n l') m2):
  WXi E n0 none (.rfn f ps sa sb) (T n l) m (Q:=⟨Q⟩):=by
 subst h0 hmr;exact zGf hn hev hcall (by simpa using hc) hv hQ
theorem zb1{l0:Nat}{Q:Exit->List Value->Mem->Prop}{t:List Value}{m2:Mem}{tm:List Value}{qs:List Tmp}{sa bd:zan}(h1:m2.get l0=some (.loop ⟨.ready,none,tm,qs,sa,bd⟩))(h2:Q .normal t (m2.put l0 (.loop ⟨.exhausted,none,tm,qs,sa,bd⟩))):zDE l0 Q t m2:=
 ⟨_,h1,by simp,h2⟩
end
section
variable{P:Program}{E:Env}
section
variable{base i:Nat}{rest:List (Nat×SOp)}{L:List zb8}{t:List Value}{m:Mem}{K:KI}{ty rt:TypeId}{d:Tmp}
def bsV(P:Program)(ty:TypeId)(len:Nat)(parts:List (Nat×Value)):Option (List Value×Nat):=match P.underlying ty with
 |some (.slice e)=>match zbc P e,zbT P e with
  |some s,some z=>if plain z&&decide (len*s<=2 ^ 24)&&z.cells.size==s&&decide (0<s) then
    (zg4 (λi=>some (i*s,s)) (zeN z.cells.toList (len*s)) parts).map λcs=>(cs,s)
   else none
  |_,_=>none
 |_=>none
theorem zIn{n:Nat}{ps:Array (Nat×Operand)}:XWi E base ((i,⟨some d, .buildSlice ty n ps,rt,none⟩)::rest) L t m (Q:=K)=
  okI (bsV E.P ty n (ps.toList.map λp=>(p.1,ev p.2 t))) (k:=⟨λq=>XWi E base rest L (t.set d (.slice (some ⟨base+i,0,none⟩) n n)) (m.put (base+i) (.cells (.ofList q.1) true q.2)) (Q:=K)⟩):=by
 rw[zku];have:zdc E.P ⟨some d, .buildSlice ty n ps,rt,none⟩ (ev · t)=(bsV E.P ty n (ps.toList.map λp=>(p.1,ev p.2 t))).map λq=>(.cells (.ofList q.1) true q.2,λid=> .slice (some ⟨id,0,none⟩) n n):=by
  simp only[zdc,bsV,zdZ];cases hu:E.P.underlying ty with
  |none=>rfl
  |some u=>
   cases u with
   |slice e=>
    simp only;cases zbc E.P e with
    |none=>rfl
    |some s=>
     cases zbT E.P e with
     |none=>rfl
     |some z=>
      simp only;split
      ·cases zg4 (λi=>some (i*s,s)) (zeN z.cells.toList (n*s)) (ps.toList.map λp=>(p.1,ev p.2 t))<;>rfl
      ·rfl
   |_=>rfl
 rw[this];refine propext ?_;unfold okI;rw[zgd];rfl
end
def zFU(o:Option zaS)(off k n:Nat):Option (List Value×Nat):=match o with
 |some (.cells cs _ _)=>(cs.sub off k).map λl=>(l,n)
 |_=>none
theorem zgV{sz b o n c:Nat}{m:Mem}:zdY sz (.slice (some ⟨b,o,none⟩) n c) m=zFU (m.get b) o (n*sz) n:=by
 unfold zdY zFU;simp only;split
 ·rename_i cs w z h;rw[h]
 ·rename_i h;split
  ·rename_i cs w z h2;exact absurd h2 (h _ _ _)
  ·rfl
theorem zsK{sz c:Nat}{m:Mem}:zdY sz (.slice none 0 c) m=some ([],0):=rfl
theorem zdL{cs:Cells}{w:Bool}{z off k n:Nat}:zFU (some (.cells cs w z)) off k n=(cs.sub off k).map λl=>(l,n):=rfl
def apG(sz bytes id:Nat)(b n:Nat)(new:List Value)(k:Nat)(m:Mem)(o:Option zaS):Option (Value×Mem):=match o with
 |some (.cells cs true z)=>if n*sz=cs.n∧z=sz∧(n+k)*bytes<=2 ^ 40∧n+k<=2 ^ 40 then some (.slice (some ⟨id,0,none⟩) (n+k) (n+k),(m.kill b).put id (.cells (cs.more 0 new) true sz)) else none
 |_=>none
def apF(sz bytes id:Nat)(s:Value)(src:Option (List Value×Nat))(m:Mem):Option (Value×Mem):=match src with
 |some (new,k)=>if k=0 then some (s,m) else if new.all oneCell=false∨new.length≠k*sz then none else match s with
  | .slice none 0 0=>if k*bytes<=2 ^ 40∧k<=2 ^ 40 then some (.slice (some ⟨id,0,none⟩) k k,m.put id (.cells (.ofList new) true sz)) else none
  | .slice (some ⟨b,0,none⟩) n c=>if n=c then apG sz bytes id b n new k m (m.get b) else none
  |_=>none
 |none=>none
structure zcn(P:Program)(ts e:TypeId)(sz bytes:Nat):Prop where
 und:P.underlying ts=some (.slice e)
 info:∃i,P.info? e=some i∧i.size=sz∧i.bytes=bytes
 pos:sz≠0
 zero:∃z,zbT P e=some z∧plain z=true∧z.cells.size=sz
theorem zcn.of{ts e sz bytes:Nat}{z:List Value}(h1:P.underlying ts=some (.slice e))(h2:(P.info? e).map (λi=>(i.size,i.bytes))=some (sz,bytes))(h3:zdy P e=some z)(h4:z.length=sz)(h5:sz≠0):zcn P ts e sz bytes:=by
 refine⟨h1,?_,h5,?_⟩
 ·cases hi:P.info? e with
  |none=>rw[hi] at h2;cases h2
  |some i=>rw[hi] at h2;cases h2;exact⟨i,rfl,rfl,rfl⟩
 ·unfold zdy at h3;split at h3
  ·rename_i v hv;split at h3
   ·rename_i hp;cases h3;exact⟨v,hv,hp,by rw[<-h4,Array.length_toList]⟩
   ·cases h3
  ·cases h3
theorem znP{ts e sz bytes id:Nat}{n c:Nat}{base:Option Addr}{x:Value}{m:Mem}(h:zcn P ts e sz bytes)(hf:(apF sz bytes id (.slice base n c) (zdY sz x m) m).isSome=true)(hnc:n<=c):
  zaV P id #[ts,ts] (.slice base n c) x m=apF sz bytes id (.slice base n c) (zdY sz x m) m:=by
 obtain⟨h1,⟨i,h2,h3,h4⟩,h5,z,h6,h7,h8⟩:=h;subst h3 h4;unfold zaV;simp only[List.getElem?_toArray,List.getElem?_cons_zero,List.getElem?_cons_succ,h1,h2];cases hs:zdY i.size x m with
 |none=>rw[hs] at hf;cases hf
 |some q=>
  obtain⟨new,k⟩:=q;rw[hs] at hf;simp only[apF] at hf⊢;by_cases hk:k=0
  ·rw[if_pos hk,if_pos hk,if_pos hnc]
  rw[if_neg hk] at hf⊢;rw[if_neg hk];by_cases hg:new.all oneCell=false∨new.length≠k*i.size
  ·rw[if_pos hg] at hf;cases hf
  rw[if_neg hg] at hf⊢;rw[if_neg hg];cases base with
  |none=>
   rcases n with _|n<;>rcases c with _|c<;>try(simp at hf;done)
   rw[if_neg (by omega)];simp only at hf⊢;by_cases hb:k*i.bytes<=2 ^ 40∧k<=2 ^ 40
   ·rw[if_pos hb,if_neg (by simp only[Nat.zero_add];rintro(h|h|h);exact h5 h;exact h hb.1;exact h hb.2),h6];simp only[h7,h8];simp
   ·rw[if_neg hb] at hf;cases hf
  |some a=>
   obtain⟨b,o,p⟩:=a;cases p with
   |some p=>cases o<;>cases hf
   |none=>
    cases o with
    |succ o=>cases hf
    |zero=>
     simp only at hf⊢;by_cases hnc:n=c
     ·subst hnc;rw[if_pos rfl] at hf⊢;rw[if_neg (by omega)];cases hb:m.get b with
      |none=>rw[hb] at hf;cases hf
      |some ob=>
       rw[hb] at hf;cases ob with
       |cells cs w s=>
        cases w with
        |false=>cases hf
        |true=>
         simp only[apG] at hf⊢;by_cases hh:n*i.size=cs.n∧s=i.size∧(n+k)*i.bytes<=2 ^ 40∧n+k<=2 ^ 40
         ·rw[if_pos hh,if_neg (by rintro(h|h|h);exact h5 h;exact h hh.2.2.1;exact h hh.2.2.2),h6];simp only[h7,h8];simp[hh.1,hh.2.1]
         ·rw[if_neg hh] at hf;cases hf
       |_=>cases hf
     ·rw[if_neg hnc] at hf;cases hf
theorem zrN(m:Mem)(a b:Nat):(m.bump a).kill b=(m.kill b).bump a:=rfl
theorem zBI{c:Cells}{l:List Value}:(c.more 0 l).n=c.n+l.length:=rfl
theorem zvi{c:Cells}{l:List Value}{i:Nat}:(c.more 0 l).get i=if c.n<=i∧i<c.n+l.length then l.getD (i-c.n) undef else c.get i:=by
 have e:c.more 0 l=⟨c.n+l.length,c.d,Cells.putAll c.t c.n l⟩:=rfl;rw[e];unfold Cells.get;simp only;rw[Cells.putAll_get];by_cases h:c.n<=i∧i<c.n+l.length
 ·rw[if_pos h,if_pos h,gE' (by omega),gD',gE' (by omega)];rfl
 ·rw[if_neg h,if_neg h]
end
section
variable{P:Program}{E:Env}
theorem zej{sz n c B j z:Nat}{w:Bool}{M:Mem}{l:List Value}(h:l.length=n*sz):zdY sz (.slice (some ⟨B,0,none⟩) n c) ((M.put B (.cells (ofL l) w z)).bump j)=some (l,n):=by rw[zgV,zt8,zdL,zbN (by omega)];simp[<-h]
section
variable{base i:Nat}{rest:List (Nat×SOp)}{L:List zb8}{t:List Value}{m:Mem}{K:KI}{rt:TypeId}
theorem zzA{a:Operand}{ts:Array TypeId}{dst:Option Tmp}:XWi E base ((i,⟨dst, .call ⟨.builtin .clear,#[a],ts⟩,rt,none⟩)::rest) L t m (Q:=K)=okI (zdF E.P ts (ev a t) m) (k:=⟨λm'=>XWi E base rest L (zdP dst (.tuple #[]) t) m' (Q:=K)⟩):=by
 refine propext (Iff.trans (zna (q:=(zdF E.P ts (ev a t) m).map λm'=>(.tuple #[],m')) rfl rfl ?_ ?_) zgd)
 ·simp only[zeZ];cases h:zdF E.P ts (ev a t) m<;>simp[h]
 ·simp only[zh8,cls,zeZ];cases h:zdF E.P ts (ev a t) m<;>simp[h]
end
theorem znb{ty e sz b o n c:Nat}{k:IntKind}{x:Int}(hu:P.underlying ty=some (.slice e))(hz:zbc P e=some sz)(h0:0<=x)(h1:x.toNat<=n)(h2:x.toNat<c)(hn:n<=c):zb5 P ty (.slice (some ⟨b,o,none⟩) n c) (some (.int k x)) none=some (.slice (some ⟨b,o+x.toNat*sz,none⟩) (n-x.toNat) (c-x.toNat)):=by
 have e1:zfI none c n=some n:=by simp[zfI]
 have e2:zfI (some (.int k x)) n 0=some x.toNat:=by simp only[zfI];rw[if_pos (by omega)]
 unfold zb5;simp only[hu,hz,e1,e2];by_cases hx:x.toNat=0
 ·rw[if_pos hx,hx];simp
 ·rw[if_neg hx,if_pos h2]
theorem zjs{ty e sz b o n c:Nat}{k:IntKind}{x:Int}(hu:P.underlying ty=some (.slice e))(hz:zbc P e=some sz)(h0:0<=x)(h1:x.toNat<=c):zb5 P ty (.slice (some ⟨b,o,none⟩) n c) none (some (.int k x))=some (.slice (some ⟨b,o,none⟩) x.toNat c):=by
 have e1:zfI (some (.int k x)) c n=some x.toNat:=by simp only[zfI];rw[if_pos (by omega)]
 have e2:zfI none x.toNat 0=some 0:=by simp[zfI]
 unfold zb5;simp only[hu,hz,e1,e2];simp
end
section
variable{P:Program}{E:Env}
def Low(m:Mem)(n:Nat):Prop:=∀b,n<=b->m.get b=none
theorem Low.put{m:Mem}{n b:Nat}{o:zaS}(h:Low m n)(hb:b<n):Low (m.put b o) n:=λc hc=>by rw[gP,if_neg (by omega),h c hc]
theorem Low.bump{m:Mem}{n k:Nat}(h:Low m n):Low (m.bump k) n:=λc hc=>by rw[gB,h c hc]
theorem Low.of{m:Mem}{n:Nat}(h:zad m)(hn:m.next<=n):Low m n:=λc hc=>h.none c (by omega)
theorem zad.of_low{m:Mem}(h0:64<=m.next)(h:Low m m.next):zad m:=⟨h0,h⟩
def zcY(m m1:Mem)(v:Value)(R:Value->Mem->Prop):Prop:=Grow m m1∧R v m1
def zEb(P:Program)(rs:List ResultVar)(m:Mem)(R:Value->Mem->Prop)(x:Exit)(t:List Value)(m1:Mem):Prop:=
 (x= .normal∨x= .ret)∧∃vs,zeh P t m1 rs=some vs∧zcY m m1 (zdb vs) R
section
variable{rs:List ResultVar}{m m1:Mem}{R:Value->Mem->Prop}{t:List Value}
theorem fXr:zEb P rs m R .ret t m1=okI (zeh P t m1 rs) (k:=⟨λvs=>zcY m m1 (zdb vs) R⟩):=by refine propext (Iff.trans ?_ zcq.symm);exact⟨λh=>h.2,λh=>⟨.inr rfl,h⟩⟩
theorem fXn:zEb P rs m R .normal t m1=okI (zeh P t m1 rs) (k:=⟨λvs=>zcY m m1 (zdb vs) R⟩):=by refine propext (Iff.trans ?_ zcq.symm);exact⟨λh=>h.2,λh=>⟨.inl rfl,h⟩⟩
end
theorem Con.raw(hE:zkh E){f:FuncId}{s:zal}{args:List Value}{m:Mem}(hf:zaG E.P f=some s)(hl:args.length<=s.ntmps)(R:Value->Mem->Prop)
  (h:WXi E m.next none s.body (T s.ntmps (zhW 0 args)) m (Q:=⟨zEb E.P s.results m R⟩)):∃v m',Con E.P f args m v m'∧R v m':=by
 obtain⟨x,t,m1,h1,h2,vs,h3,h4,h5⟩:=WX.ok hE h;refine⟨zdb vs,m1,⟨zc5.of_t (zgP.of_code hf h2 (TOk.pre ?_ h1) h3) h4.1,h4⟩,h5⟩;intro ρ w ts l hR ht hrd;refine⟨ρ,hR,⟨by rw[<-ht.1,zbY];simp;omega,λi hi=>?_⟩,hrd,λ_ _=>rfl,λb o x hb hx=>⟨b,o,x,hb,hx,rfl,rfl⟩⟩;rw[zbY] at hi;rw[zoZ hi,zjh];split
 ·rename_i hh;have:=ht.2 i (by simp;omega);rw[gD',aB' (by omega),<-gD'] at this;simpa using this
 ·exact .junk
end
abbrev PT(b:Nat):Value:= .pointer (some ⟨b,0,none⟩)
abbrev In(n:Int):Value:= .int .i64 n
section
variable{P:Program}{E:Env}
structure Nx(m m':Mem):Prop where
 next:m.next<=m'.next
 fresh:zad m'
 old:∀y,y<m.next->m'.get y=m.get y
theorem zad.bump{m:Mem}{j:Nat}(h:zad m):zad (m.bump j):=⟨by have:=h.n64;rw[bN];omega,λy hy=>h.none y (by rw[bN] at hy;omega)⟩
theorem Nx.refl{m:Mem}(h:zad m):Nx m m:=⟨lR' _,h,λ_ _=>rfl⟩
theorem Nx.trans{m m1 m2:Mem}(h:Nx m m1)(k:Nx m1 m2):Nx m m2:=⟨lT h.next k.next,k.fresh,λy hy=>by rw[k.old y (lL hy h.next),h.old y hy]⟩
theorem Nx.bump{m m1:Mem}(h:Nx m m1)(j:Nat):Nx m (m1.bump j):=⟨by rw[bN];exact lA h.next,h.fresh.bump,h.old⟩
theorem Nx.of_bump{m m1:Mem}{k:Nat}(h:Nx (m.bump k) m1):Nx m m1:=⟨by have:=h.next;rw[bN] at this;omega,h.fresh,λy hy=>h.old y (by rw[bN];omega)⟩
theorem Nx.keep{m m1:Mem}(h:Nx m m1)(hm:zad m){y:Nat}{o:zaS}(hy:m.get y=some o):m1.get y=some o:=(h.old y (hm.lt hy)).trans hy
theorem Low.up{m:Mem}{n k:Nat}(h:Low m n)(hk:n<=k):Low m k:=λb hb=>h b (by omega)
theorem Con.raw1(hE:zkh E){f:FuncId}{sf:zal}{args:List Value}{m:Mem}{v:Value}(hf:zaG E.P f=some sf)(hl:args.length<=sf.ntmps)
  (h:WXi E m.next none sf.body (T sf.ntmps (zhW 0 args)) m (Q:=⟨zEb E.P sf.results m (λu _=>u=v)⟩)):∃m',Con E.P f args m v m':=by
 obtain⟨u,m',h1,h2⟩:=Con.raw hE hf hl _ h;subst h2;exact⟨m',h1⟩
theorem CallI.ex2{f:FuncId}{args:List Value}{m:Mem}{R:Value->Mem->Prop}{K:List zb8->Value->Mem->Prop}(h:∃v m',Con E.P f args m v m'∧R v m')(hK:∀v m',R v m'->K [⟨.call f args,m,v,m'⟩] v m'):CallI E [] (.call f args) m (K:=⟨K⟩):=by obtain⟨v,m',h1,h2⟩:=h;exact CallI.con0 h1 (hK v m' h2)
theorem CallI.ex2L{L:List zb8}{f:FuncId}{args:List Value}{m:Mem}{R:Value->Mem->Prop}{K:List zb8->Value->Mem->Prop}(h:∃v m',Con E.P f args m v m'∧R v m')(hL:∀c∈L,c.tk≠ .call f args)(hK:∀v m',R v m'->K (⟨.call f args,m,v,m'⟩::L) v m'):CallI E L (.call f args) m (K:=⟨K⟩):=by obtain⟨v,m',h1,h2⟩:=h;exact CallI.con h1 (λc hc e=>absurd e (hL c hc)) (hK v m' h2)
theorem zGz{b:Bool}{A B:Prop}:GDi undef b (A:=⟨A⟩) (B:=⟨B⟩)=B:=propext ⟨λh=>h.2,λh=>⟨rfl,h⟩⟩
end
theorem zgS{E:Env}{n0:Nat}{f:Operand}{ps:List Tmp}{sa sb:zan}{n:Nat}{l l':List (Nat×Value)}{m:Mem}{g:FuncId}{R:Value->Mem->Prop}(first cap:List Value){Q:Exit->List Value->Mem->Prop}(hn:n0<=m.next)
  (hev:ev f (T n l)= .func (.func g) first.toArray cap.toArray) (hcall:zab E.P g=true)
  (hc:∃v m2,Con E.P g (first++ [.func (.yield m.next) #[] #[]]++cap) ((m.put m.next (.loop {state:= .ready,pend:=none,tmps:=T n l,ps:=ps,assign:=sa,body:=sb})).bump 1) v m2∧R v m2)
  (hv:∀p∈l',RV (m.next+1) [] (lk l p.1) p.2) (hQ:∀v m2,R v m2->zDE m.next Q (T n l') m2):
  WXi E n0 none (.rfn f ps sa sb) (T n l) m (Q:=⟨Q⟩):=by
 obtain⟨v,m2,h1,h2⟩:=hc;exact zCG first cap hn hev hcall rfl rfl h1 hv (hQ v m2 h2)
def slB:Value->Option Nat
 | .slice (some a) _ _=>some a.block
 |_=>none
structure SlV(M:Mem)(sz:Nat)(v:Value)(n:Nat)(fl:List Value):Prop where
 len:fl.length=n*sz
 at_:(n=0∧v= .slice none 0 0)∨∃b c cs,v= .slice (some ⟨b,0,none⟩) n c∧M.get b=some (.cells cs true sz)∧cs.n=c*sz∧n<=c∧∀x,x<fl.length->cs.get x=fl.getD x undef
theorem SlV.nil{M:Mem}{sz:Nat}:SlV M sz (.slice none 0 0) 0 []:=⟨by simp, .inl ⟨rfl,rfl⟩⟩
theorem SlV.keep{M M':Mem}{sz n:Nat}{v:Value}{fl:List Value}(h:SlV M sz v n fl)(hk:∀y o,slB v=some y->M.get y=some o->M'.get y=some o):SlV M' sz v n fl:=by
 refine⟨h.len,?_⟩;rcases h.at_ with h|⟨b,c,cs,rfl,h2,h3⟩
 ·exact .inl h
 ·exact .inr ⟨b,c,cs,rfl,hk b _ rfl h2,h3⟩
theorem SlV.nx{M M':Mem}{sz n:Nat}{v:Value}{fl:List Value}(h:SlV M sz v n fl)(hM:zad M)(hn:Nx M M'):SlV M' sz v n fl:=h.keep λ_ _ _ hy=>hn.keep hM hy
theorem SlV.bump{M:Mem}{sz n:Nat}{v:Value}{fl:List Value}(h:SlV M sz v n fl)(j:Nat):SlV (M.bump j) sz v n fl:=h.keep λ_ _ _ hy=>hy
theorem SlV.lt{M:Mem}{sz n:Nat}{v:Value}{fl:List Value}(h:SlV M sz v n fl)(hM:zad M){y:Nat}(hy:slB v=some y):y<M.next:=by
 rcases h.at_ with⟨_,rfl⟩|⟨b,c,cs,rfl,h2,h3⟩
 ·cases hy
 ·cases hy;exact hM.lt h2
theorem SlV.ob{M:Mem}{sz n:Nat}{v:Value}{fl:List Value}(h:SlV M sz v n fl){y:Nat}(hy:slB v=some y):∃cs,M.get y=some (.cells cs true sz):=by
 rcases h.at_ with⟨_,rfl⟩|⟨b,c,cs,rfl,h2,h3⟩
 ·cases hy
 ·cases hy;exact⟨cs,h2⟩
theorem SlV.cons{M:Mem}{sz n:Nat}{v:Value}{fl:List Value}(h:SlV M sz v n fl)(hn:n≠0):∃b c cs,v= .slice (some ⟨b,0,none⟩) n c∧M.get b=some (.cells cs true sz)∧cs.n=c*sz∧n<=c∧∀x,x<fl.length->cs.get x=fl.getD x undef:=by
 rcases h.at_ with h|h
 ·exact absurd h.1 hn
 ·exact h
theorem SlV.lenA{E:Env}{M m:Mem}{sz n:Nat}{v:Value}{fl:List Value}{ty e:TypeId}(h:SlV M sz v n fl)(hu:E.P.underlying ty=some (.slice e)):lenA E.P ty v m=some (.int .i64 n):=by
 rcases h.at_ with⟨rfl,rfl⟩|⟨b,c,cs,rfl,h2,h3⟩
 ·rw[zfy hu]
 ·rw[zfy hu]
structure zHW(M:Mem)(sz id:Nat)(v:Value)(n:Nat)(fl:List Value)(k:Nat)(new:List Value)(v':Value)(M':Mem):Prop where
 sl:SlV M' sz v' (n+k) (fl++new)
 blk:(slB v'=slB v∧slB v'≠none)∨slB v'=some id
 next:M'.next=M.next
 old:∀y,y≠id->slB v≠some y->M'.get y=M.get y
 low:∀y,y≠id->M.get y=none->M'.get y=none
section
variable{E:Env}
theorem zpR{ts e sz bytes id k n c b:Nat}{M:Mem}{new:List Value}{x:Value}{cs:Cells}(he:zcn E.P ts e sz bytes)(hb:M.get b=some (.cells cs true sz))(hcs:cs.n=c*sz)(hnc:n+k<=c)(hsrc:zdY sz x M=some (new,k))(hk:k≠0)(hnew:new.length=k*sz)(hone:new.all oneCell=true):
  zaV E.P id #[ts,ts] (.slice (some ⟨b,0,none⟩) n c) x M=some (.slice (some ⟨b,0,none⟩) (n+k) c,M.put b (.cells (cs.write (n*sz) new) true sz)):=by
 obtain⟨h1,⟨i,h2,h3,h4⟩,h5,z,h6,h7,h8⟩:=he;subst h3 h4;unfold zaV;simp only[List.getElem?_toArray,List.getElem?_cons_zero,List.getElem?_cons_succ,h1,h2,hsrc];rw[if_neg hk,if_neg (by rw[hone];simp[hnew]),if_pos hnc];simp only[hb];rw[if_pos (by rw[Nat.zero_add,hcs];exact Nat.mul_le_mul_right _ hnc),Nat.zero_add]
theorem zGL{ts e sz bytes id k n:Nat}{M:Mem}{fl new:List Value}{v x:Value}(he:zcn E.P ts e sz bytes)(h:SlV M sz v n fl)(hsrc:zdY sz x M=some (new,k))(hk:k≠0)(hnew:new.length=k*sz)(hone:new.all oneCell=true)
  (hroom:k=1∨∀a c,v= .slice a n c->n=c) (hcap:(n+k)*bytes<=2 ^ 40∧n+k<=2 ^ 40):∃v' M',zaV E.P id #[ts,ts] v x M=some (v',M')∧zHW M sz id v n fl k new v' M':=by
 obtain⟨h1,h2⟩:=h;have hg:¬(new.all oneCell=false∨new.length≠k*sz):=by rw[hone];simp[hnew]
 have hlen:(fl++new).length=(n+k)*sz:=by rw[aL,h1,hnew,Nat.add_mul]
 rcases h2 with⟨rfl,rfl⟩|⟨b,c,cs,rfl,k3,k4,k6,k5⟩
 ·have hf:apF sz bytes id (.slice none 0 0) (zdY sz x M) M=some (.slice (some ⟨id,0,none⟩) k k,M.put id (.cells (.ofList new) true sz)):=by rw[hsrc];simp only[apF];rw[if_neg hk,if_neg hg,if_pos (by simpa using hcap)]
  have hfl:fl=[]:=List.length_eq_zero_iff.1 (by omega);subst hfl;refine⟨.slice (some ⟨id,0,none⟩) k k,M.put id (.cells (.ofList new) true sz),by rw[znP he (by rw[hf];rfl) (lR' _),hf],⟨hlen, .inr ⟨id,k,ofL new,by rw[Nat.zero_add],by rw[gP,if_pos rfl],by simp[zbW,hnew],by omega,λy hy=>zf7 (by simpa using hy)⟩⟩, .inr rfl,rfl,λy hy _=>by rw[gP,if_neg hy],λy hy e=>by rw[gP,if_neg hy,e]⟩
 ·by_cases hnc:n+k<=c
  ·refine⟨_,_,zpR he k3 k4 hnc hsrc hk hnew hone,⟨hlen, .inr ⟨b,c,cs.write (n*sz) new,rfl,by rw[gP,if_pos rfl],by rw[zap,k4],hnc,λy hy=>?_⟩⟩, .inl ⟨rfl,by simp[slB]⟩,rfl,λy _ hy=>?_,λy _ e=>?_⟩
   ·rw[aL] at hy;rw[zbA];by_cases hh:y<fl.length
    ·rw[if_neg (by omega),k5 y hh];simp only[gD',aB' hh]
    ·rw[if_pos ⟨by omega,by omega⟩];simp only[gD',aC' (Nat.le_of_not_lt hh),h1]
   ·rw[gP,if_neg λe=>hy (by rw[e];rfl)]
   ·rw[gP,if_neg (λe'=>by(rw[e',k3] at e;cases e)),e]
  ·by_cases hc:n=c
   ·subst hc;have hf:apF sz bytes id (.slice (some ⟨b,0,none⟩) n n) (zdY sz x M) M=some (.slice (some ⟨id,0,none⟩) (n+k) (n+k),(M.kill b).put id (.cells (cs.more 0 new) true sz)):=by rw[hsrc];simp only[apF];rw[if_neg hk,if_neg hg,if_pos trivial,k3];simp only[apG];rw[if_pos ⟨k4.symm,trivial,hcap⟩]
    refine⟨.slice (some ⟨id,0,none⟩) (n+k) (n+k),(M.kill b).put id (.cells (cs.more 0 new) true sz),by rw[znP he (by rw[hf];rfl) (lR' _),hf],⟨hlen, .inr ⟨id,n+k,cs.more 0 new,rfl,by rw[gP,if_pos rfl],by rw[zBI,k4,hnew,Nat.add_mul],lR' _,λy hy=>?_⟩⟩, .inr rfl,rfl,λy hy hv=>?_,λy hy e=>?_⟩
    ·rw[aL] at hy;rw[zvi,k4,<-h1];by_cases hh:y<fl.length
     ·rw[if_neg (by omega),k5 y hh];simp only[gD',aB' hh]
     ·rw[if_pos ⟨by omega,hy⟩];simp only[gD',aC' (Nat.le_of_not_lt hh)]
    ·rw[gP,if_neg hy,Mem.get_kill,if_neg λe=>hv (by rw[e];rfl)]
    ·rw[gP,if_neg hy,Mem.get_kill];split<;>first|rfl|exact e
   ·rcases hroom with hr|hr
    ·omega
    ·exact absurd (hr _ _ rfl) hc
theorem zd3{ts e sz bytes id k n:Nat}{M:Mem}{fl new:List Value}{v x:Value}{K:Value×Mem->Prop}(he:zcn E.P ts e sz bytes)(h:SlV M sz v n fl)(hsrc:zdY sz x M=some (new,k))(hk:k≠0)(hnew:new.length=k*sz)(hone:new.all oneCell=true)
  (hroom:k=1∨∀a c,v= .slice a n c->n=c) (hcap:(n+k)*bytes<=2 ^ 40∧n+k<=2 ^ 40) (hK:∀v' M',zHW M sz id v n fl k new v' M'->K (v',M')):okI (zaV E.P id #[ts,ts] v x M) (k:=⟨K⟩):=by
 obtain⟨v',M',h1,h2⟩:=zGL (id:=id) he h hsrc hk hnew hone hroom hcap;rw[h1,zgL];exact hK v' M' h2
end
structure zcU(m m':Mem)(sz:Nat)(v:Value)(n:Nat)(fl:List Value):Prop where
 sl:SlV m' sz v n fl
 nx:Nx m m'
 new:∀y,slB v=some y->m.next<=y
section
variable{E:Env}{m m':Mem}{sz n:Nat}{v:Value}{fl:List Value}
theorem zcU.of_bump{j:Nat}(h:zcU (m.bump j) m' sz v n fl):zcU m m' sz v n fl:=⟨h.sl,h.nx.of_bump,λy hy=>by have:=h.new y hy;rw[bN] at this;omega⟩
theorem zcU.bump(h:zcU m m' sz v n fl)(j:Nat):zcU m (m'.bump j) sz v n fl:=⟨h.sl.bump j,h.nx.bump j,h.new⟩
theorem zcU.raw(h:zcU m m' sz v n fl):Grow m m':=⟨h.nx.next,λy hy e=>by rw[h.nx.old y hy,e]⟩
theorem zcU.nil(hm:zad m):zcU m m sz (.slice none 0 0) 0 []:=⟨SlV.nil,Nx.refl hm,λy hy=>by cases hy⟩
theorem zcU.app1{M:Mem}{ts e bytes:Nat}{u:Value}{new:List Value}{j b1 id:Nat}(he:zcn E.P ts e sz bytes)(hby:bytes<=64)(hm:zad m)(hL:zcU m M sz u n fl)(hnew:new.length=sz)(hone:new.all oneCell=true)
  (hb:M.next<=b1∧b1<M.next+j) (hid:M.next<=id∧id<M.next+j) (hl:n<1073741824) {K:Value×Mem->Prop}
  (hK:∀v' M',zcU m M' sz v' (n+1) (fl++new)->M'.next=M.next+j->(∀y,y<m.next->M'.get y=m.get y)->K (v',M')):
  okI (zaV E.P id #[ts,ts] u (.slice (some ⟨b1,0,none⟩) 1 1) ((M.put b1 (.cells (ofL new) true sz)).bump j)) (k:=⟨K⟩):=by
 have hnx:=hL.nx.next;have hsv:SlV ((M.put b1 (.cells (ofL new) true sz)).bump j) sz u n fl:=hL.sl.keep λy o hy ho=>by have:=hL.sl.lt hL.nx.fresh hy;rw[gB,gP,if_neg (by omega),ho]
 have hcap:(n+1)*bytes<=2 ^ 40∧n+1<=2 ^ 40:=by refine⟨lT (Nat.mul_le_mul_left _ hby) ?_,?_⟩<;>omega
 refine zd3 he (k:=1) (new:=new) hsv (zej (by rw[hnew,Nat.one_mul])) (by decide) (by rw[hnew,Nat.one_mul]) hone (.inl rfl) hcap λv' M' hA=>?_;have n3:=hA.next;rw[bN,nP] at n3;have hold:∀y,y<m.next->M'.get y=m.get y:=λy hy=>by rw[hA.old y (by omega) (λe=>by have:=hL.new y e;omega),gB,gP,if_neg (by omega),hL.nx.old y hy]
 refine hK v' M' ⟨hA.sl,⟨by omega,zad.of_low (by have:=hm.n64;omega) λy hy=>hA.low y (by omega) (by rw[gB,gP,if_neg (by omega)];exact hL.nx.fresh.none y (by omega)),hold⟩,λy hy=>?_⟩ n3 hold;rcases hA.blk with⟨h1,_⟩|h1
 ·exact hL.new y (h1▸hy)
 ·rw[h1] at hy;cases hy;omega
end
structure zpq(mr:Mem)(lp o:Nat)(r:zct)(sz n:Nat)(fl:List Value)(M:Mem):Prop where
 next:mr.next<=M.next
 low:Low M M.next
 old:∀y,y<mr.next->y≠o->y≠lp->M.get y=mr.get y
 loop:M.get lp=some (.loop r)
 out:∃co v,M.get o=some (.cells co true 0)∧co.n=1∧co.nth 0=some v∧SlV M sz v n fl∧∀y,slB v=some y->mr.next<=y∧y<M.next
section
variable{E:Env}{mr M:Mem}{lp o sz n:Nat}{r:zct}{fl:List Value}
theorem zpq.bump(h:zpq mr lp o r sz n fl M)(j:Nat):zpq mr lp o r sz n fl (M.bump j):=by obtain⟨co,v,h1,h2,h3,h4,h5⟩:=h.out;exact⟨by rw[bN];exact lA h.next,Low.up (Low.bump h.low) (by rw[bN];omega),h.old,h.loop,co,v,h1,h2,h3,h4.bump j,λy hy=>⟨(h5 y hy).1,by rw[bN];have:=(h5 y hy).2;omega⟩⟩
theorem zpq.start{co:Cells}(hm:zad mr)(hl:mr.get lp=some (.loop r))(ho:mr.get o=some (.cells co true 0))(h1:co.n=1)(h2:co.nth 0=some (.slice none 0 0)):zpq mr lp o r sz 0 [] mr:=
 ⟨lR' _,hm.none,λ_ _ _ _=>rfl,hl,co,_,ho,h1,h2,SlV.nil,λy hy=>by cases hy⟩
theorem zpq.app{ts e bytes:Nat}{new:List Value}{j b1 id:Nat}{rb:zct}{co:Cells}{u:Value}(he:zcn E.P ts e sz bytes)(hby:bytes<=64)(hol:o≠lp)(hl:lp<mr.next)(ho:o<mr.next)(h:zpq mr lp o r sz n fl M)(h64:64<=mr.next)
  (hco:M.get o=some (.cells co true 0)) (hu:co.nth 0=some u) (hnew:new.length=sz) (hone:new.all oneCell=true)
  (hb:M.next<=b1∧b1<M.next+j) (hid:M.next<=id∧id<M.next+j) (hib:id≠b1) (hn:n<1073741824) {K:Value×Mem->Prop}
  (hK:∀b' c' M',M'.get lp=some (.loop rb)->M'.get o=some (.cells co true 0)->co.n=1->M'.next=M.next+j->(∀y,y<M.next->slB u≠some y->y≠lp->M'.get y=M.get y)->
   (∀j2,zpq mr lp o r sz (n+1) (fl++new) (((M'.put o (.cells (co.write 0 [.slice (some ⟨b',0,none⟩) (n+1) c']) true 0)).put lp (.loop r)).bump j2)∧∀i,M.next+i<=b1->M.next+i<=id->Grow (M.bump i) (((M'.put o (.cells (co.write 0 [.slice (some ⟨b',0,none⟩) (n+1) c']) true 0)).put lp (.loop r)).bump j2))->K (.slice (some ⟨b',0,none⟩) (n+1) c',M')):
  okI (zaV E.P id #[ts,ts] u (.slice (some ⟨b1,0,none⟩) 1 1) (((M.put lp (.loop rb)).put b1 (.cells (ofL new) true sz)).bump j)) (k:=⟨K⟩):=by
 have hnx:=h.next;obtain⟨co',u',k1,k2,k3,k4,k5⟩:=h.out;rw[hco] at k1;cases k1;rw[hu] at k3;cases k3;have hun:∀y,slB u=some y->y≠lp∧y≠o∧y<M.next:=λy hy=>by have:=k5 y hy;omega
 have hsv:SlV (((M.put lp (.loop rb)).put b1 (.cells (ofL new) true sz)).bump j) sz u n fl:=k4.keep λy ob hy hob=>by obtain⟨h1,_,h3⟩:=hun y hy;rw[gB,gP,if_neg (by omega),gP,if_neg h1,hob]
 have hcap:(n+1)*bytes<=2 ^ 40∧n+1<=2 ^ 40:=by refine⟨lT (Nat.mul_le_mul_left _ hby) ?_,?_⟩<;>omega
 refine zd3 he (k:=1) (new:=new) hsv (zej (by rw[hnew,Nat.one_mul])) (by decide) (by rw[hnew,Nat.one_mul]) hone (.inl rfl) hcap λv' M' hA=>?_;have n3:=hA.next;rw[bN,nP,nP] at n3;have hold:∀y,y<M.next->slB u≠some y->y≠lp->M'.get y=M.get y:=λy hy hyb hyl=>by rw[hA.old y (by omega) hyb,gB,gP,if_neg (by omega),gP,if_neg hyl]
 have hMl:M'.get lp=some (.loop rb):=by rw[hA.old lp (by omega) (λe=>(hun lp e).1 rfl),gB,gP,if_neg (by omega),gP,if_pos rfl]
 have hMo:M'.get o=some (.cells co true 0):=by rw[hold o (by omega) (λe=>(hun o e).2.1 rfl) hol,hco]
 have hlow:∀y,y≠id->y≠b1->y≠lp->M.get y=none->M'.get y=none:=λy h1 h2 h3 e=>hA.low y h1 (by rw[gB,gP,if_neg h2,gP,if_neg h3];exact e);have hblk:∀y,slB v'=some y->(mr.next<=y∧y<M'.next)∧y≠lp∧y≠o:=λy hy=>by
  rcases hA.blk with⟨h1,_⟩|h1
  ·have:=k5 y (h1▸hy);omega
  ·rw[h1] at hy;cases hy;omega
 have hs:=hA.sl;obtain⟨b',c',cs',rfl,-⟩:=hs.cons (by omega);refine hK b' c' M' hMl hMo k2 n3 hold λj2=>⟨⟨by simp only[bN,nP];omega,?_,λz hz hzo hzl=>?_,by rw[gB,gP,if_pos rfl],co.write 0 [_],_,by rw[gB,gP,if_neg hol,gP,if_pos rfl],by rw[zap,k2],by rw[zkp,if_pos ⟨by omega,by simp,by omega⟩];rfl,hs.keep λy ob hy hob=>?_,λy hy=>⟨(hblk y hy).1.1,by simp only[bN,nP];have:=(hblk y hy).1.2;omega⟩⟩,λi hi1 hi2=>⟨by simp only[bN,nP];omega,λy hy e=>?_⟩⟩
 ·have hL:Low M' M'.next:=λy hy=>hlow y (by omega) (by omega) (by omega) (h.low y (by omega));exact Low.up (Low.bump (Low.put (Low.put hL (by omega)) (by omega))) (by simp only[bN,nP];omega)
 ·rw[gB,gP,if_neg hzl,gP,if_neg hzo,hold z (by omega) (λe=>by have:=k5 z e;omega) hzl];exact h.old z hz hzo hzl
 ·rw[gB,gP,if_neg (hblk y hy).2.1,gP,if_neg (hblk y hy).2.2];exact hob
 ·rw[bN] at hy;rw[gB] at e;have x1:y≠lp:=λe2=>by rw[e2,h.loop] at e;cases e
  have x2:y≠o:=λe2=>by rw[e2,hco] at e;cases e
  rw[gB,gP,if_neg x1,gP,if_neg x2];exact hlow y (by omega) (by omega) x1 e
end
section
variable{P:Program}{E:Env}
def zgt(P:Program)(l:Nat)(args:List Value)(m:Mem)(v:Value)(m':Mem):Prop:=zex Sig.none P l args m v m'∧Grow m m'
theorem CallI.rcon{L:List zb8}{l:Nat}{args:List Value}{m:Mem}{R:Value->Mem->Prop}{K:List zb8->Value->Mem->Prop}(h:∃v m',zgt E.P l args m v m'∧R v m')(hL:∀c∈L,c.tk≠ .round l args)(hK:∀v m',R v m'->K (⟨.round l args,m,v,m'⟩::L) v m'):CallI E L (.round l args) m (K:=⟨K⟩):=by obtain⟨v,m',⟨h1,h2⟩,hR⟩:=h;exact⟨v,m',⟨h2,h1⟩,λc hc e=>absurd e (hL c hc),hK v m' hR⟩
theorem zgt.of(hE:zkh E){l:Nat}{r:zct}{args:List Value}{m:Mem}{R:Value->Mem->Prop}(hl:m.get l=some (.loop r))(hps:r.ps.length=args.length)(hst:r.state= .ready)
  (h:WXi E m.next (some l) r.assign (zco r.ps args r.tmps) m (Q:=⟨zlZ E l m.next r.body λv m'=>Grow m m'∧R v m'⟩)):∃v m',zgt E.P l args m v m'∧R v m':=by
 obtain⟨v,m',h1,h2,h3⟩:=zex.of_wx hE hl hps hst h;exact⟨v,m',⟨h1,h2⟩,h3⟩
end
section
variable{E:Env}
theorem zDs(hs:∀o r,E.sym o r=none){dst:Option Tmp}{g:Option (Tmp×Bool)}{x:Operand}{t:List Value}{m:Mem}{ty rt:TypeId}:zck E ⟨dst, .call ⟨.builtin .len,#[x],#[ty]⟩,rt,g⟩ (ev · t) m=lenA E.P ty (ev x t) m:=by rw[zbB hs];rfl
end
section
variable{P:Program}
def zbn(P:Program){α:Type}:Sem α->Prop
 | .pure _=>True
 | .program k=>zbn P (k P)
 | .mark _ k=>zbn P k
 | .halt _=>True
 |_=>False
theorem zbn.runP{α:Type}{s:Sem α}{w w':World}{a:α}(h:zbn P s)(hr:s.run P w= .ok a w'):runP P s=some a:=by
 induction s with
 |pure x=>simp only[Sem.run,Result.ok.injEq] at hr;rw[hr.1];rfl
 |program k ih=>exact ih P h hr
 |mark e k ih=>exact ih h hr
 |halt x=>simp only[Sem.run] at hr;cases hr
 |_=>exact h.elim
theorem zbn.bind{α β:Type}{s:Sem α}{f:α->Sem β}(h:zbn P s)(hf:∀a,Ab.runP P s=some a->zbn P (f a)):zbn P (s>>=f):=by
 induction s with
 |pure x=>exact hf x rfl
 |program k ih=>exact ih P h hf
 |mark e k ih=>exact ih h hf
 |halt x=>trivial
 |_=>exact h.elim
theorem zla{t:TypeId}:zbn P (underlying t):=by
 show zbn P (match P.underlying t with|some d=>pure d|none=>stuck "no such type")
 split<;>trivial
theorem zo6{t:TypeId}:zbn P (typeInfo t):=by
 show zbn P (match P.info? t with|some d=>pure d|none=>stuck "no such type")
 split<;>trivial
theorem zig{t:TypeId}:zbn P (sizeOf t):=zbn.bind zo6 λ_ _=>trivial
theorem zl6{t:TypeId}:zbn P (isAgg t):=zbn.bind zla λk _=>by split<;>trivial
theorem zeI{t:TypeId}{cs:Array Value}{off:Nat}:zbn P (part t cs off):=by
 unfold part;refine zbn.bind zl6 λb _=>?_;split
 ·exact zbn.bind zig λ_ _=>trivial
 ·split<;>trivial
theorem zbn.forL{α β:Type}{f:α->β->Sem (ForInStep β)}(h:∀a b,zbn P (f a b)):∀{l:List α} {b:β},zbn P (forIn l b f)
 |[],b=>by rw[List.forIn_nil];trivial
 |a::l,b=>by
  rw[List.forIn_cons];refine zbn.bind (h a b) λs _=>?_;cases s with
  |done b=>trivial
  |yield b=>exact zbn.forL h
theorem zbn.forA{α β:Type}{f:α->β->Sem (ForInStep β)}{l:Array α}{b:β}(h:∀a b,zbn P (f a b)):zbn P (forIn l b f):=by rw[<-Array.forIn_toList];exact zbn.forL h
def zts:Value->Bool
 | .bool _| .int _ _| .string _=>true
 |_=>false
def zEj:Value->Bool
 | .agg xs=>xs.all zts
 |v=>zts v
theorem zgg{α β:Type}{s:Sem α}{f:α->Sem β}{b:β}(h:runP P (s>>=f)=some b):∃a,runP P s=some a∧runP P (f a)=some b:=by
 induction s with
 |pure x=>exact⟨x,rfl,h⟩
 |program k ih=>exact ih P h
 |mark e k ih=>exact ih h
 |halt x=>cases h
 |_=>cases h
theorem zgA{t:TypeId}{cs:Array Value}{off:Nat}{v:Value}(hc:cs.all zts=true)(h:runP P (part t cs off)=some v):zEj v=true:=by
 have hm:∀x∈cs.toList,zts x=true:=λx hx=>by rw[<-Array.all_toList] at hc;exact List.all_eq_true.1 hc x hx
 unfold part at h;obtain⟨b,_,h⟩:=zgg h;split at h
 ·obtain⟨n,_,h⟩:=zgg h;simp only[runP,pure,sI] at h;subst h;show(cs.extract off (off+n)).all zts=true;rw[<-Array.all_toList,List.all_eq_true];intro x hx;rw[Array.toList_extract,List.extract] at hx;exact hm x (List.mem_of_mem_drop (List.mem_of_mem_take hx))
 ·split at h
  ·rename_i x hx;simp only[runP,pure,sI] at h;subst h;have:=hm x (Array.mem_toList_iff.2 (Array.mem_of_getElem? hx));cases x<;>first|exact this|cases this
  ·cases h
theorem zkk{v:Value}(h:zEj v=true):(∃b,v= .bool b)∨(∃k n,v= .int k n)∨(∃s,v= .string s)∨∃xs,v= .agg xs∧xs.all zts=true:=by cases v<;>first|exact .inl ⟨_,rfl⟩|exact .inr (.inl ⟨_,_,rfl⟩)|exact .inr (.inr (.inl ⟨_,rfl⟩))|exact .inr (.inr (.inr ⟨_,rfl,h⟩))|cases h
theorem ze9:∀(d:Nat) (t:TypeId) (x y:Value),zEj x=true->zEj y=true->zbn P (Op.equalIn d t x y)
 |0,_,_,_,_,_=>trivial
 |d+1,t,x,y,hx,hy=>by
  unfold Op.equalIn;refine zbn.bind zla λk _=>?_;rcases zkk hx with⟨a,rfl⟩|⟨q,a,rfl⟩|⟨a,rfl⟩|⟨xs,rfl,hxs⟩<;>rcases zkk hy with⟨b,rfl⟩|⟨q',b,rfl⟩|⟨b,rfl⟩|⟨ys,rfl,hys⟩<;>cases k<;>first|trivial|skip
  ·simp only;split<;>trivial
  ·refine zbn.bind zig λn _=>?_;simp only[Std.Legacy.Range.forIn_eq_forIn_range'];refine zbn.bind (zbn.forL λi s=>?_) λs _=>by obtain⟨_|_,_⟩:=s<;>trivial
   refine zbn.bind zeI λa ha=>zbn.bind zeI λb hb=>zbn.bind (ze9 d _ a b (zgA hxs ha) (zgA hys hb)) λr _=>?_;cases r<;>trivial
  ·refine zbn.bind (s:=program) trivial λp _=>?_;split
   ·trivial
   ·refine zbn.bind (zbn.forA λf s=>?_) λs _=>by obtain⟨_|_,_⟩:=s<;>trivial
    split
    ·refine zbn.bind zeI λa ha=>zbn.bind zeI λb hb=>zbn.bind (ze9 d _ a b (zgA hxs ha) (zgA hys hb)) λr _=>?_;cases r<;>trivial
    ·trivial
theorem zxc{t:TypeId}{xs ys:Array Value}{w:World}{r:Bool}{op:BinOp}{xo yo:Operand}{m:Mem}(hop:op= .eql∨op= .neq)(hp:plain (.agg xs)=true)(hq:plain (.agg ys)=true)(hx:xs.all zts=true)(hy:ys.all zts=true)(hg:P.eqGuardType P.depth t=false)
  (h:(Op.equal t (.agg xs) (.agg ys)).run P w= .ok r w):eqA P op t xo yo (.agg xs) (.agg ys) m=some (.bool (match op with| .eql=>r|_=>!r)):=by
 have h1:runP P (Op.equal t (.agg xs) (.agg ys))=some r:=(ze9 _ t (.agg xs) (.agg ys) (by exact hx) (by exact hy)).runP h;have h2:runP P (eqGuard op t xo yo (.agg xs) (.agg ys))=some ():=by
  unfold eqGuard;rcases hop with rfl|rfl
  all_goals
   show runP P (if(!P.eqGuardType P.depth t)=true then _ else _)=_;rw[hg];rfl
 unfold eqA;rw[if_pos (by rw[hp,hq];rfl)];unfold zcm;rw[zaC _ _ h2];rcases hop with rfl|rfl
 ·have:runP P (binOp .eql t (.agg xs) (.agg ys))=some (.bool r):=by show runP P (do pure (Value.bool (<-Op.equal t (.agg xs) (.agg ys))):Sem Value)=_;rw[zaC _ _ h1];rfl
  rw[this];cases r<;>rfl
 ·have:runP P (binOp .neq t (.agg xs) (.agg ys))=some (.bool !r):=by show runP P (do pure (Value.bool (!(<-Op.equal t (.agg xs) (.agg ys)))):Sem Value)=_;rw[zaC _ _ h1];rfl
  rw[this];cases r<;>rfl
end
abbrev tm(k:Nat):Operand:= .tmp k
abbrev RG:=List SOp
def rg(r:RG):zan:= .reg r
theorem rR{r xs:RG}{n:Nat}(h:r=xs)(hn:r.length=n):∀(E:Env) (n0:Nat) (rd:Option Nat) (t:List Value) (m:Mem) (Q:Exit->List Value->Mem->Prop),WXi E n0 rd (rg r) t m (Q:=⟨Q⟩)=(n0<=m.next∧XWi E m.next (zgQ 0 xs) [] t (m.bump n) (Q:=⟨λ_=>Q .normal⟩)):=by intro E n0 rd t m Q;have h1:WXi E n0 rd (rg r) t m (Q:=⟨Q⟩)=(n0<=m.next∧XWi E m.next (zgQ 0 r) [] t (m.bump r.length) (Q:=⟨λ_=>Q .normal⟩)):=rfl;rw[h1,hn,h]
theorem zI1{k:Nat}{x:SOp}{l:List SOp}:zgQ k (x::l)=(k,x)::zgQ (k+1) l:=rfl
theorem zIC{k:Nat}:zgQ k ([]:List SOp)=[]:=rfl
theorem rq{r xs:RG}(h:r=xs)(n:Nat)(hn:r.length=n):∀(E:Env) (n0:Nat) (rd:Option Nat) (t:List Value) (m:Mem) (Q:Exit->List Value->Mem->Prop),WXi E n0 rd (rg r) t m (Q:=⟨Q⟩)=(n0<=m.next∧XWi E m.next (zgQ 0 xs) [] t (m.bump n) (Q:=⟨λ_=>Q .normal⟩)):=rR h hn
theorem aI{a b:Prop}(h:a)(g:b):a∧b:=⟨h,g⟩
theorem gA{P:Prop}(h:P:=by simp only[Mem.get_bump,Mem.get_put];repeat(first|rw[if_neg (by omega)]|rw[if_pos trivial]|rw[if_pos (by omega)])):P:=h
theorem kr{P:Prop}(h:P:=by kernel_rfl):P:=h
theorem nO{P:Prop}(h:P:=by(try simp only[Mem.next_bump,Mem.next_put]);omega):P:=h
theorem nX{m m':Mem}(hm:zad m)(a:m.next<=m'.next:=by(try simp only[Mem.next_bump,Mem.next_put]);omega)(b:Low m' m'.next:=by repeat(first|exact Low.of (by assumption) (by(try simp only[Mem.next_bump,Mem.next_put]);omega)|refine Low.put ?_ (by(try simp only[Mem.next_bump,Mem.next_put]);omega)|refine Low.bump ?_))(c:∀y,y<m.next->m'.get y=m.get y:=by intro y hy;simp only[Mem.get_bump,Mem.get_put,zbL hy,zb3 hy,if_false]):Nx m m':=⟨a,zad.of_low (Nat.le_trans hm.n64 a) b,c⟩
theorem hd{c c':zan}(h:c=c'):∀(E:Env) (n0:Nat) (rd:Option Nat) (t:List Value) (m:Mem) (Q:Exit->List Value->Mem->Prop),WXi E n0 rd c t m (Q:=⟨Q⟩)=WXi E n0 rd c' t m (Q:=⟨Q⟩):=λ_ _ _ _ _ _=>by rw[h]
class zaM (E:Env):Prop where
 h:∀o r,E.sym o r=none
def slT(P:Program)(ty:TypeId):Bool:=match P.underlying ty with
 |some (.slice _)=>true
 |_=>false
def ptT(P:Program)(ty:TypeId):Bool:=match P.underlying ty with
 |some (.pointer e)=>(match zbc P e with|some (_+1)=>true|_=>false)
 |_=>false
def cO(o:Option Code):zan:=match o with
 |some c=>(match zbw c with
  |some s=>s
  |none=> .skip)
 |none=> .skip
def nL:zan->Nat
 | .seq a b=>nL a+nL b
 | .reg _=>1
 | .dreg _ _=>1
 | .cond _ a b=>nL a+nL b+2
 | .loop a=>nL a+1
 | .block _ a=>nL a+1
 | .scope a=>nL a+1
 | .rfn _ _ a b=>nL a+nL b+2
 |_=>0
def nC:zan->List zan
 | .seq a b=>nC a++nC b
 | .reg r=> [.reg r]
 | .dreg r o=> [.dreg r o]
 | .cond _ a b=>nC a++nC b++ [a,b]
 | .loop a=>nC a++ [a]
 | .block _ a=>nC a++ [a]
 | .scope a=>nC a++ [a]
 | .rfn _ _ a b=>nC a++nC b++ [a,b]
 |_=> []
def kk(K:Nat->zan)(j:Nat):zan:=K j
def nS(K:Nat->zan):zan->Nat->zan
 | .seq a b,k=> .seq (nS K a k) (nS K b (k+nL a))
 | .reg _,k=>K k
 | .dreg _ _,k=>K k
 | .cond c a b,k=> .cond c (kk K (k+nL a+nL b)) (kk K (k+nL a+nL b+1))
 | .loop a,k=> .loop (kk K (k+nL a))
 | .block i a,k=> .block i (kk K (k+nL a))
 | .scope a,k=> .scope (kk K (k+nL a))
 | .rfn f ps a b,k=> .rfn f ps (kk K (k+nL a+nL b)) (kk K (k+nL a+nL b+1))
 |c,_=>c
inductive NE where
 |g (c:zan)
 |h (c:zan)
def nE(K:Nat->zan):zan->Nat->List NE
 | .seq a b,k=>nE K a k++nE K b (k+nL a)
 | .reg r,_=> [.g (.reg r)]
 | .dreg r o,_=> [.g (.dreg r o)]
 | .cond _ a b,k=>nE K a k++nE K b (k+nL a)++ [.h (nS K a k), .h (nS K b (k+nL a))]
 | .loop a,k=>nE K a k++ [.h (nS K a k)]
 | .block _ a,k=>nE K a k++ [.h (nS K a k)]
 | .scope a,k=>nE K a k++ [.h (nS K a k)]
 | .rfn _ _ a b,k=>nE K a k++nE K b (k+nL a)++ [.h (nS K a k), .h (nS K b (k+nL a))]
 |_,_=> []
def NE.c:NE->zan
 | .g c=>c
 | .h c=>c
def HD(c c':zan):Prop:=∀(E:Env) (n0:Nat) (rd:Option Nat) (t:List Value) (m:Mem) (Q:Exit->List Value->Mem->Prop),WXi E n0 rd c t m (Q:=⟨Q⟩)=WXi E n0 rd c' t m (Q:=⟨Q⟩)
def RQ(c:zan)(xs:List SOp)(n:Nat):Prop:=∀(E:Env) (n0:Nat) (rd:Option Nat) (t:List Value) (m:Mem) (Q:Exit->List Value->Mem->Prop),WXi E n0 rd c t m (Q:=⟨Q⟩)=(n0<=m.next∧XWi E m.next (zgQ 0 xs) [] t (m.bump n) (Q:=⟨λ_=>Q .normal⟩))
def DY(c:zan)(y:Option (List (Nat×SOp×List Nat×Bool)))(n:Nat):Prop:=match y with
 |some ys=>∀(E:Env) (n0:Nat) (rd:Option Nat) (t:List Value) (m:Mem) (Q:Exit->List Value->Mem->Prop),WXi E n0 rd c t m (Q:=⟨Q⟩)=(n0<=m.next∧YWi E m.next ys [] [] t (m.bump n) (Q:=⟨λ_=>Q .normal⟩))
 |none=>True
def DX(c:zan)(r:List SOp)(o:List (Nat×List Nat))(n:Nat)(x:Option (List (Nat×SOp))):Prop:=match x with
 |some xs=>∀(E:Env) (n0:Nat) (rd:Option Nat) (t:List Value) (m:Mem) (Q:Exit->List Value->Mem->Prop),WXi E n0 rd c t m (Q:=⟨Q⟩)=(n0<=m.next∧XWi E m.next xs [] t (m.bump n) (Q:=⟨λ_=>Q .normal⟩))
 |none=>DY c (zqd r o) n
def nG(x:zan):zan->Prop
 | .reg r=>RQ x r r.length
 | .dreg r o=>DX x r o r.length (zph r o)
 |e=>HD x e
def nF(x:zan):NE->Prop
 | .g c=>nG x c
 | .h e=>HD x e
def nB(K:Nat->zan):List NE->Nat->Prop
 |[],_=>True
 |e::l,k=>nF (K k) e∧nB K l (k+1)
def nA(B:zan)(K:Nat->zan)(c:zan):Prop:=HD B (nS K c 0)∧nB K (nE K c 0) 0
noncomputable def kO (o:Option Code)(k:Nat):zan:=(nC (cO o)).getD k .skip
theorem zcg:∀c:zan,(nC c).length=nL c
 | .seq a b=>by simp only[nC,nL,aL,zcg a,zcg b]
 | .cond _ a b=>by simp only[nC,nL,aL,zcg a,zcg b];rfl
 | .rfn _ _ a b=>by simp only[nC,nL,aL,zcg a,zcg b];rfl
 | .loop a=>by simp only[nC,nL,aL,zcg a];rfl
 | .block _ a=>by simp only[nC,nL,aL,zcg a];rfl
 | .scope a=>by simp only[nC,nL,aL,zcg a];rfl
 | .reg _=>rfl
 | .dreg _ _=>rfl
 | .skip=>rfl
 | .label _=>rfl
 | .goto _=>rfl
 | .exit _=>rfl
 | .ret=>rfl
 | .again _ _=>rfl
def nK(K:Nat->zan)(k:Nat)(l:List zan):Prop:=∀i,i<l.length->K (k+i)=l.getD i .skip
theorem nK.l{K:Nat->zan}{k:Nat}{l l':List zan}(h:nK K k (l++l')):nK K k l:=λi hi=>by rw[h i (by rw[aL];omega),gD',aB' hi,<-gD']
theorem nK.r{K:Nat->zan}{k:Nat}{l l':List zan}(h:nK K k (l++l')):nK K (k+l.length) l':=λi hi=>by rw[Nat.add_assoc,h _ (by rw[aL];omega),gD',aC' (by omega),Nat.add_sub_cancel_left,<-gD']
theorem nK.z{K:Nat->zan}{k:Nat}{l:List zan}{c:zan}(h:nK K k (c::l)):K k=c:=h 0 (Nat.zero_lt_succ _)
theorem nK.s{K:Nat->zan}{k:Nat}{l:List zan}{c:zan}(h:nK K k (c::l)):nK K (k+1) l:=λi hi=>by rw[Nat.add_assoc,Nat.add_comm 1 i,h (i+1) (Nat.succ_lt_succ hi)];rfl
theorem zhY{K:Nat->zan}:∀(c:zan) (k:Nat),nK K k (nC c)->nS K c k=c∧(nE K c k).map NE.c=nC c
 | .seq a b,k,h=>by have ha:=zhY a k h.l;have hb:=zhY b (k+nL a) (by rw[<-zcg a];exact h.r);exact⟨by simp only[nS,ha.1,hb.1],by simp only[nE,nC,List.map_append,ha.2,hb.2]⟩
 | .cond _ a b,k,h=>by have ha:=zhY a k h.l.l;have hb:=zhY b (k+nL a) (by rw[<-zcg a];exact h.l.r);have hr:=h.r;rw[aL,zcg,zcg,<-Nat.add_assoc] at hr;exact⟨by simp only[nS,kk,hr.z,hr.s.z],by simp only[nE,nC,List.map_append,ha.1,hb.1,ha.2,hb.2];rfl⟩
 | .rfn _ _ a b,k,h=>by have ha:=zhY a k h.l.l;have hb:=zhY b (k+nL a) (by rw[<-zcg a];exact h.l.r);have hr:=h.r;rw[aL,zcg,zcg,<-Nat.add_assoc] at hr;exact⟨by simp only[nS,kk,hr.z,hr.s.z],by simp only[nE,nC,List.map_append,ha.1,hb.1,ha.2,hb.2];rfl⟩
 | .loop a,k,h=>by have ha:=zhY a k h.l;have hr:=h.r;rw[zcg] at hr;exact⟨by simp only[nS,kk,hr.z],by simp only[nE,nC,List.map_append,ha.1,ha.2];rfl⟩
 | .block _ a,k,h=>by have ha:=zhY a k h.l;have hr:=h.r;rw[zcg] at hr;exact⟨by simp only[nS,kk,hr.z],by simp only[nE,nC,List.map_append,ha.1,ha.2];rfl⟩
 | .scope a,k,h=>by have ha:=zhY a k h.l;have hr:=h.r;rw[zcg] at hr;exact⟨by simp only[nS,kk,hr.z],by simp only[nE,nC,List.map_append,ha.1,ha.2];rfl⟩
 | .reg _,_,h=>⟨h.z,rfl⟩
 | .dreg _ _,_,h=>⟨h.z,rfl⟩
 | .skip,_,_=>⟨rfl,rfl⟩
 | .label _,_,_=>⟨rfl,rfl⟩
 | .goto _,_,_=>⟨rfl,rfl⟩
 | .exit _,_,_=>⟨rfl,rfl⟩
 | .ret,_,_=>⟨rfl,rfl⟩
 | .again _ _,_,_=>⟨rfl,rfl⟩
theorem zGZ{x e:zan}(h:x=e):nG x e:=by
 subst h;cases x
 case reg r=>exact λ_ _ _ _ _ _=>rfl
 case dreg r o=>
  show DX _ r o r.length (zph r o);unfold DX;split
  ·rename_i ys hy;intro E n0 rd t m Q;show(n0<=m.next∧_)=_;simp only[hy];rfl
  ·rename_i hn;unfold DY;split
   ·rename_i ys hy;intro E n0 rd t m Q;show(n0<=m.next∧_)=_;simp only[hn,hy];rfl
   ·trivial
 all_goals exact λ_ _ _ _ _ _=>rfl
theorem zFd{x:zan}:∀{e:NE},x=e.c->nF x e
 | .g _,h=>zGZ h
 | .h e,h=>by show HD x e;rw[show x=e from h];exact λ_ _ _ _ _ _=>rfl
theorem zB6{K:Nat->zan}:∀(l:List NE) (k:Nat),nK K k (l.map NE.c)->nB K l k
 |[],_,_=>trivial
 |_::l,k,h=>⟨zFd h.z,zB6 l (k+1) h.s⟩
theorem zGY{o:Option Code}:nA (cO o) (kO o) (cO o):=by
 have h:nK (kO o) 0 (nC (cO o)):=λi hi=>by rw[Nat.zero_add];rfl
 obtain⟨h1,h2⟩:=zhY (cO o) 0 h;refine⟨λ_ _ _ _ _ _=>by rw[h1],?_⟩;exact zB6 _ 0 (h2▸h)
theorem aQ(o:Option Code){p:zan->(Nat->zan)->Prop}(e:∀B K,nA B K (cO o)=p B K:=by intro B K;conv=>lhs;cbv):p (cO o) (kO o):=e (cO o) (kO o)▸zGY
end
end Go.Ab
