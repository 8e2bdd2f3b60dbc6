/- Part. -/
import Derived.LaidMore
import Derived.Test.YtdhcheegbnnlbaaGreatDoorC19
set_option linter.all false
open Go.Ab.Mem renaming next_bump → bN, next_put → nP, get_bump → gB, get_put → gP
open Nat renaming le_of_ble_eq_true → bA, le_refl → lR'
open List renaming getD_eq_getElem?_getD → gD', getElem?_eq_getElem → gE', length_append → aL, getElem?_map → gM', length_map → lM
open Option.some renaming injEq → sI
open Prod.mk renaming injEq → pI
open Go.Ab.Cells renaming ofList → ofL
namespace Go.Ab
noncomputable section
def getR{α:Type}(t:Tr α):Pa->Option α:=
 Tr.rec (motive:=λ_=>Pa->Option α) (λ_=>none) (λv _ _ gl gr p=>Pa.rec (motive:=λ_=>Option α) v (λp' _=>gl p') (λp' _=>gr p') p) t
def putR{α:Type}(v:Option α)(p:Pa):Tr α->Tr α:=
 Pa.rec (motive:=λ_=>Tr α->Tr α)
  (λt=>Tr.rec (motive:=λ_=>Tr α) (.node v .leaf .leaf) (λ_ l r _ _=> .node v l r) t)
  (λ_ ih t=>Tr.rec (motive:=λ_=>Tr α) (.node none (ih .leaf) .leaf) (λw l r _ _=> .node w (ih l) r) t)
  (λ_ ih t=>Tr.rec (motive:=λ_=>Tr α) (.node none .leaf (ih .leaf)) (λw l r _ _=> .node w l (ih r)) t) p
theorem getR_eq{α:Type}(t:Tr α)(p:Pa):getR t p=getP t p:=by
 induction t generalizing p with
 |leaf=>rw[getP_leaf];rfl
 |node v l r h1 h2=>cases p with
  |e=>rfl
  |o p=>exact h1 p
  |i p=>exact h2 p
theorem putR_eq{α:Type}(v:Option α)(p:Pa)(t:Tr α):putR v p t=putP v p t:=by
 induction p generalizing t with
 |e=>cases t<;>rfl
 |o p ih=>cases t with
  |leaf=>show Tr.node none (putR v p .leaf) .leaf=_;rw[ih];rfl
  |node w l r=>show Tr.node w (putR v p l) r=_;rw[ih];rfl
 |i p ih=>cases t with
  |leaf=>show Tr.node none .leaf (putR v p .leaf)=_;rw[ih];rfl
  |node w l r=>show Tr.node w l (putR v p r)=_;rw[ih];rfl
structure TW where
 n:Nat
 tr:Tr Value
def TW.get(t:TW)(k:Nat):Value:=
 TW.rec (motive:=λ_=>Value) (λ_ tr=>Option.rec (motive:=λ_=>Value) undef (λv=>v) (getR tr (pa k k))) t
def TW.put(t:TW)(k:Nat)(v:Value):TW:=
 TW.rec (motive:=λ_=>TW) (λn tr=>Bool.rec (motive:=λ_=>TW) ⟨n,tr⟩ ⟨n,putR (some v) (pa k k) tr⟩ (Nat.ble (Nat.succ k) n)) t
def TW.put?(d:Option Tmp)(v:Value)(t:TW):TW:=Option.rec (motive:=λ_=>TW) t (λk=>TW.put t k v) d
def TW.load:List Value->Nat->TW->TW
 |[],_,t=>t
 |v::l,k,t=>TW.load l (Nat.succ k) (t.put k v)
def TW.ofArgs(n:Nat)(args:List Value):TW:=TW.load args 0 ⟨Nat.max n args.length, .leaf⟩
def TW.toList(t:TW):List Value:=(List.range t.n).map t.get
def TL(t:TW)(l:List Value):Prop:=t.n=l.length∧∀k,t.get k=l.getD k undef
theorem get_mkW(n:Nat)(tr:Tr Value)(k:Nat):TW.get ⟨n,tr⟩ k=(getP tr (pa k k)).getD undef:=by
 show Option.rec (motive:=λ_=>Value) undef (λv=>v) (getR tr (pa k k))=_
 rw[getR_eq]
 cases getP tr (pa k k)<;>rfl
theorem TL.toList{t:TW}{l:List Value}(h:TL t l):t.toList=l:=by
 apply list_ext_getD
 ·simp[TW.toList,h.1]
 ·intro i hi
  have hi':i<t.n:=by simpa [TW.toList] using hi
  rw[<-h.2 i]
  simp[TW.toList,gD',gM',List.getElem?_range hi']
theorem TL.put{t:TW}{l:List Value}(h:TL t l)(k:Nat)(v:Value):TL (t.put k v) (l.set k v):=by
 obtain⟨n,tr⟩:=t
 have h1:n=l.length:=h.1
 show TL (Bool.rec (motive:=λ_=>TW) ⟨n,tr⟩ ⟨n,putR (some v) (pa k k) tr⟩ (Nat.ble (Nat.succ k) n)) _
 cases hb:Nat.ble (Nat.succ k) n with
 |true=>
  have hk:k<n:=bA hb
  refine⟨by simp[h1],λj=>?_⟩
  simp only[get_mkW,putR_eq,getP_putP]
  by_cases e:j=k
  ·subst e
   have:j<l.length:=by rw[<-h1];exact hk
   simp[gD',this]
  ·rw[if_neg λe'=>e (pa_inj _ _ _ _ (lR' _) (lR' _) e')]
   have:=h.2 j
   simp only[get_mkW] at this
   rw[this,gD',gD',List.getElem?_set_ne (λe'=>e e'.symm)]
 |false=>
  have hk:¬k<n:=λhk=>by rw[Nat.ble_eq_true_of_le hk] at hb;cases hb
  show TL ⟨n,tr⟩ _
  rw[List.set_eq_of_length_le (by omega)]
  exact h
theorem TL.put? {t:TW}{l:List Value}(h:TL t l)(d:Option Tmp)(v:Value):TL (TW.put? d v t) (putT d v l):=by
 cases d with
 |none=>exact h
 |some k=>exact h.put k v
theorem load_list:∀(a:List Value) (k:Nat) (t:TW) (l:List Value),TL t l->k+a.length<=l.length->TL (TW.load a k t) (l.take k++a++l.drop (k+a.length))
 |[],k,t,l,h,_=>by simpa [TW.load] using h
 |v::a,k,t,l,h,hk=>by
  simp only[List.length_cons] at hk
  have:=load_list a (k+1) (t.put k v) (l.set k v) (h.put k v) (by simp;omega)
  simp only[TW.load]
  have e:(l.set k v).take (k+1)++a++(l.set k v).drop (k+1+a.length)=l.take k++v::a++l.drop (k+(v::a).length):=by
   rw[List.take_set,List.drop_set_of_lt (by omega)]
   have hlt:k<l.length:=by omega
   rw[List.take_succ_eq_append_getElem hlt,List.set_append_right _ _ (by rw[List.length_take];omega)]
   simp[Nat.min_eq_left (Nat.le_of_lt hlt),Nat.add_assoc,Nat.add_comm 1]
  rw[e] at this
  exact this
theorem ofArgs_list(n:Nat)(args:List Value):TL (TW.ofArgs n args) (args++List.replicate (n-args.length) undef):=by
 have h0:TL ⟨Nat.max n args.length, .leaf⟩ (List.replicate (Nat.max n args.length) undef):=by
  refine⟨by simp,λk=>?_⟩
  have:TW.get ⟨Nat.max n args.length, .leaf⟩ k=undef:=by simp[get_mkW,getP_leaf]
  rw[this,gD',List.getElem?_replicate]
  split<;>rfl
 have:=load_list args 0 _ _ h0 (by simp;exact Nat.le_max_right _ _)
 simp only[List.take_zero,List.nil_append,Nat.zero_add,List.drop_replicate] at this
 have e:Nat.max n args.length-args.length=n-args.length:=by
  show max n args.length-args.length=_
  omega
 rw[e] at this
 exact this
def evF(x:Operand)(t:TW):Value:=
 Operand.rec (motive:=λ_=>Value) (λk=>TW.get t k) (λv=>v) (λg=>ptr g 0) (λf=> .func (.func f) #[] #[]) x
theorem evF_eq{t:TW}{l:List Value}(h:TL t l):(λx=>evF x t)=λx=>ev x l:=by
 funext x
 cases x<;>first|rfl|exact h.2 _
def gV(b:Bool)(v:Value):Option Bool:=match v with
 | .bool c=>some (c==b)
 | .func (.method _) _ _=>none
 | .chan _=>none
 |_=>some false
def gF(g:Option (Tmp×Bool))(t:TW):Option Bool:=
 Option.rec (motive:=λ_=>Option Bool) (some true) (λp=>Prod.rec (motive:=λ_=>Option Bool) (λk b=>gV b (TW.get t k)) p) g
theorem gF_eq{t:TW}{l:List Value}(h:TL t l)(g:Option (Tmp×Bool)):gF g t=if gOk g l=false then none else some (wanted g l):=by
 cases g with
 |none=>rfl
 |some p=>
  obtain⟨k,b⟩:=p
  show gV b (TW.get t k)=_
  rw[h.2 k]
  have key:∀v,l.getD k undef=v->gV b v=if gOk (some (k,b)) l=false then none else some (wanted (some (k,b)) l):=by
   intro v hv
   unfold gOk wanted gV
   simp only[hv]
   cases v with
   |func fn _ _=>cases fn<;>rfl
   |_=>rfl
  exact key _ rfl
def pPick(r:Operand->Value)(c a b:Operand):Option Value:=match r c with
 | .bool t=>some (if t then r a else r b)
 |_=>none
def pNil(P:Program)(v:Value):Option Value:=match v with
 | .pointer (some a)=>some (.pointer (some a))
 | .func (.func f) a c=>some (.func (.func f) a c)
 | .func (.yield l) a c=>some (.func (.yield l) a c)
 | .func (.methodOf ty nm) a c=>if(methodA P ty nm).isSome then some (.func (.methodOf ty nm) a c) else none
 |_=>none
def pUn(P:Program)(op:UnOp)(v:Value):Option Value:=if plain v then runV P (Op.unary op v) else none
def pBin(P:Program)(op:BinOp)(t:TypeId)(v w:Value):Option Value:=if plain v&&plain w then runV P (binOp op t v w) else none
def pIface(P:Program)(t:TypeId)(v:Value):Option Value:=match P.underlying t with
 |some (.interface _)=>none
 |some _=>some (.iface t v)
 |none=>none
def pFunc(fn:Fn)(a b:Array Value):Option Value:=match fn with
 | .yield _=>none
 | .method nm=>methV nm a.toList b.toList
 |_=>some (.func fn a b)
def pFieldAddr(P:Program)(s:TypeId)(v:Value)(f:Nat):Option Value:=match P.underlying s,v with
 |some (.struct fs), .pointer (some ⟨b,o,none⟩)=>match fs[f]? with
  |some fl=>match szOf P fl.type with
   |some (_+1)=>some (ptr b (o+fl.offset))
   |_=>none
  |none=>none
 |_,_=>none
def pField(P:Program)(t:TypeId)(v:Value)(f:Nat):Option Value:=match P.underlying t,v with
 |some (.struct fs), .agg cs=>match fs[f]? with
  |some fl=>partA P fl.type cs fl.offset
  |none=>none
 |_,_=>none
def pIndex(P:Program)(t:TypeId)(v w:Value):Option Value:=match P.underlying t,v,w with
 |some (.array len e), .agg cs, .int _ n=>if 0<=n∧n<len then match szOf P e with
   |some s=>partA P e cs (n.toNat*s)
   |none=>none
  else none
 |some .string, .string s, .int _ n=>if 0<=n then match s[n.toNat]? with
   |some b=>some (.int .u8 b.toNat)
   |none=>none
  else none
 |_,_,_=>none
def pIndexAddr(P:Program)(t:TypeId)(v w:Value):Option Value:=match P.underlying t,v,w with
 |some (.array len e), .pointer (some ⟨b,o,none⟩), .int _ n=>if 0<=n∧n<len then match szOf P e with
   |some s=>some (ptr b (o+n.toNat*s))
   |none=>none
  else none
 |some (.slice e), .slice (some ⟨b,o,none⟩) len _, .int _ n=>if 0<=n∧n<len then match szOf P e with
   |some s=>some (ptr b (o+n.toNat*s))
   |none=>none
  else none
 |_,_,_=>none
def pSlice(P:Program)(t:TypeId)(r:Operand->Value)(x:Operand)(lo hi mx:Option Operand):Option Value:=match mx,hi with
 |some y,some z=>slice3A P t (r x) (lo.map r) (r z) (r y)
 |some _,none=>none
 |none,_=>sliceA P t (r x) (lo.map r) (hi.map r)
def pExtract(v:Value)(i:Nat):Option Value:=match v with
 | .tuple vs=>vs[i]?
 |_=>none
def pCall(P:Program)(ty:TypeId)(r:Operand->Value)(c:Call):Option Value:=match c.callee with
 | .builtin b=>if(c.args.map r).toList.all plain then match b with
   | .min=>runV P (Builtin.min_ c.argTypes ty (c.args.map r))
   | .max=>runV P (Builtin.max_ c.argTypes ty (c.args.map r))
   | .real=>runV P (Builtin.real_ c.argTypes ty (c.args.map r))
   | .imag=>runV P (Builtin.imag_ c.argTypes ty (c.args.map r))
   | .complex=>runV P (Builtin.complex_ c.argTypes ty (c.args.map r))
   |_=>none
   else none
 |_=>none
def rConv(P:Program)(s d:TypeId)(v:Value)(m:Mem):Option Value:=
 if plain v then match P.underlying d with
   |some (.slice _)=>none
   |_=>runV P (convert s d v)
  else match P.underlying s,P.underlying d,v with
   |some (.slice e),some .string, .slice (some ⟨b,o,none⟩) n _=>match P.underlying e,m.get b with
    |some (.int .u8),some (.cells cs _ _)=>match cs.sub o n with
     |some l=>(bytesOf l .empty).map .string
     |none=>none
    |_,_=>none
   |_,_,_=>none
def rCall(P:Program)(r:Operand->Value)(c:Call)(m:Mem):Option Value:=match c.callee,c.argTypes[0]?,c.args[0]? with
 | .builtin .len,some t,some x=>lenA P t (r x) m
 |_,_,_=>none
def mAlloc(P:Program)(t:TypeId):Option (AObj×(Nat->Value)):=match zeroOf P t with
 |some z=>if plain z then some (.cells (.ofList z.cells.toList) true 0,λid=>ptr id 0) else none
 |none=>none
def mBuild(P:Program)(t:TypeId)(len:Nat)(r:Operand->Value)(parts:Array (Nat×Operand)):Option (AObj×(Nat->Value)):=match P.underlying t with
 |some (.slice e)=>match szOf P e,zeroOf P e with
  |some s,some z=>if plain z&&decide (len*s<=2 ^ 24)&&z.cells.size==s&&decide (0<s) then
    (fillA (λi=>some (i*s,s)) (zeros z.cells.toList (len*s)) (partsOf r parts)).map λcs=>(.cells (.ofList cs) true s,λid=> .slice (some ⟨id,0,none⟩) len len)
   else none
  |_,_=>none
 |_=>none
def mMap(P:Program)(t:TypeId)(h:Option Operand)(r:Operand->Value):Option (AObj×(Nat->Value)):=match h with
 |none=>some (.map [] true,λid=> .map (some id))
 |some x=>match P.underlying t,r x with
  |some (.map _ _), .int _ _=>some (.map [] true,λid=> .map (some id))
  |_,_=>none
def mSlice(P:Program)(t:TypeId)(l c:Value):Option (AObj×(Nat->Value)):=match P.underlying t,l,c with
 |some (.slice e), .int .i64 n, .int .i64 k=>match P.info? e,zeroOf P e with
  |some i,some z=>if plain z&&decide (0<=n)&&decide (n<=k)&&decide (k<=2 ^ 40)&&decide (i.bytes*k<=2 ^ 48)&&z.cells.size==i.size&&decide (0<i.size) then
    some (.cells (.fill z.cells.toList (k.toNat*i.size)) true i.size,λid=> .slice (some ⟨id,0,none⟩) n.toNat k.toNat)
   else none
  |_,_=>none
 |_,_,_=>none
def mRange(P:Program)(t:TypeId)(v:Value):Option (AObj×(Nat->Value)):=match P.underlying t,v with
 |some .string, .string s=>some (.strIter s 0,λid=>ptr id 0)
 |_,_=>none
def eMap(x:Option Mem)(v:Value):Option (Req×Mem):=x.map λm'=>(.val v,m')
def eVal(x:Option (Value×Mem)):Option (Req×Mem):=x.map λq=>(.val q.1,q.2)
def eApp(P:Program)(id:Nat)(r:Operand->Value)(c:Call)(m:Mem):Option (Req×Mem):=match c.args[0]?,c.args[1]? with
 |some s,some x=>eVal (appendA P id c.argTypes (r s) (r x) m)
 |_,_=>none
def eCopy(P:Program)(r:Operand->Value)(c:Call)(m:Mem):Option (Req×Mem):=match c.args[0]?,c.args[1]? with
 |some s,some x=>eVal (copyA P c.argTypes (r s) (r x) m)
 |_,_=>none
def eClear(P:Program)(r:Operand->Value)(c:Call)(m:Mem):Option (Req×Mem):=match c.args[0]? with
 |some x=>eMap (clearA P c.argTypes (r x) m) (.tuple #[])
 |none=>none
def eDel(P:Program)(r:Operand->Value)(c:Call)(m:Mem):Option (Req×Mem):=match c.args[0]?,c.args[1]? with
 |some s,some x=>eMap (deleteA P c.argTypes (r s) (r x) m) (.tuple #[])
 |_,_=>none
def eFun(P:Program)(v:Value)(args:List Value)(m:Mem):Option (Req×Mem):=match v with
 | .func (.func g) first cap=>if callable P g then some (.call g (first.toList++args++cap.toList),m) else match externA P g (first.toList++args++cap.toList) with
   |some v=>some (.val v,m)
   |none=>none
 | .func (.yield l) first _=>some (.round l (first.toList++args),m)
 |_=>none
def eInv(P:Program)(v:Value)(name:String)(args:List Value)(m:Mem):Option (Req×Mem):=match v with
 | .iface t v=>match methodA P t name with
   |some f=>if callable P f then some (.call f (v::args),m) else none
   |none=>none
 |_=>none
def eCall(P:Program)(id:Nat)(r:Operand->Value)(c:Call)(m:Mem):Option (Req×Mem):=match c.callee with
 | .builtin .append=>eApp P id r c m
 | .builtin .copy=>eCopy P r c m
 | .builtin .clear=>eClear P r c m
 | .builtin .delete=>eDel P r c m
 | .value f=>eFun P (r f) (c.args.map r).toList m
 | .invoke x name=>eInv P (r x) name (c.args.map r).toList m
 |_=>none
inductive TaskF where
 |code (rd:Option Nat) (c:SCode) (t:TW)
 |call (f:FuncId) (args:List Value)
 |round (l:Nat) (args:List Value)
inductive OutF where
 |exit (x:Exit) (t:TW)
 |val (v:Value)
abbrev SelfF:=TaskF->Mem->Option (OutF×Mem)
def oVal(x:Option (OutF×Mem)):Option (Value×Mem):=match x with
 |some (.val v,m)=>some (v,m)
 |_=>none
def oPure(x:Option Value)(m:Mem):Option (Value×Mem):=match x with
 |some v=>some (v,m)
 |none=>none
def oMake(x:Option (AObj×(Nat->Value)))(id:Nat)(m:Mem):Option (Value×Mem):=match x with
 |some (ob,mk)=>some (mk id,m.put id ob)
 |none=>none
def oEff(self:SelfF)(x:Option (Req×Mem)):Option (Value×Mem):=match x with
 |some (.val v,m')=>some (v,m')
 |some (.call f args,m')=>oVal (self (.call f args) m')
 |some (.round l args,m')=>oVal (self (.round l args) m')
 |none=>none
def oStore(x:Option Mem):Option (Value×Mem):=match x with
 |some m=>some (undef,m)
 |none=>none
def bEq:List UInt8->List UInt8->Bool
 |[],[]=>true
 |a::l,b::k=>bif Nat.beq a.toNat b.toNat then bEq l k else false
 |_,_=>false
theorem bEq_iff:∀l k:List UInt8,bEq l k=true↔l=k
 |[],[]=>by simp[bEq]
 |[],_::_=>by simp[bEq]
 |_::_,[]=>by simp[bEq]
 |a::l,b::k=>by
  simp only[bEq]
  cases h:Nat.beq a.toNat b.toNat with
  |true=>
   have hab:a=b:=UInt8.toNat_inj.1 (Nat.eq_of_beq_eq_true h)
   simp[bEq_iff l k,hab]
  |false=>
   have hab:a≠b:=λe=>by subst e;rw[Nat.beq_refl] at h;cases h
   simp[hab]
theorem bEq_eq(a b:ByteArray):bEq a.data.toList b.data.toList=(a.toList==b.toList):=by
 rw[ByteArray.toList_eq,ByteArray.toList_eq,Bool.eq_iff_iff,bEq_iff,beq_iff_eq]
def oStr(op:BinOp)(a b:ByteArray)(m:Mem):Option (Value×Mem):=match op with
 | .eql=>some (.bool (bEq a.data.toList b.data.toList),m)
 | .neq=>some (.bool (!bEq a.data.toList b.data.toList),m)
 |_=>none
def oEq(P:Program)(op:BinOp)(t:TypeId)(xo yo:Operand)(x y:Value)(m:Mem):Option (Value×Mem):=match x,y with
 | .string a, .string b=>oStr op a b m
 |x,y=>oPure (eqA P op t xo yo x y m) m
theorem oEq_eq(P:Program){op:BinOp}(h:op= .eql∨op= .neq)(t:TypeId)(xo yo:Operand)(x y:Value)(m:Mem):oEq P op t xo yo x y m=oPure (eqA P op t xo yo x y m) m:=by
 unfold oEq
 split
 ·rename_i a b
  rcases h with rfl|rfl
  ·show some (Value.bool (bEq a.data.toList b.data.toList),m)=_
   rw[bEq_eq]
   have hp:∀c:ByteArray,plain (.string c)=true:=λ_=>rfl
   unfold eqA
   simp only[hp,Bool.and_self,if_true]
   rfl
  ·show some (Value.bool (!bEq a.data.toList b.data.toList),m)=_
   rw[bEq_eq]
   have hp:∀c:ByteArray,plain (.string c)=true:=λ_=>rfl
   unfold eqA
   simp only[hp,Bool.and_self,if_true]
   rfl
 ·rfl
def oBin(P:Program)(op:BinOp)(t:TypeId)(xo yo:Operand)(x y:Value)(m:Mem):Option (Value×Mem):=match op with
 | .eql| .neq=>oEq P op t xo yo x y m
 |_=>oPure (pBin P op t x y) m
def oCall(P:Program)(self:SelfF)(id:Nat)(ty:TypeId)(r:Operand->Value)(c:Call)(m:Mem):Option (Value×Mem):=match c.callee with
 | .builtin b=>match b with
   | .len=>oPure (rCall P r c m) m
   | .min| .max| .real| .imag| .complex=>oPure (pCall P ty r c) m
   |_=>oEff self (eCall P id r c m)
 | .value f=>oEff self (eFun P (r f) (c.args.map r).toList m)
 | .invoke x name=>oEff self (eInv P (r x) name (c.args.map r).toList m)
def opF(P:Program)(self:SelfF)(id:Nat)(op:Op)(ty:TypeId)(r:Operand->Value)(m:Mem):Option (Value×Mem):=match op with
 | .move x| .assign x=>some (r x,m)
 | .pick c a b=>oPure (pPick r c a b) m
 | .nilCheck x=>oPure (pNil P (r x)) m
 | .unOp op _ x=>oPure (pUn P op (r x)) m
 | .binOp op t x y _=>oBin P op t x y (r x) (r y) m
 | .makeInterface t x=>oPure (pIface P t (r x)) m
 | .makeFunc fn first cap=>oPure (pFunc fn (first.map r) (cap.map r)) m
 | .fieldAddr s x f=>oPure (pFieldAddr P s (r x) f) m
 | .field t x f=>oPure (pField P t (r x) f) m
 | .index t x i=>oPure (pIndex P t (r x) (r i)) m
 | .indexAddr t x i=>oPure (pIndexAddr P t (r x) (r i)) m
 | .slice t x lo hi mx=>oPure (pSlice P t r x lo hi mx) m
 | .build t parts=>oPure (buildA P t (partsOf r parts)) m
 | .extract x i=>oPure (pExtract (r x) i) m
 | .load t a=>oPure (loadA P t (r a) m) m
 | .lookup t mp k ok=>oPure (lookupA P t (r mp) (r k) ok m) m
 | .convert s d x=>oPure (rConv P s d (r x) m) m
 | .alloc t=>oMake (mAlloc P t) id m
 | .box _ x=>if isJunk (r x) then none else some (ptr id 0,m.put id (.cells (.ofList (r x).cells.toList) true 0))
 | .buildSlice t len parts=>oMake (mBuild P t len r parts) id m
 | .makeMap t h=>oMake (mMap P t h r) id m
 | .makeSlice t l c=>oMake (mSlice P t (r l) (r c)) id m
 | .range t x=>oMake (mRange P t (r x)) id m
 | .next it s=>oEff self (if s then eVal (nextA (r it) m) else none)
 | .store t a x=>oStore (storeA P t (r a) (r x) m)
 | .mapUpdate t mp k x| .insert t mp k x=>oStore (mapSetA P t (r mp) (r k) (r x) m)
 | .call c=>oCall P self id ty r c m
 |_=>none
def seqF(P:Program)(self:SelfF)(ops:List SOp):Nat->TW->Mem->Option (TW×Mem):=
 List.rec (motive:=λ_=>Nat->TW->Mem->Option (TW×Mem)) (λ_ t m=>some (t,m))
  (λo _ ih id t m=>Option.rec (motive:=λ_=>Option (TW×Mem)) none
   (λb=>Bool.rec (motive:=λ_=>Option (TW×Mem))
    (ih (Nat.succ id) (TW.put? o.dst undef t) m)
    (Option.rec (motive:=λ_=>Option (TW×Mem)) none (λq=>Prod.rec (motive:=λ_=>Option (TW×Mem)) (λv m'=>ih (Nat.succ id) (TW.put? o.dst v t) m') q) (opF P self id o.op o.type (λx=>evF x t) m))
    b) (gF o.guard t)) ops
def reF(E:Env)(o:SOp)(r:Operand->Value)(m:Mem)(hist:List (Nat×Mem))(re:List Nat):Bool:=
 re.all λe=>match lookH hist e with
  |some me=>match readE E o r m,readE E o r me with
   |some v,some u=>E.eqv v u
   |_,_=>false
  |none=>false
def drF(E:Env)(self:SelfF)(base:Nat)(ops:List SOp):List (Nat×List Nat)->List (Nat×Mem)->TW->Mem->Option (TW×Mem)
 |[],_,t,m=>some (t,m)
 |(i,re)::rest,hist,t,m=>match ops[i]? with
  |none=>none
  |some o=>match gF o.guard t with
   |some true=>bif reF E o (λx=>evF x t) m hist re then match opF E.P self (base+i) o.op o.type (λx=>evF x t) m with
     |some (v,m')=>drF E self base ops rest ((i,m)::hist) (TW.put? o.dst v t) m'
     |none=>none
    else none
   |some false=>drF E self base ops rest ((i,m)::hist) (TW.put? o.dst undef t) m
   |none=>none
def resF(P:Program)(t:TW)(m:Mem):List ResultVar->Option (List Value)
 |[]=>some []
 | .tmp k::l=>match resF P t m l with
   |some vs=>some (t.get k::vs)
   |none=>none
 | .cell k ty::l=>match loadA P ty (t.get k) m,resF P t m l with
   |some v,some vs=>some (v::vs)
   |_,_=>none
def cSeq(self:SelfF)(rd:Option Nat)(b:SCode)(x:Option (OutF×Mem)):Option (OutF×Mem):=match x with
 |some (.exit .normal t',m')=>self (.code rd b t') m'
 |r=>r
def cCond(self:SelfF)(rd:Option Nat)(v:Value)(a b:SCode)(t:TW)(m:Mem):Option (OutF×Mem):=match v with
 | .bool true=>self (.code rd a t) m
 | .bool false=>self (.code rd b t) m
 |_=>none
def cBlock(id:Nat)(x:Option (OutF×Mem)):Option (OutF×Mem):=match x with
 |some (.exit (.exit k) t',m')=>some (.exit (if k=id then .normal else .exit k) t',m')
 |r=>r
def cScope(self:SelfF)(rd:Option Nat)(b:SCode)(x:Option (OutF×Mem)):Option (OutF×Mem):=match x with
 |some (.exit (.goto l) t',m')=>match sFind b l with
  |some r=>self (.code rd (.again b r) t') m'
  |none=>some (.exit (.goto l) t',m')
 |r=>r
def cReg(x:Option (TW×Mem)):Option (OutF×Mem):=match x with
 |some (t',m')=>some (.exit .normal t',m')
 |none=>none
def cRfn1(l:Nat)(t:TW)(x:Option (OutF×Mem)):Option (OutF×Mem):=match x with
 |some (.val _,m2)=>match m2.get l with
  |some (.loop r)=>if r.state= .busy then none else
   match r.pend with
   |none=>some (.exit .normal t,m2.put l (.loop {r with state:= .exhausted}))
   |some x=>if pendX x then some (.exit x t,m2.put l (.loop {r with state:= .exhausted})) else none
  |_=>none
 |_=>none
def cRfn(P:Program)(self:SelfF)(rd:Option Nat)(v:Value)(ps:List Tmp)(asg bd:SCode)(t:TW)(m:Mem):Option (OutF×Mem):=match v with
 | .func (.func g) first cap=>
   if callable P g&&(match rd with|none=>true|some l0=>isLoop (m.get l0)) then
    cRfn1 m.next t (self (.call g (first.toList++ [.func (.yield m.next) #[] #[]]++cap.toList)) ((m.bump 1).put m.next (.loop {state:= .ready,pend:=none,tmps:=t.toList,ps:=ps,assign:=asg,body:=bd})))
   else none
 |_=>none
def stepCF(E:Env)(self:SelfF)(rd:Option Nat)(c:SCode)(t:TW)(m:Mem):Option (OutF×Mem):=match c with
 | .skip=>some (.exit .normal t,m)
 | .exit id=>some (.exit (.exit id) t,m)
 | .ret=>some (.exit .ret t,m)
 | .seq a b=>cSeq self rd b (self (.code rd a t) m)
 | .cond c a b=>cCond self rd (evF c t) a b t m
 | .block id b=>cBlock id (self (.code rd b t) m)
 | .loop b=>cSeq self rd (.loop b) (self (.code rd b t) m)
 | .label _=>some (.exit .normal t,m)
 | .goto l=>some (.exit (.goto l) t,m)
 | .scope b=>cScope self rd b (self (.code rd b t) m)
 | .again b r=>cScope self rd b (self (.code rd r t) m)
 | .reg ops=>cReg (seqF E.P self ops m.next t (m.bump ops.length))
 | .dreg ops ord=>cReg (drF E self m.next ops ord [] t (m.bump ops.length))
 | .rfn f ps asg bd=>cRfn E.P self rd (evF f t) ps asg bd t m
def fRet(P:Program)(rs:List ResultVar)(x:Option (OutF×Mem)):Option (OutF×Mem):=match x with
 |some (.exit .normal t',m')|some (.exit .ret t',m')=>match resF P t' m' rs with
  |some vs=>some (.val (oneOr vs),m')
  |none=>none
 |_=>none
def fCall(E:Env)(self:SelfF)(f:FuncId)(args:List Value)(m:Mem):Option (OutF×Mem):=match fnOf E.P f with
 |none=>none
 |some s=>fRet E.P s.results (self (.code none s.body (TW.ofArgs s.ntmps args)) m)
def fPrim(x:Option (Value×Mem)):Option (OutF×Mem):=match x with
 |some (v,m')=>some (.val v,m')
 |none=>none
def fRound3(l:Nat)(x:Option (OutF×Mem)):Option (OutF×Mem):=match x with
 |some (.exit x _,m3)=>match m3.get l with
  |some (.loop r3)=>match x with
   | .normal=>some (.val (.bool true),m3.put l (.loop {r3 with state:= .ready,pend:=none}))
   | .ret=>some (.val (.bool false),m3.put l (.loop {r3 with state:= .done,pend:=some .ret}))
   | .exit id=>some (.val (.bool false),m3.put l (.loop {r3 with state:= .done,pend:=some (.exit id)}))
   |_=>none
  |_=>none
 |_=>none
def fRound2(self:SelfF)(l:Nat)(body:SCode)(x:Option (OutF×Mem)):Option (OutF×Mem):=match x with
 |some (.exit .normal t1,m1)=>match m1.get l with
  |some (.loop r1)=>if r1.state= .ready then fRound3 l (self (.code (some l) body t1) (m1.put l (.loop {r1 with state:= .busy}))) else none
  |_=>none
 |_=>none
def fRound(self:SelfF)(l:Nat)(args:List Value)(m:Mem):Option (OutF×Mem):=match m.get l with
 |some (.loop r)=>if r.ps.length=args.length∧r.state= .ready then
   fRound2 self l r.body (self (.code (some l) r.assign (TW.ofArgs 0 (setAll r.ps args r.tmps))) m)
  else none
 |_=>none
def stepF(E:Env)(self:SelfF):TaskF->Mem->Option (OutF×Mem)
 | .code rd c t,m=>stepCF E self rd c t m
 | .call f args,m=>match E.prim f with
   |some p=>fPrim (p args m)
   |none=>fCall E self f args m
 | .round l args,m=>fRound self l args m
def runF(E:Env)(n:Nat):SelfF:=Nat.rec (motive:=λ_=>SelfF) (λ_ _=>none) (λ_ ih=>stepF E ih) n
end
end Go.Ab
namespace Go.Ab
section
theorem oStore_eq(self:SelfF)(x:Option Mem):oStore x=oEff self (x.map λm'=>(.val undef,m')):=by cases x<;>rfl
theorem opF_eq(P:Program)(self:SelfF)(id:Nat)(o:SOp)(r:Operand->Value)(m:Mem):opF P self id o.op o.type r m=(match cls o.op with
  | .pure=>oPure (pureA P o r) m
  | .read=>oPure (readA P o r m) m
  | .make=>oMake (makeA P o r) id m
  | .eff=>oEff self (effA P id o r m)):=by
 obtain⟨d,op,ty,g⟩:=o
 cases op with
 |binOp op t x y g=>
  cases op with
  |eql=>exact oEq_eq P (.inl rfl) t x y (r x) (r y) m
  |neq=>exact oEq_eq P (.inr rfl) t x y (r x) (r y) m
  |_=>rfl
 |store t a x=>exact oStore_eq self _
 |mapUpdate t mp k x=>exact oStore_eq self _
 |insert t mp k x=>exact oStore_eq self _
 |call c=>
  obtain⟨callee,args,at_⟩:=c
  cases callee with
  |builtin b=>cases b<;>rfl
  |_=>rfl
 |box e v=>
  show(if isJunk (r v) then none else some (ptr id 0,m.put id (.cells (.ofList (r v).cells.toList) true 0)))=oMake (if isJunk (r v) then none else some (.cells (.ofList (r v).cells.toList) true 0,λid=>ptr id 0)) id m
  cases isJunk (r v)<;>rfl
 |_=>rfl
structure Sim(sF:SelfF)(s:Self):Prop where
 code:∀{rd c t l m x t' m'},TL t l->sF (.code rd c t) m=some (.exit x t',m')->∃l',TL t' l'∧s (.code rd c l) m=some (.exit x l',m')
 call:∀{f args m v m'},sF (.call f args) m=some (.val v,m')->s (.call f args) m=some (.val v,m')
 round:∀{k args m v m'},sF (.round k args) m=some (.val v,m')->s (.round k args) m=some (.val v,m')
variable{E:Env}{sF:SelfF}{s:Self}
theorem oVal_some{x:Option (OutF×Mem)}{q:Value×Mem}(h:oVal x=some q):x=some (.val q.1,q.2):=by
 unfold oVal at h
 split at h
 ·cases h;rfl
 ·cases h
theorem op_sim(hs:Sim sF s){t:TW}{l:List Value}(ht:TL t l){id:Nat}{o:SOp}{m:Mem}{q:Value×Mem}(h:opF E.P sF id o.op o.type (λx=>evF x t) m=some q):opA E s id o l m=some q:=by
 rw[opF_eq,evF_eq ht] at h
 unfold opA
 cases hc:cls o.op with
 |pure=>
  rw[hc] at h
  simp only at h⊢
  cases hx:pureA E.P o (λx=>ev x l) with
  |none=>rw[hx] at h;cases h
  |some v=>rw[hx] at h;simp only[pureE,hx];exact h
 |read=>
  rw[hc] at h
  simp only at h⊢
  cases hx:readA E.P o (λx=>ev x l) m with
  |none=>rw[hx] at h;cases h
  |some v=>rw[hx] at h;simp only[readE,hx];exact h
 |make=>
  rw[hc] at h
  simp only at h⊢
  cases hx:makeA E.P o (λx=>ev x l) with
  |none=>rw[hx] at h;cases h
  |some v=>rw[hx] at h;exact h
 |eff=>
  rw[hc] at h
  simp only at h⊢
  cases hx:effA E.P id o (λx=>ev x l) m with
  |none=>rw[hx] at h;cases h
  |some v=>
   rw[hx] at h
   obtain⟨rq,m1⟩:=v
   cases rq with
   |val v=>exact h
   |call f args=>
    have h1:=hs.call (oVal_some h)
    simp only[h1]
   |round k args=>
    have h1:=hs.round (oVal_some h)
    simp only[h1]
theorem seqF_cons(P:Program)(self:SelfF)(o:SOp)(ops:List SOp)(id:Nat)(t:TW)(m:Mem):seqF P self (o::ops) id t m=(match gF o.guard t with
  |none=>none
  |some false=>seqF P self ops (id+1) (TW.put? o.dst undef t) m
  |some true=>match opF P self id o.op o.type (λx=>evF x t) m with
   |none=>none
   |some (v,m')=>seqF P self ops (id+1) (TW.put? o.dst v t) m'):=by
 show Option.rec (motive:=λ_=>Option (TW×Mem)) none _ (gF o.guard t)=_
 cases gF o.guard t with
 |none=>rfl
 |some b=>cases b with
  |false=>rfl
  |true=>
   show Option.rec (motive:=λ_=>Option (TW×Mem)) none _ (opF P self id o.op o.type (λx=>evF x t) m)=_
   cases opF P self id o.op o.type (λx=>evF x t) m with
   |none=>rfl
   |some q=>rfl
theorem step_sim(hs:Sim sF s){t:TW}{l:List Value}(ht:TL t l){id:Nat}{o:SOp}{m:Mem}:
  (∀{q:Value×Mem},gF o.guard t=some true->opF E.P sF id o.op o.type (λx=>evF x t) m=some q->stepOp E s id o l m=some (putT o.dst q.1 l,q.2))∧
  (gF o.guard t=some false->stepOp E s id o l m=some (putT o.dst undef l,m)):=by
 rw[gF_eq ht]
 unfold stepOp
 by_cases hg:gOk o.guard l=false
 ·simp[hg]
 ·simp only[hg]
  refine⟨λ{q} h1 h2=>?_,λh1=>?_⟩
  ·have hw:wanted o.guard l=true:=by simpa using h1
   simp only[hw,op_sim hs ht h2]
   rfl
  ·have hw:wanted o.guard l=false:=by simpa using h1
   simp[hw]
theorem seq_sim(hs:Sim sF s):∀{ops:List SOp} {id:Nat} {t t':TW} {l:List Value} {m m':Mem},TL t l->seqF E.P sF ops id t m=some (t',m')->∃l',TL t' l'∧seqOps E s id ops l m=some (l',m')
 |[],id,t,t',l,m,m',ht,h=>by
  have h:some (t,m)=some (t',m'):=h
  cases h
  exact⟨l,ht,rfl⟩
 |o::ops,id,t,t',l,m,m',ht,h=>by
  rw[seqF_cons] at h
  simp only[seqOps]
  cases hg:gF o.guard t with
  |none=>rw[hg] at h;cases h
  |some b=>
   rw[hg] at h
   cases b with
   |false=>
    simp only at h
    rw[(step_sim hs ht).2 hg]
    exact seq_sim hs (ht.put? o.dst undef) h
   |true=>
    simp only at h
    cases ho:opF E.P sF id o.op o.type (λx=>evF x t) m with
    |none=>rw[ho] at h;cases h
    |some q=>
     rw[ho] at h
     rw[(step_sim hs ht).1 hg ho]
     exact seq_sim hs (ht.put? o.dst q.1) h
theorem dr_sim(hs:Sim sF s){base:Nat}{ops:List SOp}:∀{ord:List (Nat×List Nat)} {hist:List (Nat×Mem)} {t t':TW} {l:List Value} {m m':Mem},TL t l->drF E sF base ops ord hist t m=some (t',m')->
  ∃l',TL t' l'∧drOps E s base ops ord hist l m=some (l',m')
 |[],hist,t,t',l,m,m',ht,h=>by
  have h:some (t,m)=some (t',m'):=h
  cases h
  exact⟨l,ht,rfl⟩
 |(i,re)::ord,hist,t,t',l,m,m',ht,h=>by
  simp only[drF] at h
  simp only[drOps]
  cases hi:ops[i]? with
  |none=>rw[hi] at h;cases h
  |some o=>
   rw[hi] at h
   simp only at h⊢
   have hgw:=gF_eq ht o.guard
   cases hg:gF o.guard t with
   |none=>rw[hg] at h;cases h
   |some b=>
    rw[hg] at h hgw
    have hwb:wanted o.guard l=b:=by
     by_cases hok:gOk o.guard l=false
     ·simp[hok] at hgw
     ·simpa [hok] using hgw.symm
    cases b with
    |false=>
     simp only at h
     rw[if_pos (.inl hwb),(step_sim hs ht).2 hg]
     exact dr_sim hs (ht.put? o.dst undef) h
    |true=>
     simp only at h
     cases hre:reF E o (λx=>evF x t) m hist re with
     |false=>rw[hre] at h;cases h
     |true=>
      rw[hre] at h
      simp only[cond_true] at h
      have hre':reOk E o l m hist re=true:=by
       rw[evF_eq ht] at hre
       exact hre
      rw[if_pos (.inr hre')]
      cases ho:opF E.P sF (base+i) o.op o.type (λx=>evF x t) m with
      |none=>rw[ho] at h;cases h
      |some q=>
       rw[ho] at h
       rw[(step_sim hs ht).1 hg ho]
       exact dr_sim hs (ht.put? o.dst q.1) h
theorem res_sim{P:Program}{t:TW}{l:List Value}(ht:TL t l){m:Mem}:∀(rs:List ResultVar),resF P t m rs=resA P l m rs
 |[]=>rfl
 | .tmp k::rs=>by simp only[resF,resA,res_sim ht rs,ht.2 k];rfl
 | .cell k ty::rs=>by simp only[resF,resA,res_sim ht rs,ht.2 k];rfl
theorem stepC_sim(hs:Sim sF s){rd:Option Nat}{c:SCode}{t t':TW}{l:List Value}{m m':Mem}{x:Exit}(ht:TL t l)(h:stepCF E sF rd c t m=some (.exit x t',m')):∃l',TL t' l'∧stepCode E s rd c l m=some (.exit x l',m'):=by
 cases c with
 |skip=>cases h;exact⟨l,ht,rfl⟩
 |exit i=>cases h;exact⟨l,ht,rfl⟩
 |ret=>cases h;exact⟨l,ht,rfl⟩
 |seq a b=>
  simp only[stepCF] at h
  simp only[stepCode]
  unfold cSeq at h
  split at h
  ·rename_i t1 m1 h1
   obtain⟨l1,g1,g2⟩:=hs.code ht h1
   obtain⟨l2,g3,g4⟩:=hs.code g1 h
   exact⟨l2,g3,by rw[g2];exact g4⟩
  ·rename_i hne
   obtain⟨l1,g1,g2⟩:=hs.code ht h
   refine⟨l1,g1,?_⟩
   rw[g2]
   cases x with
   |normal=>exact absurd h (λe=>hne _ _ e)
   |_=>rfl
 |loop b=>
  simp only[stepCF] at h
  simp only[stepCode]
  unfold cSeq at h
  split at h
  ·rename_i t1 m1 h1
   obtain⟨l1,g1,g2⟩:=hs.code ht h1
   obtain⟨l2,g3,g4⟩:=hs.code g1 h
   exact⟨l2,g3,by rw[g2];exact g4⟩
  ·rename_i hne
   obtain⟨l1,g1,g2⟩:=hs.code ht h
   refine⟨l1,g1,?_⟩
   rw[g2]
   cases x with
   |normal=>exact absurd h (λe=>hne _ _ e)
   |_=>rfl
 |cond c a b=>
  simp only[stepCF] at h
  simp only[stepCode]
  have e:evF c t=ev c l:=congrFun (evF_eq ht) c
  rw[e] at h
  unfold cCond at h
  split at h
  ·rename_i hv
   obtain⟨l1,g1,g2⟩:=hs.code ht h
   exact⟨l1,g1,by rw[hv];exact g2⟩
  ·rename_i hv
   obtain⟨l1,g1,g2⟩:=hs.code ht h
   exact⟨l1,g1,by rw[hv];exact g2⟩
  ·cases h
 |block i b=>
  simp only[stepCF] at h
  simp only[stepCode]
  unfold cBlock at h
  split at h
  ·rename_i k t1 m1 h1
   obtain⟨l1,g1,g2⟩:=hs.code ht h1
   simp only[sI,pI,OutF.exit.injEq] at h
   obtain⟨⟨rfl,rfl⟩,rfl⟩:=h
   exact⟨l1,g1,by rw[g2]⟩
  ·rename_i hne
   obtain⟨l1,g1,g2⟩:=hs.code ht h
   refine⟨l1,g1,?_⟩
   rw[g2]
   cases x with
   |exit k=>exact absurd h (λe=>hne _ _ _ e)
   |_=>rfl
 |label i=>cases h;exact⟨l,ht,rfl⟩
 |goto i=>cases h;exact⟨l,ht,rfl⟩
 |scope b=>
  simp only[stepCF] at h
  simp only[stepCode]
  unfold cScope at h
  split at h
  ·rename_i k t1 m1 h1
   obtain⟨l1,g1,g2⟩:=hs.code ht h1
   rw[g2]
   simp only
   cases hf:sFind b k with
   |none=>
    rw[hf] at h
    simp only[sI,pI,OutF.exit.injEq] at h
    obtain⟨⟨rfl,rfl⟩,rfl⟩:=h
    exact⟨l1,g1,rfl⟩
   |some r1=>
    rw[hf] at h
    exact hs.code g1 h
  ·rename_i hne
   obtain⟨l1,g1,g2⟩:=hs.code ht h
   refine⟨l1,g1,?_⟩
   rw[g2]
   cases x with
   |goto k=>exact absurd h (λe=>hne _ _ _ e)
   |_=>rfl
 |again b r=>
  simp only[stepCF] at h
  simp only[stepCode]
  unfold cScope at h
  split at h
  ·rename_i k t1 m1 h1
   obtain⟨l1,g1,g2⟩:=hs.code ht h1
   rw[g2]
   simp only
   cases hf:sFind b k with
   |none=>
    rw[hf] at h
    simp only[sI,pI,OutF.exit.injEq] at h
    obtain⟨⟨rfl,rfl⟩,rfl⟩:=h
    exact⟨l1,g1,rfl⟩
   |some r1=>
    rw[hf] at h
    exact hs.code g1 h
  ·rename_i hne
   obtain⟨l1,g1,g2⟩:=hs.code ht h
   refine⟨l1,g1,?_⟩
   rw[g2]
   cases x with
   |goto k=>exact absurd h (λe=>hne _ _ _ e)
   |_=>rfl
 |reg ops=>
  simp only[stepCF] at h
  simp only[stepCode]
  unfold cReg at h
  split at h
  ·rename_i t1 m1 h1
   cases h
   obtain⟨l1,g1,g2⟩:=seq_sim hs ht h1
   exact⟨l1,g1,by rw[g2]⟩
  ·cases h
 |dreg ops ord=>
  simp only[stepCF] at h
  simp only[stepCode]
  unfold cReg at h
  split at h
  ·rename_i t1 m1 h1
   cases h
   obtain⟨l1,g1,g2⟩:=dr_sim hs ht h1
   exact⟨l1,g1,by rw[g2]⟩
  ·cases h
 |rfn f ps asg bd=>
  simp only[stepCF] at h
  simp only[stepCode]
  have e:evF f t=ev f l:=congrFun (evF_eq ht) f
  rw[e] at h
  unfold cRfn at h
  split at h
  ·rename_i g first cap hv
   rw[hv]
   rw[ht.toList] at h
   have fin:∀b:Bool,(if b=true then cRfn1 m.next t (sF (.call g (first.toList++ [.func (.yield m.next) #[] #[]]++cap.toList)) ((m.bump 1).put m.next (.loop {state:= .ready,pend:=none,tmps:=l,ps:=ps,assign:=asg,body:=bd}))) else none)=some (.exit x t',m')->
     ∃l',TL t' l'∧(if b=true then
      match s (.call g (first.toList++ [.func (.yield m.next) #[] #[]]++cap.toList)) ((m.bump 1).put m.next (.loop {state:= .ready,pend:=none,tmps:=l,ps:=ps,assign:=asg,body:=bd})) with
      |some (.val _,m2)=>match m2.get m.next with
       |some (.loop r)=>if r.state= .busy then none else
        match r.pend with
        |none=>some (Out.exit .normal l,m2.put m.next (.loop {r with state:= .exhausted}))
        |some x=>if pendX x then some (.exit x l,m2.put m.next (.loop {r with state:= .exhausted})) else none
       |_=>none
      |_=>none
      else none)=some (.exit x l',m'):=by
    intro b h
    cases b with
    |false=>cases h
    |true=>
     simp only[if_true] at h⊢
     unfold cRfn1 at h
     split at h
     ·rename_i v m2 h1
      rw[hs.call h1]
      simp only
      split at h
      ·rename_i r hr
       try simp only[hr]
       split at h
       ·cases h
       ·rename_i hb
        rw[if_neg hb]
        split at h
        ·rename_i hp
         cases h
         exact⟨l,ht,by simp only[hp]⟩
        ·rename_i x' hp
         split at h
         ·rename_i hpx
          cases h
          exact⟨l,ht,by simp only[hp,hpx,if_true]⟩
         ·cases h
      ·cases h
     ·cases h
   exact fin _ h
  ·cases h
theorem sim_succ(hs:Sim sF s):Sim (stepF E sF) (step E s):=by
 refine⟨λ{rd c t l m x t' m'} ht h=>stepC_sim hs ht h,λ{f args m v m'} h=>?_,λ{k args m v m'} h=>?_⟩
 ·simp only[stepF] at h
  simp only[step]
  cases hp:E.prim f with
  |some p=>
   rw[hp] at h
   simp only[fPrim] at h
   cases hq:p args m with
   |none=>rw[hq] at h;cases h
   |some q=>rw[hq] at h;cases h;simp only[hq]
  |none=>
   rw[hp] at h
   simp only[fCall] at h
   cases hf:fnOf E.P f with
   |none=>rw[hf] at h;cases h
   |some fn=>
    rw[hf] at h
    simp only at h⊢
    have key:∀{x:Exit} {t':TW} {m2:Mem} {l':List Value},x= .normal∨x= .ret->TL t' l'->s (.code none fn.body (args++List.replicate (fn.ntmps-args.length) undef)) m=some (.exit x l',m2)->
      (match resF E.P t' m2 fn.results with|some vs=>some (OutF.val (oneOr vs),m2)|none=>none)=some (OutF.val v,m')->
      (match s (.code none fn.body (args++List.replicate (fn.ntmps-args.length) undef)) m with
       |some (.exit x t',m')=>if x matches .normal| .ret then
         match resA E.P t' m' fn.results with
         |some vs=>some (Out.val (oneOr vs),m')
         |none=>none
        else none
       |_=>none)=some (Out.val v,m'):=by
     intro x t2 m2 l2 hx hl hrun hr
     rw[hrun]
     rw[res_sim hl] at hr
     rcases hx with rfl|rfl
     ·simp only[if_true]
      cases hv:resA E.P l2 m2 fn.results with
      |none=>rw[hv] at hr;cases hr
      |some vs=>rw[hv] at hr;cases hr;rfl
     ·simp only[if_true]
      cases hv:resA E.P l2 m2 fn.results with
      |none=>rw[hv] at hr;cases hr
      |some vs=>rw[hv] at hr;cases hr;rfl
    unfold fRet at h
    split at h
    ·rename_i t2 m2 h1
     obtain⟨l2,g1,g2⟩:=hs.code (ofArgs_list fn.ntmps args) h1
     exact key (.inl rfl) g1 g2 h
    ·rename_i t2 m2 h1
     obtain⟨l2,g1,g2⟩:=hs.code (ofArgs_list fn.ntmps args) h1
     exact key (.inr rfl) g1 g2 h
    ·cases h
 ·simp only[stepF,fRound] at h
  simp only[step]
  split at h
  ·rename_i r hr
   try simp only[hr]
   split at h
   ·rename_i hc
    rw[if_pos hc]
    unfold fRound2 at h
    split at h
    ·rename_i t1 m1 h1
     have h0:TL (TW.ofArgs 0 (setAll r.ps args r.tmps)) (setAll r.ps args r.tmps):=by
      have:=ofArgs_list 0 (setAll r.ps args r.tmps)
      simpa using this
     obtain⟨l1,g1,g2⟩:=hs.code h0 h1
     rw[g2]
     simp only
     split at h
     ·rename_i r1 hr1
      simp only[hr1]
      split at h
      ·rename_i hc1
       rw[if_pos hc1]
       unfold fRound3 at h
       split at h
       ·rename_i x t3 m3 h3
        obtain⟨l3,g3,g4⟩:=hs.code g1 h3
        rw[g4]
        simp only
        split at h
        ·rename_i r3 hr3
         simp only[hr3]
         cases x<;>first|(cases h;rfl)|(cases h;done)
        ·cases h
       ·cases h
      ·cases h
     ·cases h
    ·cases h
   ·cases h
  ·cases h
theorem runF_sim(E:Env):∀n,Sim (runF E n) (run E n)
 |0=>{code:=λ_ h=>(by cases h),call:=λh=>(by cases h),round:=λh=>(by cases h)}
 |n+1=>sim_succ (runF_sim E n)
theorem runF_call{E:Env}{n:Nat}{f:FuncId}{args:List Value}{m m':Mem}{v:Value}(h:runF E n (.call f args) m=some (.val v,m')):run E n (.call f args) m=some (.val v,m'):=(runF_sim E n).call h
def isTrueF:Option (OutF×Mem)->Bool
 |some (.val (.bool true),_)=>true
 |_=>false
theorem isTrueF_run{E:Env}{n:Nat}{f:FuncId}{m:Mem}(h:isTrueF (runF E n (.call f []) m)=true):∃m',run E n (.call f []) m=some (.val (.bool true),m'):=by
 cases hr:runF E n (.call f []) m with
 |none=>rw[hr] at h;cases h
 |some q=>
  obtain⟨o,m'⟩:=q
  rw[hr] at h
  unfold isTrueF at h
  split at h
  ·rename_i e
   cases e
   exact⟨_,runF_call hr⟩
  ·cases h
end
section
variable{σ:Sig}
noncomputable def gMem (g:Nat)(cells:List Value):Mem:=⟨64,Tr.put g .leaf g (some (.cells (.ofList cells) false 1))⟩
theorem gMem_get(g:Nat)(cells:List Value)(b:Nat):(gMem g cells).get b=if b=g then some (.cells (.ofList cells) false 1) else none:=by
 show(Tr.put g .leaf g _).get b=_
 rw[Tr.get_put _ _ _ _ _ (lR' g),Tr.get_leaf]
theorem gMem_sealed(g:Nat)(cells:List Value):Sealed (gMem g cells):=λb o h=>by
 rw[gMem_get] at h
 split at h
 ·cases h;rfl
 ·cases h
theorem gMem_rel{g:Nat}{cells:List Value}{w:World}(hg:g<64)(hne:cells≠ [])(hp:cells.all plain=true)(h:∀(i:Nat) v,cells[i]? =some v->w.cell? ⟨g,i,none⟩=some v):Rel σ ρ0 (gMem g cells) w:=by
 refine⟨(m0_rel (σ:=σ) w).dom,(m0_rel (σ:=σ) w).glob,λb o x hb hx=>?_,λb1 b2 o1 o2 x1 x2 _ h1 _ _ _ hw=>?_,λb hb=>?_⟩
 ·rw[gMem_get] at hb
  split at hb
  ·rename_i hbg
   subst hbg
   cases hb
   have hρ:ρ0 b=some (b,0,0):=by simp[ρ0,hg]
   rw[hρ] at hx
   cases hx
   show CellsRel σ ρ0 w (b,0,0) (ofL cells).list false 1
   rw[Cells.ofList_list]
   obtain⟨v0,hv0⟩:∃v0,cells[0]? =some v0:=by
    cases cells with
    |nil=>exact absurd rfl hne
    |cons v l=>exact⟨v,rfl⟩
   have h0:=h 0 v0 hv0
   unfold World.cell? at h0
   cases hb2:w.heap[b]? with
   |none=>simp[hb2] at h0
   |some ob=>
    cases ob with
    |cells cs' t fz=>
     have hall:∀(i:Nat) v,cells[i]? =some v->cs'[i]? =some v:=λi v hv=>by
      have:=h i v hv
      simpa [World.cell?,hb2] using this
     refine⟨cs',t,fz,hb2,?_,⟨λe=>(by cases e),λ_=>rfl⟩,λi hi=>?_⟩
     ·have hl:cells.length-1<cells.length:=by
       have:=List.length_pos_iff.2 hne
       omega
      have:=hall (cells.length-1) _ (gE' hl)
      have:=(Array.getElem?_eq_some_iff.1 this).1
      simp only
      omega
     ·have h1:=gE' hi
      have h2:=hall i _ h1
      rw[gD',h1,Array.getD_eq_getD_getElem?,Nat.zero_add,h2]
      exact plain_refl ρ0 (List.all_eq_true.1 hp _ (List.getElem_mem hi))
    |_=>simp[hb2] at h0
  ·cases hb
 ·rw[gMem_sealed g cells b1 o1 h1] at hw
  cases hw
 ·rw[gMem_get,if_neg (by simp[gMem] at hb;omega)]
end
section
variable{σ:Sig}
def arrCells(f:DataW Unit->Option (List Value))(k:Nat):List (DataW Unit)->Option (List Value)
 |[]=>some []
 |d::ds=>match f d,arrCells f k ds with
  |some a,some b=>if a.length=k then some (a++b) else none
  |_,_=>none
def strCells(P:Program)(f:TypeId->DataW Unit->Option (List Value)):List Field->List (DataW Unit)->Nat->Option (List Value)
 |[],[],_=>some []
 |x::fs,d::ds,off=>match f x.type d,strCells P f fs ds (off+P.cellsOf x.type) with
  |some a,some b=>if x.offset=off∧a.length=P.cellsOf x.type then some (a++b) else none
  |_,_=>none
 |_,_,_=>none
def dataCells(P:Program):Nat->TypeId->DataW Unit->Option (List Value)
 |0,_,_=>none
 |n+1,t,d=>match P.underlying t,d with
  |some (.int k), .lit (.int j a)=>if k=j then some [.int k a] else none
  |some .bool, .lit (.bool b)=>some [.bool b]
  |some .string, .lit (.string s)=>some [.string ⟨s.toArray⟩]
  |some (.array len e), .agg ds=>if ds.length=len∧P.cellsOf t=len*P.cellsOf e then arrCells (dataCells P n e) (P.cellsOf e) ds else none
  |some (.struct fs), .agg ds=>match strCells P (dataCells P n) fs.toList ds 0 with
   |some l=>if l.length=P.cellsOf t then some l else none
   |none=>none
  |_,_=>none
theorem arr_eq{f:DataW Unit->Option (List Value)}{k:Nat}:∀{ds:List (DataW Unit)} {l cs:List Value},arrCells f k ds=some l->cs.length=ds.length*k->
  (∀(i:Nat) d a,ds[i]? =some d->f d=some a->(cs.drop (i*k)).take k=a)->cs=l
 |[],l,cs,h,hl,_=>by
  simp only[arrCells,sI] at h
  subst h
  exact List.eq_nil_of_length_eq_zero (by simpa using hl)
 |d::ds,l,cs,h,hl,hc=>by
  simp only[arrCells] at h
  split at h
  ·rename_i a b ha hb
   split at h
   ·rename_i hk
    simp only[sI] at h
    subst h
    have h0:cs.take k=a:=by simpa using hc 0 d a (by simp) ha
    have hl':cs.length=ds.length*k+k:=by rw[hl,List.length_cons,Nat.add_mul,Nat.one_mul]
    have h1:cs.drop k=b:=arr_eq hb (by rw[List.length_drop];omega) λi d' a' hd hf=>by
     have:=hc (i+1) d' a' (by simpa using hd) hf
     rw[List.drop_drop]
     rw[Nat.add_mul,Nat.one_mul,Nat.add_comm] at this
     exact this
    rw[<-List.take_append_drop k cs,h0,h1]
   ·cases h
  ·cases h
theorem str_eq{P:Program}{f:TypeId->DataW Unit->Option (List Value)}:∀{fs:List Field} {ds:List (DataW Unit)} {off:Nat} {l cs:List Value},strCells P f fs ds off=some l->cs.length=off+l.length->
  (∀(i:Nat) x d a,fs[i]? =some x->ds[i]? =some d->f x.type d=some a->(cs.drop x.offset).take (P.cellsOf x.type)=a)->cs.drop off=l
 |[],[],off,l,cs,h,hl,_=>by
  simp only[strCells,sI] at h
  subst h
  exact List.drop_eq_nil_of_le (by simpa using Nat.le_of_eq hl)
 |x::fs,d::ds,off,l,cs,h,hl,hc=>by
  simp only[strCells] at h
  split at h
  ·rename_i a b ha hb
   split at h
   ·rename_i hk
    obtain⟨ho,hk⟩:=hk
    simp only[sI] at h
    subst h
    have h0:(cs.drop off).take (P.cellsOf x.type)=a:=by
     have:=hc 0 x d a (by simp) (by simp) ha
     rwa[ho] at this
    rw[aL] at hl
    have h1:cs.drop (off+P.cellsOf x.type)=b:=str_eq hb (by omega) λi x' d' a' hx hd hf=>hc (i+1) x' d' a' (by simpa using hx) (by simpa using hd) hf
    rw[<-List.take_append_drop (P.cellsOf x.type) (cs.drop off),h0,List.drop_drop,h1]
   ·cases h
  ·cases h
 |[],_::_,_,_,_,h,_,_=>by simp[strCells] at h
 |_::_,[],_,_,_,h,_,_=>by simp[strCells] at h
theorem data_eq{P:Program}{W:World}{enc:TypeId×Value->Unit}{base:Nat}{sp:Nat->Bool}{held:Bool}:∀(n:Nat) {t:TypeId} {d:DataW Unit} {l cs:List Value} {fuel:Nat} {p:List MemPlace},
  dataCells P n t d=some l->DataW.trod enc P W base sp held fuel t cs=some (d,p)->cs=l
 |0,t,d,l,cs,fuel,p,h,_=>by simp[dataCells] at h
 |n+1,t,d,l,cs,fuel,p,h,ht=>by
  simp only[dataCells] at h
  split at h
  ·rename_i k j a hu
   split at h
   ·rename_i hkj
    subst hkj
    simp only[sI] at h
    subst h
    obtain⟨x,e1,e2,_⟩:=DataW.trod_int hu ht
    simp only[pI,DataW.lit.injEq,Lit.int.injEq] at e2
    rw[e1,e2.1.2]
   ·cases h
  ·rename_i b hu
   simp only[sI] at h
   subst h
   obtain⟨x,e1,e2⟩:=DataW.trod_bool hu ht
   simp only[pI,DataW.lit.injEq,Lit.bool.injEq] at e2
   rw[e1,e2.1]
  ·rename_i s hu
   simp only[sI] at h
   subst h
   obtain⟨x,e1,e2,_⟩:=DataW.trod_string hu ht
   simp only[pI,DataW.lit.injEq,Lit.string.injEq] at e2
   rw[e1,e2.1]
  ·rename_i len e ds hu
   split at h
   ·rename_i hc
    obtain⟨hc1,hc2⟩:=hc
    obtain⟨xs,m,rfl,hx,hlen,hn,hel⟩:=DataW.trod_array hu ht
    simp only[pI,DataW.agg.injEq] at hx
    refine arr_eq h (by rw[hlen,hc2,hc1]) λi d' a hd hf=>?_
    have hil:i<len:=by rw[<-hc1];exact(List.getElem?_eq_some_iff.1 hd).1
    have h1:(xs.map (·.1))[i]? =some d':=by rw[<-hx.1];exact hd
    rw[gM'] at h1
    cases hxi:xs[i]? with
    |none=>rw[hxi] at h1;cases h1
    |some x=>
     rw[hxi] at h1
     simp only[Option.map_some,sI] at h1
     have h2:=hel i hil
     rw[hxi] at h2
     obtain⟨x1,x2⟩:=x
     simp only at h1
     subst h1
     exact data_eq n hf h2
   ·cases h
  ·rename_i fs ds hu
   split at h
   ·rename_i l' hl'
    split at h
    ·rename_i hlen'
     simp only[sI] at h
     subst h
     obtain⟨xs,m,rfl,hx,hlen,hn,hel⟩:=DataW.trod_struct hu ht
     simp only[pI,DataW.agg.injEq] at hx
     have:=str_eq (cs:=cs) hl' (by rw[hlen,hlen',Nat.zero_add]) λi x d' a hxf hd hf=>?_
     ·simpa using this
     ·have h1:(xs.map (·.1))[i]? =some d':=by rw[<-hx.1];exact hd
      rw[gM'] at h1
      cases hxi:xs[i]? with
      |none=>rw[hxi] at h1;cases h1
      |some y=>
       rw[hxi] at h1
       simp only[Option.map_some,sI] at h1
       have h2:=hel i x (by simpa using hxf)
       rw[hxi] at h2
       obtain⟨y1,y2⟩:=y
       simp only at h1
       subst h1
       exact data_eq n hf h2
    ·cases h
   ·cases h
  ·cases h
def tabsOf(P:Program):List (String×DataW Unit)->Option (List (Nat×List Value))
 |[]=>some []
 |(n,d)::r=>match P.globalNamed n with
  |none=>none
  |some g=>match(P.globals[g]?).map (·.type) with
   |none=>none
   |some t=>match dataCells P 8 t d,tabsOf P r with
    |some (v::l),some tl=>if g<64∧(v::l).all plain=true then some ((g,v::l)::tl) else none
    |_,_=>none
theorem tabs_laid{P:Program}{W:World}:∀{laid:List (String×DataW Unit)} {tabs:List (Nat×List Value)} {ps:List MemPlace},tabsOf P laid=some tabs->DataW.LaidVars P W laid ps->
  ∀q∈tabs,q.1<64∧q.2≠ []∧q.2.all plain=true∧∀(i:Nat) v,q.2[i]? =some v->W.cell? ⟨q.1,i,none⟩=some v
 |[],tabs,ps,h,_=>by
  simp only[tabsOf,sI] at h
  subst h
  intro q hq
  cases hq
 |(n,d)::r,tabs,ps,h,hl=>by
  obtain⟨g0,t0,cs0,f0,p0,q0,hg0,ht0,hv0,hd0,hr,_⟩:=hl
  simp only[tabsOf] at h
  rw[hg0] at h
  simp only at h
  rw[ht0] at h
  simp only at h
  split at h
  ·rename_i v l tl hdc htl
   split at h
   ·rename_i hc
    simp only[sI] at h
    subst h
    intro q hq
    rcases List.mem_cons.1 hq with rfl|hq
    ·refine⟨hc.1,by simp,hc.2,λi u hu=>?_⟩
     have hcs:=data_eq 8 hdc hd0
     rw[World.var?_cell hg0 hv0 i,<-Array.getElem?_toList,hcs]
     exact hu
    ·exact tabs_laid htl hr q hq
   ·cases h
  ·cases h
noncomputable def gMems (tabs:List (Nat×List Value)):Tr AObj:=match tabs with
 |[]=> .leaf
 |(g,l)::r=>Tr.put g (gMems r) g (some (.cells (.ofList l) false 1))
noncomputable def tabMem (tabs:List (Nat×List Value)):Mem:=⟨64,gMems tabs⟩
theorem gMems_get:∀{tabs:List (Nat×List Value)} {b:Nat} {o:AObj},(gMems tabs).get b=some o->∃l,(b,l)∈tabs∧o= .cells (.ofList l) false 1
 |[],b,o,h=>by rw[gMems,Tr.get_leaf] at h;cases h
 |(g,l)::r,b,o,h=>by
  rw[gMems,Tr.get_put _ _ _ _ _ (lR' g)] at h
  split at h
  ·rename_i e
   cases h
   exact⟨l,by simp[e],rfl⟩
  ·obtain⟨l',h1,h2⟩:=gMems_get h
   exact⟨l',List.mem_cons_of_mem _ h1,h2⟩
theorem tabMem_sealed(tabs:List (Nat×List Value)):Sealed (tabMem tabs):=λb o h=>by
 obtain⟨l,_,rfl⟩:=gMems_get (tabs:=tabs) h
 rfl
theorem tabMem_rel{tabs:List (Nat×List Value)}{w:World}(h:∀q∈tabs,q.1<64∧q.2≠ []∧q.2.all plain=true∧∀(i:Nat) v,q.2[i]? =some v->w.cell? ⟨q.1,i,none⟩=some v):Rel σ ρ0 (tabMem tabs) w:=by
 refine⟨(m0_rel (σ:=σ) w).dom,(m0_rel (σ:=σ) w).glob,λb o x hb hx=>?_,λb1 b2 o1 o2 x1 x2 _ h1 _ _ _ hw=>?_,λb hb=>?_⟩
 ·obtain⟨l,hm,rfl⟩:=gMems_get (tabs:=tabs) hb
  obtain⟨q1,q2,q3,q4⟩:=h _ hm
  have:=(gMem_rel (σ:=σ) q1 q2 q3 q4).obj b (.cells (.ofList l) false 1) x (by rw[gMem_get,if_pos rfl]) hx
  exact this
 ·rw[tabMem_sealed tabs b1 o1 h1] at hw
  cases hw
 ·cases hg:(tabMem tabs).get b with
  |none=>rfl
  |some o=>
   obtain⟨l,hm,_⟩:=gMems_get (tabs:=tabs) hg
   have:=(h _ hm).1
   simp[tabMem] at hb
   omega
end
end Go.Ab
namespace Go.Ab
open Go.RowKit Go.ChangeShapes
noncomputable section
section
variable{P:Program}{ρ:Rho}{m M:Mem}{w:World}
def radd(ρ:Rho)(b k off:Nat):Rho:=λy=>if y=b then some (k,off,0) else ρ y
theorem radd_ext(hR:Rel Sig.none ρ m w){k off:Nat}:Ext ρ (radd ρ m.next k off):=λb x hb=>by
 unfold radd
 rw[if_neg (λe=>by rw[e,hR.dom _ (lR' _)] at hb;cases hb)]
 exact hb
theorem get_add{C:Cells}(b:Nat):((m.put m.next (.cells C false 1)).bump 1).get b=if b=m.next then some (.cells C false 1) else m.get b:=by
 rw[gB,gP]
theorem add_nx(hm:Fresh m){C:Cells}:Nx m ((m.put m.next (.cells C false 1)).bump 1):=by
 refine⟨by rw[bN,nP];omega,⟨by rw[bN,nP];have:=hm.n64;omega,λb hb=>?_⟩,λy hy=>?_⟩
 ·rw[bN,nP] at hb
  rw[get_add,if_neg (by omega)]
  exact hm.none b (by omega)
 ·rw[get_add,if_neg (by omega)]
theorem add_sealed(hs:Sealed m){C:Cells}:Sealed ((m.put m.next (.cells C false 1)).bump 1):=λb o hb=>by
 rw[get_add] at hb
 split at hb
 ·cases hb;rfl
 ·exact hs b o hb
theorem add_rel(hR:Rel Sig.none ρ m w)(hs:Sealed m)(hm:Fresh m){C:Cells}{k off:Nat}{cs:Array Value}{t:TypeId}{fz:Nat×Nat}(h1:w.heap[k]? =some (.cells cs t fz))(h2:off+C.n<=cs.size)
  (h3:∀i,i<C.n->plain (C.get i)=true∧cs.getD (off+i) undef=C.get i):Rel Sig.none (radd ρ m.next k off) ((m.put m.next (.cells C false 1)).bump 1) w:=by
 refine⟨λb hb=>?_,λg hg=>?_,λb o x hb hx=>?_,λb1 b2 o1 o2 x1 x2 hne g1 g2 k1 k2 hw=>?_,λb hb=>?_⟩
 ·rw[bN,nP] at hb
  unfold radd
  rw[if_neg (by omega)]
  exact hR.dom b (by omega)
 ·unfold radd
  rw[if_neg (by have:=hm.n64;omega)]
  exact hR.glob g hg
 ·rw[get_add] at hb
  unfold radd at hx
  split at hb
  ·rename_i e
   rw[if_pos e] at hx
   cases hb
   cases hx
   refine⟨cs,t,fz,h1,by rw[Cells.list_length];simpa using h2,⟨λe=>(by cases e),λe=>(by cases e)⟩,λi hi=>?_⟩
   rw[Cells.list_length] at hi
   rw[list_getD _ hi,(h3 i hi).2]
   exact plain_refl _ (h3 i hi).1
  ·rename_i e
   rw[if_neg e] at hx
   exact(hR.obj b o x hb hx).keep (radd_ext hR) rfl
 ·rw[add_sealed hs b1 o1 g1] at hw
  cases hw
 ·rw[(add_nx hm).fresh.none b hb]
theorem open_sl{H:Type}{enc:TypeId×Value->H}{base:Nat}{spare:Nat->Bool}{held:Bool}{t e:TypeId}{sz len cap:Nat}{a:Option Addr}{d:DataW H}{p:List MemPlace}{Q:List Value->Prop}
  (hR:Rel Sig.none ρ m w) (hs:Sealed m) (hm:Fresh m) (ht:P.underlying t=some (.slice e)) (hc:P.cellsOf e=sz) (hsz:0<sz)
  (hQ:∀n l y,DataW.trod enc P w base spare held n e l=some y->Q l∧l.all plain=true)
  (h:DataW.Trod enc P w base spare held t (.slice a len cap) d p) (hn:a=none->len=0∧cap=0) (hle:len<=cap):
  ∃m' ρ' a' C,Rel Sig.none ρ' m' w∧Sealed m'∧Ext ρ ρ'∧Nx m m'∧VRel Sig.none ρ' (.slice a' len C) (.slice a len cap)∧∃els:List (List Value),els.length=len∧(∀x∈els,Q x)∧
   (els=[]∨∃b cs,a'=some ⟨b,0,none⟩∧m'.get b=some (.cells cs false 1)∧∀(i:Nat) x,els[i]? =some x->cs.sub (i*sz) sz=some x):=by
 rcases trod_cells (sz:=sz) ht hc hsz h with rfl|⟨k,off,cs,tt,fz,rfl,h1,h2,h3⟩
 ·cases a with
  |none=>
   obtain⟨_,rfl⟩:=hn rfl
   exact⟨m,ρ,none,0,hR,hs,λ_ _ h=>h,Nx.refl hm, .nilSlice,[],rfl,λx hx=>(by cases hx), .inl rfl⟩
  |some a=>exact⟨m,ρ,some ⟨0,0,some 0⟩,0,hR,hs,λ_ _ h=>h,Nx.refl hm, .lost a cap,[],rfl,λx hx=>(by cases hx), .inl rfl⟩
 ·have hel:∀i,i<len->Q ((List.range sz).map λj=>cs.getD (off+(i*sz+j)) undef)∧((List.range sz).map λj=>cs.getD (off+(i*sz+j)) undef).all plain=true:=λi hi=>by
   obtain⟨n,y,h4⟩:=h3 i hi
   exact hQ n _ y h4
  have hC:∀i,i<len*sz->(ofL ((List.range (len*sz)).map λj=>cs.getD (off+j) undef)).get i=cs.getD (off+i) undef:=λi hi=>by
   rw[get_ofList (by simpa using hi)]
   simp[gD',hi]
  have hCn:(ofL ((List.range (len*sz)).map λj=>cs.getD (off+j) undef)).n=len*sz:=by rw[ofList_n,lM,List.length_range]
  refine⟨_,_,some ⟨m.next,0,none⟩,cap,add_rel hR hs hm (C:=ofL ((List.range (len*sz)).map λj=>cs.getD (off+j) undef)) h1 (by rw[hCn];exact h2) (λi hi=>?_),add_sealed hs,radd_ext hR,add_nx hm,
   .slice (b':=k) (off:=off) (sl:=0) (by simp[radd]) (.inl rfl) hle,(List.range len).map λi=>(List.range sz).map λj=>cs.getD (off+(i*sz+j)) undef,by simp,λx hx=>?_, .inr ⟨m.next,_,rfl,by rw[get_add,if_pos rfl],λi x hx=>?_⟩⟩
  ·rw[hCn] at hi
   rw[hC i hi]
   refine⟨?_,rfl⟩
   have hi1:i/sz<len:=Nat.div_lt_of_lt_mul (by rw[Nat.mul_comm];exact hi)
   have hi2:=Nat.mod_lt i hsz
   have h5:=List.all_eq_true.1 (hel _ hi1).2 (cs.getD (off+(i/sz*sz+i % sz)) undef) (List.mem_map.2 ⟨i % sz,List.mem_range.2 hi2,rfl⟩)
   rwa[Nat.div_add_mod'] at h5
  ·obtain⟨i,hi,rfl⟩:=List.mem_map.1 hx
   exact(hel i (List.mem_range.1 hi)).1
  ·rw[gM'] at hx
   have hi:i<len:=by
    rcases Nat.lt_or_ge i len with h|h
    ·exact h
    ·rw[List.getElem?_eq_none (by simpa using h)] at hx;cases hx
   rw[List.getElem?_range hi] at hx
   cases hx
   have hle2:i*sz+sz<=len*sz:=by rw[<-Nat.succ_mul];exact Nat.mul_le_mul_right _ hi
   refine sub_get (by simp) (by rw[hCn];exact hle2) λj hj=>?_
   rw[hC _ (by omega)]
   simp[gD',hj]
theorem of_all{α β:Type}{f:β->α}:∀{l:List α},(∀x∈l,∃y,x=f y)->∃ys:List β,l=ys.map f
 |[],_=>⟨[],rfl⟩
 |x::l,h=>by
  obtain⟨y,rfl⟩:=h x (by simp)
  obtain⟨ys,rfl⟩:=of_all (l:=l) λz hz=>h z (by simp[hz])
  exact⟨y::ys,rfl⟩
theorem con_drop{f:FuncId}{tabs:List (Nat×List Value)}{m0':Mem}{b:Bool}(h:CallOk Sig.none P f [] (tabMem tabs) (.bool b) m0')(hq:∀q∈tabs,q.1<64∧q.2.all plain=true)
  (hg:∀y o,(tabMem tabs).get y=some o->M.get y=some o):Con P f [] M (.bool b) M:=by
 refine⟨λρ w args' hR ha=>?_,Grow.rfl⟩
 have h0:Rel Sig.none ρ0 (tabMem tabs) w:=by
  refine⟨(m0_rel (σ:=Sig.none) w).dom,(m0_rel (σ:=Sig.none) w).glob,λb o x hb hx=>?_,λb1 b2 o1 o2 x1 x2 _ h1 _ _ _ hw=>?_,λb hb=>?_⟩
  ·obtain⟨l,hm,rfl⟩:=gMems_get (tabs:=tabs) hb
   obtain⟨q1,q2⟩:=hq _ hm
   have hx':ρ0 b=some (b,0,0):=by simp[ρ0,show b<64 from q1]
   rw[hx'] at hx
   cases hx
   obtain⟨cs,t,fz,e1,e2,e3,e4⟩:=hR.obj b _ (b,0,0) (hg b _ hb) (hR.glob b q1)
   refine⟨cs,t,fz,e1,e2,e3,λi hi=>?_⟩
   have hp:plain ((ofL l).list.getD i undef)=true:=by
    rw[Cells.ofList_list] at hi⊢
    exact all_getD q2 hi
   rw[<-plain_eq hp (e4 i hi)]
   exact plain_refl _ hp
  ·rw[tabMem_sealed tabs b1 o1 h1] at hw
   cases hw
  ·cases hgb:(tabMem tabs).get b with
   |none=>rfl
   |some o=>
    obtain⟨l,hm,_⟩:=gMems_get (tabs:=tabs) hgb
    have:=(hq _ hm).1
    simp[tabMem] at hb
    omega
 have ha':LRel Sig.none ρ0 [] args'.toList:=by
  have h1:=ha.1
  have:args'.toList=[]:=List.eq_nil_of_length_eq_zero h1.symm
  rw[this]
  exact LRel.nil _
 refine(h ρ0 w args' h0 ha').mono ?_
 rintro e w' ⟨v',ρ',rfl,hv,hP,_⟩
 rw[hv.bool_inv]
 have still:∀k,k<w.heap.size->w'.heap[k]? =w.heap[k]? :=λk hk=>hP.frame k hk λb o x hb hw _=>by rw[tabMem_sealed tabs b o hb] at hw;cases hw
 refine⟨_,ρ,rfl, .bool _,⟨⟨hR.dom,hR.glob,λb o x hb hx=>(hR.obj b o x hb hx).keep (Ext.refl ρ) (still _ (hR.obj b o x hb hx).lt),hR.inj,hR.fresh⟩,Ext.refl ρ,lR' _,hP.size,hP.os,hP.tape,hP.output,λk hk _=>still k hk,λb o x hb hx _=>⟨b,o,x,hb,hx,rfl,id⟩⟩,λ_ _ h=>h⟩
end
end
end Go.Ab
namespace Go.Ab
open Go.Proofs Go.RowKit Go.ChangeShapes
noncomputable section
set_option maxRecDepth 10000
section
variable{H:Type}{enc:TypeId×Value->H}{P:Program}{W:World}{base:Nat}{spare:Nat->Bool}{held:Bool}{v:Value}{d:DataW H}{p:List MemPlace}{r:Reach}{b0:Nat}{ρ:Rho}{m:Mem}
theorem trod_flds{t:TypeId}{fs:Array Field}{L:List (TypeId×Nat)}{n:Nat}{cs:List Value}{y:DataW H×List MemPlace}(hu:P.underlying t=some (.struct fs))(hf:fs.toList.map (λf=>(f.type,f.offset))=L)(h:DataW.trod enc P W base spare held n t cs=some y):
  ∃k,cs.length=P.cellsOf t∧∀(i:Nat) ty o,L[i]? =some (ty,o)->∃z,DataW.trod enc P W base spare held k ty ((cs.drop o).take (P.cellsOf ty))=some z:=by
 obtain⟨xs,k,_,_,hlen,hxs,hfs⟩:=DataW.trod_struct hu h
 refine⟨k,hlen,λi ty o hi=>?_⟩
 rw[<-hf,gM'] at hi
 cases hfi:fs.toList[i]? with
 |none=>rw[hfi] at hi;cases hi
 |some f=>
  rw[hfi] at hi
  simp only[Option.map_some,sI,pI] at hi
  obtain⟨rfl,rfl⟩:=hi
  have hlt:i<xs.length:=by
   have:=(List.getElem?_eq_some_iff.1 hfi).1
   simp at this
   omega
  have:=hfs i f (by simpa using hfi)
  rw[gE' hlt] at this
  exact⟨_,this⟩
theorem u32_of{n:Int}(hw:(Lit.int .u32 n).wf=true):∃a:BitVec 32,(Value.int .u32 n)=Um a:=by
 have h1:0<=n∧n<=4294967295:=by
  simp[Lit.wf,IntKind.min,IntKind.max,IntKind.signed,IntKind.bits] at hw
  omega
 refine⟨BitVec.ofNat 32 n.toNat,?_⟩
 rw[Um,BitVec.toNat_ofNat]
 congr 1
 omega
theorem slice_in{t e:TypeId}{n:Nat}{cs:List Value}{y:DataW H×List MemPlace}(hu:P.underlying t=some (.slice e))(h:DataW.trod enc P W base spare held n t cs=some y):∃a len cap,cs=[.slice a len cap]∧(a=none->len=0∧cap=0)∧len<=cap∧∃d p,DataW.Trod enc P W base spare held t (.slice a len cap) d p:=by
 have h0:=h
 rcases DataW.trod_slice hu h with⟨e,_⟩|⟨a,len,cap,_,_,_,_,e,_,_,hle,_⟩
 ·subst e
  exact⟨none,0,0,rfl,λ_=>⟨rfl,rfl⟩,lR' _,y.1,y.2,n,h0⟩
 ·subst e
  exact⟨some a,len,cap,rfl,λe=>(by cases e),hle,y.1,y.2,n,h0⟩
theorem Q.u3:Tryz.prog.underlying 3=some (.int .i64):=kr
theorem Q.u36:Tryz.prog.underlying 36=some (.int .u32):=kr
theorem Q.u9:Tryz.prog.underlying 9=some .string:=kr
theorem Q.u22:Tryz.prog.underlying 22=some (.slice 36):=kr
theorem Q.u25:Tryz.prog.underlying 25=some (.slice 38):=kr
theorem Q.u24:Tryz.prog.underlying 24=some (.struct (Tryz.prog.fieldsOf 24)):=kr
theorem Q.u38:Tryz.prog.underlying 38=some (.struct (Tryz.prog.fieldsOf 38)):=kr
theorem Q.f24:(Tryz.prog.fieldsOf 24).toList.map (λf=>(f.type,f.offset))=[(3,0),(3,1),(3,2),(3,3),(22,4)]:=kr
theorem Q.f38:(Tryz.prog.fieldsOf 38).toList.map (λf=>(f.type,f.offset))=[(3,0),(3,1),(3,2),(3,3),(3,4),(36,5),(9,6)]:=kr
theorem Q.c:Tryz.prog.cellsOf 3=1∧Tryz.prog.cellsOf 36=1∧Tryz.prog.cellsOf 9=1∧Tryz.prog.cellsOf 22=1∧Tryz.prog.cellsOf 24=5∧Tryz.prog.cellsOf 38=7:=⟨kr,kr,kr,kr,kr,kr⟩
theorem trod_op{n:Nat}{l:List Value}{y:DataW H×List MemPlace}(h:DataW.trod enc Tryz.prog W base spare held n 38 l=some y):(∃o:OpR,l=opL o)∧l.all plain=true:=by
 obtain⟨k,hl,hk⟩:=trod_flds Q.u38 Q.f38 h
 obtain⟨c3,c36,c9,_,_,c38⟩:=Q.c
 rw[c38] at hl
 obtain⟨z0,h0⟩:=hk 0 3 0 rfl
 obtain⟨z1,h1⟩:=hk 1 3 1 rfl
 obtain⟨z2,h2⟩:=hk 2 3 2 rfl
 obtain⟨z3,h3⟩:=hk 3 3 3 rfl
 obtain⟨z4,h4⟩:=hk 4 3 4 rfl
 obtain⟨z5,h5⟩:=hk 5 36 5 rfl
 obtain⟨z6,h6⟩:=hk 6 9 6 rfl
 rw[c3] at h0 h1 h2 h3 h4
 rw[c36] at h5
 rw[c9] at h6
 match l,hl with
 |[x0,x1,x2,x3,x4,x5,x6],_=>
  simp only[List.drop_succ_cons,List.drop_zero,List.take_succ_cons,List.take_zero] at h0 h1 h2 h3 h4 h5 h6
  obtain⟨n0,e0,_⟩:=DataW.trod_int Q.u3 h0
  obtain⟨n1,e1,_⟩:=DataW.trod_int Q.u3 h1
  obtain⟨n2,e2,_⟩:=DataW.trod_int Q.u3 h2
  obtain⟨n3,e3,_⟩:=DataW.trod_int Q.u3 h3
  obtain⟨n4,e4,_⟩:=DataW.trod_int Q.u3 h4
  obtain⟨n5,e5,_,w5⟩:=DataW.trod_int Q.u36 h5
  obtain⟨s,e6,_⟩:=DataW.trod_string Q.u9 h6
  obtain⟨a,ea⟩:=u32_of w5
  simp only[List.cons.injEq,and_true] at e0 e1 e2 e3 e4 e5 e6
  subst e0 e1 e2 e3 e4 e5 e6
  exact⟨⟨⟨n0,n1,n2,n3,n4,a,s⟩,by rw[ea];rfl⟩,rfl⟩
theorem trod_w{n:Nat}{l:List Value}{y:DataW H×List MemPlace}(h:DataW.trod enc Tryz.prog W base spare held n 36 l=some y):(∃a:BitVec 32,l=[Um a])∧l.all plain=true:=by
 obtain⟨n5,e5,_,w5⟩:=DataW.trod_int Q.u36 h
 obtain⟨a,ea⟩:=u32_of w5
 subst e5
 exact⟨⟨a,by rw[ea]⟩,rfl⟩
theorem open_opsR(hR:Rel Sig.none ρ m W)(hs:Sealed m)(hm:Fresh m)(hval:Value.okWide Tryz.prog W r b0 25 v)(h:DataW.Trod enc Tryz.prog W base spare held 25 v d p):
  ∃m' ρ' w l,Rel Sig.none ρ' m' W∧Sealed m'∧Ext ρ ρ'∧Nx m m'∧VRel Sig.none ρ' w v∧OpsAt m' w l:=by
 obtain⟨a,len,cap,rfl⟩:=WideShapes.okWide_slice Q.u25 hval
 obtain⟨n,h⟩:=h
 obtain⟨a',len',cap',e,hn,hle,d',p',h'⟩:=slice_in Q.u25 h
 simp only[Value.cells,List.cons.injEq,and_true,Value.slice.injEq] at e
 obtain⟨rfl,rfl,rfl⟩:=e
 obtain⟨m',ρ',a',C,h1,h2,h3,h4,h5,els,e1,e2,e3⟩:=open_sl hR hs hm Q.u25 Q.c.2.2.2.2.2 (by decide) (λn l y=>trod_op) h' hn hle
 obtain⟨ys,rfl⟩:=of_all e2
 rw[lM] at e1
 refine⟨m',ρ',_,ys,h1,h2,h3,h4,h5,a',C,by rw[e1],?_⟩
 rcases e3 with e3|⟨b,cs,f1,f2,f3⟩
 ·exact .inl (List.map_eq_nil_iff.1 e3)
 ·exact .inr ⟨b,cs,_,_,f1,f2,λi o ho=>f3 i _ (by rw[gM',ho];rfl)⟩
theorem open_boot(hR:Rel Sig.none ρ m W)(hs:Sealed m)(hm:Fresh m)(hval:Value.okWide Tryz.prog W r b0 24 v)(h:DataW.Trod enc Tryz.prog W base spare held 24 v d p):
  ∃m' ρ' b pv,Rel Sig.none ρ' m' W∧Sealed m'∧Ext ρ ρ'∧Nx m m'∧VRel Sig.none ρ' (.agg (bootL b pv).toArray) v∧ProgAt m' pv b.prog:=by
 obtain⟨cs,rfl,hsz⟩:=WideShapes.okWide_struct Q.u24 hval
 obtain⟨n,h⟩:=h
 obtain⟨k,hl,hk⟩:=trod_flds Q.u24 Q.f24 h
 obtain⟨c3,_,_,c22,c24,_⟩:=Q.c
 rw[c24] at hl
 obtain⟨z0,h0⟩:=hk 0 3 0 rfl
 obtain⟨z1,h1⟩:=hk 1 3 1 rfl
 obtain⟨z2,h2⟩:=hk 2 3 2 rfl
 obtain⟨z3,h3⟩:=hk 3 3 3 rfl
 obtain⟨z4,h4⟩:=hk 4 22 4 rfl
 rw[c3] at h0 h1 h2 h3
 rw[c22] at h4
 rw[show(Value.agg cs).cells=cs from rfl] at hl h0 h1 h2 h3 h4
 obtain⟨l⟩:=cs
 simp only at hl h0 h1 h2 h3 h4
 match l,hl with
 |[x0,x1,x2,x3,x4],_=>
  simp only[List.drop_succ_cons,List.drop_zero,List.take_succ_cons,List.take_zero] at h0 h1 h2 h3 h4
  obtain⟨n0,e0,_⟩:=DataW.trod_int Q.u3 h0
  obtain⟨n1,e1,_⟩:=DataW.trod_int Q.u3 h1
  obtain⟨n2,e2,_⟩:=DataW.trod_int Q.u3 h2
  obtain⟨n3,e3,_⟩:=DataW.trod_int Q.u3 h3
  obtain⟨a,len,cap,e4,hn,hle,d',p',h'⟩:=slice_in Q.u22 h4
  simp only[List.cons.injEq,and_true] at e0 e1 e2 e3 e4
  subst e0 e1 e2 e3 e4
  obtain⟨m',ρ',a',C,g1,g2,g3,g4,g5,els,e1,e2,e3⟩:=open_sl hR hs hm Q.u22 Q.c.2.1 (by decide) (λn l y=>trod_w) h' hn hle
  obtain⟨ys,rfl⟩:=of_all e2
  rw[lM] at e1
  refine⟨m',ρ',⟨n0,n1,n2,n3,ys⟩, .slice a' len C,g1,g2,g3,g4,LRel.agg (LRel.cons (.int _ _) (LRel.cons (.int _ _) (LRel.cons (.int _ _) (LRel.cons (.int _ _) (LRel.cons g5 (LRel.nil _)))))),a',C,by rw[e1],?_⟩
  rcases e3 with e3|⟨b,cs,f1,f2,f3⟩
  ·exact .inl (List.map_eq_nil_iff.1 e3)
  ·refine .inr ⟨b,cs,_,_,f1,f2,λi o ho=>?_⟩
   have:=f3 i _ (by rw[gM',ho];rfl)
   have:=sub_nth this (k:=0) (by decide)
   simpa using this
theorem stays_p{t:TypeId}(hr:Tryz.prog.readableRec t=true)(ht:t<Tryz.prog.types.size){W W':World}(h:DataW.Trod enc Tryz.prog W 0 (λ_=>true) true t v d p)(hb:Below W.heap.size W W'):
  DataW.Trod enc Tryz.prog W' 0 (λb=>decide (b<W.heap.size)) true t v d p:=
 Below.trod kr hr ht h hb (λx hx=>by obtain⟨n,h⟩:=h;exact DataW.trod_lt n _ _ _ h x hx)
end
end
end Go.Ab
namespace Go.Ab
open Go.Proofs
noncomputable section
set_option maxRecDepth 10000
def eP(p:Proc):Proc:={p with aff:=0#32}
def eX(X:St):St:={X with cores:=0,P:=X.P.map eP}
section
variable{X Y:St}{i j k n:Nat}{pid g c:Int}{v a b:BitVec 32}{r:Proc}
theorem eX_p:(eX X).p i=eP (X.p i):=by
 show(X.P.map eP).getD i proc0=eP (X.P.getD i proc0)
 rw[gD',gD',gM']
 cases X.P[i]? <;>rfl
theorem eP_fds:(eP r).fds=r.fds:=rfl
theorem eX_set:(eX X).P.set i (eP r)=(X.P.set i r).map eP:=(List.map_set).symm
theorem e_setP:eX {X with P:=X.P.set i r}={eX X with P:=(eX X).P.set i (eP r)}:=by
 rw[eX_set];rfl
theorem e_fold{α:Type}{f:St->α->St}(h:∀X a,eX (f X a)=f (eX X) a):∀{l:List α} {X:St},eX (l.foldl f X)=l.foldl f (eX X)
 |[],_=>rfl
 |a::l,X=>by
  show eX (l.foldl f (f X a))=l.foldl f (f (eX X) a)
  rw[e_fold h,h]
theorem e_see:eX (seeX X i g c v)=seeX (eX X) i g c v:=by unfold seeX;rw[eX_p];rfl
theorem e_answer:eX (answerX X i v)=answerX (eX X) i v:=by unfold answerX;rw[e_see,e_setP,eX_p];rfl
theorem e_code:eX (codeX X i c)=codeX (eX X) i c:=e_answer
theorem e_ready:eX (readyX X i)=readyX (eX X) i:=by
 unfold readyX
 rw[eX_p,show readyP (eP (X.p i))=eP (readyP (X.p i)) from rfl,eX_set];rfl
theorem e_find:findX (eX X) pid=findX X pid:=by
 unfold findX
 show X.l.find? _=_
 congr 1;funext i;rw[eX_p];rfl
theorem e_live:liveX (eX X) pid=liveX X pid:=by
 unfold liveX
 rw[e_find]
 cases findX X pid with
 |none=>rfl
 |some i=>simp only[eX_p];rfl
theorem e_at:atX (eP r) a=atX r a:=rfl
theorem e_wkB{w:Int}:wkB w n (eX X) i=wkB w n X i:=by unfold wkB;rw[eX_p];rfl
theorem e_ite{p:Prop} [Decidable p]{A B:St}:eX (if p then A else B)=if p then eX A else eX B:=by split<;>rfl
theorem e_wake{w:Int}:eX (wakeX X w n)=wakeX (eX X) w n:=by
 unfold wakeX wakeI
 exact e_fold λX i=>by rw[e_ite,e_wkB,e_ready]
theorem e_unmap:eX (unmapX X i k)=unmapX (eX X) i k:=by
 unfold unmapX
 rw[eX_p]
 show _=(match(X.p i).pages.getD k none with|none=>eX X|some g=>_)
 cases(X.p i).pages.getD k none with
 |none=>rfl
 |some g=>simp only[];rw[show({eP (X.p i) with pages:=(eP (X.p i)).pages.set k none}:Proc)=eP {X.p i with pages:=(X.p i).pages.set k none} from rfl,eX_set];rfl
theorem e_unmaps{l:List Nat}:eX (unmapsX X i l)=unmapsX (eX X) i l:=e_fold λ_ _=>e_unmap
theorem e_stretch{t:Bool}:stretchX (eP r) n k t=stretchX r n k t:=rfl
theorem e_unmapPages:eX (unmapPagesX X i n k).1=(unmapPagesX (eX X) i n k).1∧(unmapPagesX X i n k).2=(unmapPagesX (eX X) i n k).2:=by
 unfold unmapPagesX
 rw[eX_p,e_stretch]
 split
 ·exact⟨e_unmaps,rfl⟩
 ·exact⟨rfl,rfl⟩
theorem e_child:eX (childX X pid)=childX (eX X) pid:=by
 unfold childX
 rw[e_live]
 cases liveX X pid with
 |none=>rfl
 |some i=>simp only[];rw[e_ite,e_ready,eX_p];rfl
theorem e_post:eX (postX X pid g)=postX (eX X) pid g:=by
 unfold postX
 rw[e_live]
 cases liveX X pid with
 |none=>rfl
 |some i=>
  simp only[]
  rw[e_ite,e_ready,e_code,e_setP,eX_p];rfl
theorem e_dropC:eX (dropC X n)=dropC (eX X) n:=by unfold dropC;rw[e_ite];rfl
theorem e_drop:eX (dropX X n)=dropX (eX X) n:=by
 unfold dropX
 rw[e_ite,e_ite,e_dropC,e_dropC,e_ite,e_ite,e_wake,e_wake];rfl
theorem e_dead:eX (deadX X i v)=deadX (eX X) i v:=by unfold deadX;rw[e_setP,eX_p];rfl
theorem e_exitA:eX (exitA X i v)=exitA (eX X) i v:=by
 unfold exitA unmapAllX
 rw[e_unmaps,e_dead,e_ready,e_see]
theorem e_close{o:Option Nat}:eX (closeX X i k o)=closeX (eX X) i k o:=by
 cases o with
 |none=>unfold closeX;rw[e_setP,eX_p];rfl
 |some x=>unfold closeX;rw[e_drop,e_setP,eX_p];rfl
theorem e_closes{F:List (Option Nat)}{l:List Nat}:eX (closesX X i F l)=closesX (eX X) i F l:=e_fold λ_ _=>e_close
theorem e_exitC:eX (exitC X i v)=exitC (eX X) i v:=by
 unfold exitC
 rw[e_closes,<-e_exitA,eX_p,eP_fds]
theorem e_orphS{Z:St×Bool}:(eX (orphS i Z j).1,(orphS i Z j).2)=orphS i (eX Z.1,Z.2) j:=by
 unfold orphS
 simp only[eX_p]
 show _=if(Z.1.p j).parent=(Z.1.p i).pid then _ else _
 split
 ·simp only[e_setP];rfl
 ·rfl
theorem e_orphI:∀{l:List Nat} {Z:St×Bool},(eX (orphI i l Z).1,(orphI i l Z).2)=orphI i l (eX Z.1,Z.2)
 |[],_=>rfl
 |a::l,Z=>by
  show(eX (orphI i l (orphS i Z a)).1,(orphI i l (orphS i Z a)).2)=orphI i l (orphS i (eX Z.1,Z.2) a)
  rw[e_orphI,e_orphS]
theorem e_exitD{Z:St×Bool}:eX (exitD Z i)=exitD (eX Z.1,Z.2) i:=by
 unfold exitD
 simp only[e_child,e_ite]
 have h:(if Z.2=true then childX (eX Z.1) 1 else eX Z.1)=eX (if Z.2=true then childX Z.1 1 else Z.1):=by rw[e_ite,e_child]
 rw[h,eX_p];rfl
theorem e_exitB:eX (exitB X i)=exitB (eX X) i:=by
 unfold exitB
 rw[e_ite,e_post,e_exitD]
 have h:(eX (orphI i X.l (X,false)).1,(orphI i X.l (X,false)).2)=orphI i (eX X).l (eX X,false):=e_orphI
 rw[h,<-h,<-e_exitD,eX_p,eX_p];rfl
theorem e_exit:eX (exitX X i v)=exitX (eX X) i v:=by unfold exitX;rw[e_exitB,e_exitC]
theorem e_byte:byteX (eX X) i a=byteX X i a:=by unfold byteX;rw[eX_p];rfl
theorem e_read:∀{k:Nat},readX (eX X) i a k=readX X i a k
 |0=>rfl
 |k+1=>by unfold readX;rw[e_read];simp only[e_byte]
theorem e_word:wordX (eX X) i a=wordX X i a:=by unfold wordX;rw[e_read]
theorem e_need:∀{k:Nat},needX (eX X) i a k=needX X i a k
 |0=>rfl
 |k+1=>by unfold needX;rw[e_need];simp only[eX_p];rfl
theorem e_putB{y:BitVec 8}:eX (putB X i a k y)=putB (eX X) i a k y:=by
 unfold putB
 rw[eX_p,e_at]
 cases atX (X.p i) (a+BitVec.ofNat 32 k) with
 |none=>rfl
 |some g=>
  simp only[]
  show eX (putG (if shr1 X g=true then splitX X g else X) g _ y)=putG (if shr1 X g=true then splitX (eX X) g else eX X) g _ y
  split<;>rfl
theorem e_puts{l:List (BitVec 8)}:∀{k:Nat},eX (putsX X i a l k)=putsX (eX X) i a l k
 |0=>rfl
 |k+1=>by unfold putsX;rw[e_putB,e_puts]
theorem e_write{l:List (BitVec 8)}:eX (writeX X i a l).1=(writeX (eX X) i a l).1∧(writeX X i a l).2=(writeX (eX X) i a l).2:=by
 unfold writeX
 rw[e_need]
 cases needX X i a l.length with
 |none=>exact⟨rfl,rfl⟩
 |some p=>
  simp only[]
  show eX (if IntKind.i64.wrap (X.frames-X.contents)<(p.1:Int) then(X,(12:Int)) else(putsX X i a l l.length,0)).1=(if IntKind.i64.wrap (X.frames-X.contents)<(p.1:Int) then(eX X,(12:Int)) else(putsX (eX X) i a l l.length,0)).1∧_=(if IntKind.i64.wrap (X.frames-X.contents)<(p.1:Int) then(eX X,(12:Int)) else(putsX (eX X) i a l l.length,0)).2
  split
  ·exact⟨rfl,rfl⟩
  ·exact⟨e_puts,rfl⟩
theorem e_map{w s:Bool}:eX (mapX X i k w s)=mapX (eX X) i k w s:=by
 unfold mapX
 rw[eX_p,show({eP (X.p i) with pages:=(eP (X.p i)).pages.set k (some (eX X).G.length)}:Proc)=eP {X.p i with pages:=(X.p i).pages.set k (some X.G.length)} from rfl,eX_set];rfl
theorem e_maps{w s:Bool}{l:List Nat}:eX (mapsX X i w s l)=mapsX (eX X) i w s l:=e_fold λ_ _=>e_map
theorem e_mapPages{f:BitVec 32}:eX (mapPagesX X i a b f).1=(mapPagesX (eX X) i a b f).1∧(mapPagesX X i a b f).2=(mapPagesX (eX X) i a b f).2:=by
 unfold mapPagesX
 rw[eX_p,e_stretch]
 split
 ·exact⟨rfl,rfl⟩
 ·show eX (if IntKind.i64.wrap (X.frames-X.contents)<(b.toNat:Int) then(X,(12:Int)) else(mapsX X i _ _ _,0)).1=(if IntKind.i64.wrap (X.frames-X.contents)<(b.toNat:Int) then(eX X,(12:Int)) else(mapsX (eX X) i _ _ _,0)).1∧_=(if IntKind.i64.wrap (X.frames-X.contents)<(b.toNat:Int) then(eX X,(12:Int)) else(mapsX (eX X) i _ _ _,0)).2
  split
  ·exact⟨rfl,rfl⟩
  ·exact⟨e_maps,rfl⟩
theorem e_cloneS{o:Option Nat}:eX (cloneS X j k o)=cloneS (eX X) j k o:=by
 cases o with
 |none=>rfl
 |some g=>
  unfold cloneS clone1
  rw[eX_p,show({eP (X.p j) with pages:=(eP (X.p j)).pages.set k (some (eX X).G.length)}:Proc)=eP {X.p j with pages:=(X.p j).pages.set k (some X.G.length)} from rfl,eX_set];rfl
theorem e_cloneI{F:List (Option Nat)}{l:List Nat}:eX (cloneI X j F l)=cloneI (eX X) j F l:=e_fold λ_ _=>e_cloneS
theorem e_shareS{o:Option Nat}:eX (shareS X o)=shareS (eX X) o:=by cases o<;>rfl
theorem e_shares{F:List (Option Nat)}{l:List Nat}:eX (sharesX X F l)=sharesX (eX X) F l:=e_fold λ_ _=>e_shareS
theorem e_forkA:eX (forkA X i)=forkA (eX X) i:=by
 have h:child0 (eX X) i=eP (child0 X i):=by unfold child0;rw[eX_p];rfl
 unfold forkA
 rw[h]
 show{X with cores:=0,P:=(X.P++ [child0 X i]).map eP,next:=IntKind.i64.wrap (X.next+1)}={X with cores:=0,P:=X.P.map eP++ [eP (child0 X i)],next:=IntKind.i64.wrap (X.next+1)}
 rw[List.map_append];rfl
theorem e_P:(eX X).P.length=X.P.length:=lM _
theorem e_forkB:eX (forkB X i)=forkB (eX X) i:=by
 unfold forkB
 rw[e_cloneI,e_forkA,e_P,<-e_forkA,eX_p];rfl
theorem e_forkC:eX (forkC X j)=forkC (eX X) j:=by
 unfold forkC
 rw[e_shares,eX_p];rfl
theorem e_forkD:eX (forkD X j)=forkD (eX X) j:=by unfold forkD;rw[e_setP,eX_p];rfl
theorem e_forkE:eX (forkE X j)=forkE (eX X) j:=rfl
theorem e_forkF:eX (forkF X i j)=forkF (eX X) i j:=by unfold forkF;rw[e_answer,eX_p];rfl
theorem e_fork:eX (forkX X i)=forkX (eX X) i:=by
 unfold forkX
 rw[e_ite,e_code,e_forkF,e_forkE,e_forkD,e_forkC,e_forkB,e_P];rfl
theorem e_wc:wcI (eX X) i=wcI X i:=by
 unfold wcI wcB
 simp only[eX_p];rfl
theorem e_wz:wzI (eX X) i=wzI X i:=by
 unfold wzI wzB
 simp only[eX_p];rfl
theorem e_waitB{W:St×Int}:eX (waitB W i k)=waitB (eX W.1,W.2) i k:=by
 unfold waitB
 rw[e_ite,e_answer,e_code]
 simp only[eX_p];rfl
theorem e_wait:eX (waitX X i a)=waitX (eX X) i a:=by
 unfold waitX
 rw[e_wc,e_wz,e_ite,e_ite,e_code,e_waitB,e_setP]
 have h:(if a=0#32 then(eX X,(0:Int)) else writeX (eX X) i a (wordB ((eX X).p ((eX X).l.getD (wzI X i).toNat 0)).status))=(eX (if a=0#32 then(X,(0:Int)) else writeX X i a (wordB (X.p (X.l.getD (wzI X i).toNat 0)).status)).1,(if a=0#32 then(X,(0:Int)) else writeX X i a (wordB (X.p (X.l.getD (wzI X i).toNat 0)).status)).2):=by
  split
  ·rfl
  ·rw[e_write.1,e_write.2,eX_p];rfl
 rw[h,eX_p];rfl
end
end
end Go.Ab
