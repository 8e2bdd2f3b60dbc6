/- Part. -/
import Derived.OrdersIn
import Derived.RangeFuncRecord
import GoSem.Dispatch
import Derived.MapKept
set_option linter.all false
open List renaming getD_eq_getElem?_getD → gD', getElem?_eq_getElem → gE', append_assoc → aA, getElem?_append_left → aB', getElem?_append_right → aC', getElem?_map → gM'
open Option.some renaming injEq → sI
open Prod.mk renaming injEq → pI
open Nat renaming lt_of_lt_of_le → lL, le_refl → lR', le_trans → lT
open Option renaming map_eq_some_iff → mE
namespace Go.Ab
noncomputable section
inductive Tr (α:Type) where
 |leaf
 |node (v:Option α) (l r:Tr α)
inductive Pa|e|o (p:Pa)|i (p:Pa)
 deriving DecidableEq
def pa:Nat->Nat->Pa
 |0,_=> .e
 |f+1,n=>bif Nat.beq n 0 then .e else bif Nat.beq (Nat.mod n 2) 1 then .o (pa f (Nat.div n 2)) else .i (pa f (Nat.sub (Nat.div n 2) 1))
def zjV{α:Type}(t:Tr α):Pa->Option α:=
 Tr.rec (motive:=λ_=>Pa->Option α) (λ_=>none) (λv _ _ gl gr p=>Pa.rec (motive:=λ_=>Option α) v (λp' _=>gl p') (λp' _=>gr p') p) t
def zpJ{α:Type}(v:Option α)(p:Pa):Tr α->Tr α:=
 Pa.rec (motive:=λ_=>Tr α->Tr α)
  (λt=>Tr.rec (motive:=λ_=>Tr α) (.node v .leaf .leaf) (λ_ l r _ _=> .node v l r) t)
  (λ_ ih t=>Tr.rec (motive:=λ_=>Tr α) (.node none (ih .leaf) .leaf) (λw l r _ _=> .node w (ih l) r) t)
  (λ_ ih t=>Tr.rec (motive:=λ_=>Tr α) (.node none .leaf (ih .leaf)) (λw l r _ _=> .node w l (ih r)) t) p
theorem zc2{α:Type}:∀p:Pa,zjV (.leaf:Tr α) p=none
 | .e=>rfl
 | .o _=>rfl
 | .i _=>rfl
theorem zdB{α:Type}(v:Option α):∀(p q:Pa) (t:Tr α),zjV (zpJ v p t) q=if q=p then v else zjV t q
 | .e,q,t=>by cases t<;>cases q<;>simp[zpJ,zjV]
 | .o p,q,t=>by
   cases t with
   |leaf=>cases q with
    |o q=>show zjV (zpJ v p .leaf) q=_;rw[zdB v p q,zc2,zc2];simp
    |_=>simp[zpJ,zjV]
   |node w l r=>cases q with
    |o q=>
     show zjV (zpJ v p l) q=if Pa.o q=Pa.o p then v else zjV l q
     rw[zdB v p q];simp
    |_=>simp[zpJ,zjV]
 | .i p,q,t=>by
   cases t with
   |leaf=>cases q with
    |i q=>show zjV (zpJ v p .leaf) q=_;rw[zdB v p q,zc2,zc2];simp
    |_=>simp[zpJ,zjV]
   |node w l r=>cases q with
    |i q=>
     show zjV (zpJ v p r) q=if Pa.i q=Pa.i p then v else zjV r q
     rw[zdB v p q];simp
    |_=>simp[zpJ,zjV]
theorem znR:∀(f g n k:Nat),n<=f->k<=g->pa f n=pa g k->n=k
 |0,0,n,k,hn,hk,_=>by omega
 |0,g+1,n,k,hn,hk,h=>by
  have hn0:n=0:=by omega
  simp only[pa] at h;cases h0:Nat.beq k 0 with
  |true=>have:=Nat.eq_of_beq_eq_true h0;omega
  |false=>rw[h0] at h;cases h1:Nat.beq (k.mod 2) 1<;>rw[h1] at h<;>cases h
 |f+1,0,n,k,hn,hk,h=>by
  have hk0:k=0:=by omega
  simp only[pa] at h;cases h0:Nat.beq n 0 with
  |true=>have:=Nat.eq_of_beq_eq_true h0;omega
  |false=>rw[h0] at h;cases h1:Nat.beq (n.mod 2) 1<;>rw[h1] at h<;>cases h
 |f+1,g+1,n,k,hn,hk,h=>by
  simp only[pa] at h;cases h0:Nat.beq n 0 with
  |true=>
   rw[h0] at h;have h0:=Nat.eq_of_beq_eq_true h0;cases h1:Nat.beq k 0 with
   |true=>have:=Nat.eq_of_beq_eq_true h1;omega
   |false=>rw[h1] at h;cases h2:Nat.beq (k.mod 2) 1<;>rw[h2] at h<;>cases h
  |false=>
   rw[h0] at h;have hn0:n≠0:=λe=>by subst e;cases h0
   cases h1:Nat.beq k 0 with
   |true=>rw[h1] at h;cases h2:Nat.beq (n.mod 2) 1<;>rw[h2] at h<;>cases h
   |false=>
    rw[h1] at h;have hk0:k≠0:=λe=>by subst e;cases h1
    have em:∀x:Nat,x.mod 2=x % 2:=λ_=>rfl;have ed:∀x:Nat,x.div 2=x/2:=λ_=>rfl;have es:∀x y:Nat,x.sub y=x-y:=λ_ _=>rfl;cases h2:Nat.beq (n.mod 2) 1 with
    |true=>
     rw[h2] at h;have h2:=Nat.eq_of_beq_eq_true h2;rw[em] at h2;cases h3:Nat.beq (k.mod 2) 1 with
     |true=>rw[h3] at h;have h3:=Nat.eq_of_beq_eq_true h3;rw[em] at h3;simp only[cond_true,cond_false,Pa.o.injEq,ed] at h;have:=znR f g (n/2) (k/2) (by omega) (by omega) h;omega
     |false=>rw[h3] at h;simp at h
    |false=>
     rw[h2] at h;have h2':n % 2≠1:=λe=>by rw[<-em] at e;rw[e] at h2;cases h2
     cases h3:Nat.beq (k.mod 2) 1 with
     |true=>rw[h3] at h;simp at h
     |false=>
      rw[h3] at h;have h3':k % 2≠1:=λe=>by rw[<-em] at e;rw[e] at h3;cases h3
      simp only[cond_false,Pa.i.injEq,ed,es] at h;have:=znR f g (n/2-1) (k/2-1) (by omega) (by omega) h;omega
namespace Tr
variable{α:Type}
def get(t:Tr α)(n:Nat):Option α:=zjV t (pa n n)
def put(_:Nat)(t:Tr α)(n:Nat)(v:Option α):Tr α:=zpJ v (pa n n) t
theorem get_put(f:Nat)(t:Tr α)(n:Nat)(v:Option α)(k:Nat)(_:n<=f):(put f t n v).get k=if k=n then v else t.get k:=by
 unfold get put;rw[zdB];by_cases e:k=n
 ·subst e;simp
 ·rw[if_neg e,if_neg λe'=>e (znR _ _ _ _ (lR' _) (lR' _) e')]
theorem get_leaf(n:Nat):(leaf:Tr α).get n=none:=zc2 _
end Tr
structure Cells where
 n:Nat
 d:Value
 t:Tr Value
namespace Cells
def get(c:Cells)(i:Nat):Value:=match c.t.get i with
 |some v=>v
 |none=>c.d
def list(c:Cells):List Value:=(List.range c.n).map c.get
def nth(c:Cells)(i:Nat):Option Value:=if i<c.n then some (c.get i) else none
def seg(c:Cells):Nat->Nat->List Value
 |_,0=> []
 |o,k+1=>c.get o::seg c (o+1) k
def sub(c:Cells)(o n:Nat):Option (List Value):=if o+n<=c.n then some (c.seg o n) else none
def putAll:Tr Value->Nat->List Value->Tr Value
 |t,_,[]=>t
 |t,o,v::l=>putAll (Tr.put o t o (some v)) (o+1) l
def write(c:Cells)(o:Nat)(new:List Value):Cells:=match c with
 |⟨n,d,t⟩=>⟨n,d,putAll t o new⟩
def ofList(l:List Value):Cells:=⟨l.length,undef,putAll .leaf 0 l⟩
def zeros1(z:List Value)(n:Nat):List Value:=(List.range n).map λi=>z.getD (i % z.length) undef
def fill(z:List Value)(n:Nat):Cells:=match z with
 |[v]=>⟨n,v, .leaf⟩
 |z=>ofList (zeros1 z n)
def more(c:Cells)(o:Nat)(new:List Value):Cells:=if o=0 then(match c with
 |⟨n,d,t⟩=>⟨n+new.length,d,putAll t n new⟩) else ofList (c.list.drop o++new)
end Cells
structure SOp where
 dst:Option Tmp
 op:Op
 type:TypeId
 guard:Option (Tmp×Bool)
inductive zan where
 |skip
 |seq (a b:zan)
 |cond (c:Operand) (a b:zan)
 |block (id:Nat) (b:zan)
 |loop (b:zan)
 |exit (id:Nat)
 |ret
 |scope (b:zan)
 |label (l:Nat)
 |goto (l:Nat)
 |again (b r:zan)
 |reg (ops:List SOp)
 |dreg (ops:List SOp) (ord:List (Nat×List Nat))
 |rfn (f:Operand) (ps:List Tmp) (assign body:zan)
inductive Cls where
 |pure|read|make|eff
 deriving DecidableEq
def cls:Op->Cls
 | .move _| .assign _| .pick .. | .nilCheck _| .unOp .. | .makeInterface .. | .makeFunc .. | .fieldAddr .. | .field .. | .indexAddr .. | .index .. | .slice .. | .build .. | .extract .. | .typeAssert .. => .pure
 | .binOp op .. =>match op with
   | .eql| .neq=> .read
   |_=> .pure
 | .convert .. | .load .. | .lookup .. => .read
 | .alloc _| .box .. | .buildSlice .. | .makeMap .. | .makeSlice .. | .range .. => .make
 | .call {callee:= .builtin b, .. }=>match b with
   | .len=> .read
   | .min| .max| .real| .imag| .complex=> .pure
   |_=> .eff
 |_=> .eff
def zaP:Nat->Value->Bool
 |_, .bool _|_, .int .. |_, .float .. |_, .complex .. |_, .string _|_, .nilFunc|_, .nilIface|_, .map none=>true
 |_, .pointer a=>a.isNone
 |_, .slice a n c=>a.isNone&&n==0&&c==0
 |n+1, .iface _ v=>zaP n v
 |n+1, .agg cs=>cs.toList.all (zaP n)
 |n+1, .tuple cs=>cs.toList.all (zaP n)
 |_,_=>false
def plain(v:Value):Bool:=zaP 6 v
def zch:Operand->Bool
 | .const v=>plain v
 | .global g=>decide (g<64)
 |_=>true
def zmm(ops:Array Oper)(o:Oper):Option SOp:=
 if o.op.operands.toList.all zch then
  match o.guard with
  |none=>some {dst:=o.dst,op:=o.op,type:=o.type,guard:=none}
  |some (j,b)=>match(ops[j]?).bind (·.dst) with
   |some t=>some {dst:=o.dst,op:=o.op,type:=o.type,guard:=some (t,b)}
   |none=>none
 else none
def zcR(ops:Array Oper):List Oper->Option (List SOp)
 |[]=>some []
 |o::l=>match zmm ops o,zcR ops l with
  |some x,some xs=>some (x::xs)
  |_,_=>none
def zeo(o:Oper):List Nat:=(o.after.toList.filter (Region.binds .any)).map (·.on)
def zkU(acc:List Nat):List Nat->Nat
 |[]=>0
 |p::ps=>2 ^ p|||acc.getD p 0|||zkU acc ps
def zjA:List Nat->List Oper->List Nat
 |acc,[]=>acc
 |acc,o::l=>zjA (acc++ [zkU acc (zeo o)]) l
def zi3(ops:List SOp)(i:Nat):Cls:=match ops[i]? with
 |some o=>cls o.op
 |none=> .pure
def zeP(ops:List SOp)(i:Nat):Bool:=zi3 ops i== .eff
def zqY(an:List Nat)(n:Nat):List Nat->List Nat->List Nat
 |[],used=>used++(List.range n).filter λj=>!used.contains j
 |e::es,used=>zqY an n es (if used.contains e then used else used++((List.range n).filter λj=>(an.getD e 0).testBit j&& !used.contains j)++ [e])
def zBL(an:List Nat)(ops:List SOp)(n:Nat):List Nat:=zqY an n ((List.range n).filter (zeP ops)) []
def zqt(an:List Nat)(ops:List SOp):List Nat->List Nat->List (Nat×List Nat)
 |_,[]=> []
 |seen,i::rest=>match zi3 ops i with
  | .read=>(i,seen.filter λe=>!(an.getD i 0).testBit e)::zqt an ops seen rest
  | .eff=>(i,[])::zqt an ops (i::seen) rest
  |_=>(i,[])::zqt an ops seen rest
def looks(o:SOp):List Tmp:=
 (o.op.operands.toList.filterMap λ| .tmp t=>some t|_=>none)++(match o.guard with|some (g,_)=> [g]|none=> [])
def zrA(ops:List SOp)(j:Nat)(t:Tmp):Bool:=match ops[j]? with
 |some o=>o.dst==some t
 |none=>false
def zm5:List Nat->Bool
 |[]=>true
 |x::l=>!l.contains x&&zm5 l
def zEk(pr:List (List Nat)):List Nat->List Nat->Bool
 |_,[]=>true
 |seen,i::rest=>((pr.getD i []).all λp=>seen.contains p)&&zEk pr (i::seen) rest
def zD2(an:List Nat)(ops:List SOp):List Nat->List Nat->Bool
 |_,[]=>true
 |seen,i::rest=>(!zeP ops i||seen.all λc=>(an.getD i 0).testBit c)&&zD2 an ops (i::seen) rest
def zua(an:List Nat)(ops:List SOp):List Nat->List (Nat×List Nat)->Bool
 |_,[]=>true
 |seen,(i,re)::rest=>(zi3 ops i != .read||seen.all λe=>!zeP ops e||(an.getD i 0).testBit e||re.contains e)&&zua an ops (i::seen) rest
def zD9(ops:List SOp):List SOp->Bool
 |[]=>true
 |o::l=>(match o.dst with|some t=>!(l.any λp=>p.dst==some t)|none=>true)&&zD9 ops l
def zJa(an:List Nat)(ops:List SOp)(n:Nat):Bool:=
 (List.range n).all λi=>match ops[i]? with
  |some o=>(looks o).all λt=>(List.range n).all λj=>!zrA ops j t||i==j||(an.getD i 0).testBit j||(an.getD j 0).testBit i
  |none=>true
def zH0(an:List Nat)(pr:List (List Nat))(ops:List SOp)(n:Nat)(ord:List (Nat×List Nat)):Bool:=
 let l:=ord.map (·.1)
 ops.length==n&&pr.length==n&&l.length==n&&zm5 l&&(l.all λi=>decide (i<n))&&((List.range n).all λi=>l.contains i)&&zEk pr [] l&&zD2 an ops [] l&&zua an ops [] ord&&zD9 ops ops&&zJa an ops n&&
  ((List.range n).all λi=>(pr.getD i []).all λp=>decide (p<i))
def zg3(ops:Array Oper)(sops:List SOp):Option (List (Nat×List Nat)):=
 let an:=zjA [] ops.toList
 let pr:=ops.toList.map zeo
 let ord:=zqt an sops [] (zBL an sops ops.size)
 if zH0 an pr sops ops.size ord then some ord else none
def zbw:Code->Option zan
 | .skip=>some .skip
 | .label l=>some (.label l)
 | .goto l=>some (.goto l)
 | .exit id=>some (.exit id)
 | .ret=>some .ret
 | .seq a b=>match zbw a,zbw b with
   |some x,some y=>some (.seq x y)
   |_,_=>none
 | .cond c a b=>if zch c then match zbw a,zbw b with
   |some x,some y=>some (.cond c x y)
   |_,_=>none
   else none
 | .block id a=>match zbw a with
   |some x=>some (.block id x)
   |none=>none
 | .loop a=>match zbw a with
   |some x=>some (.loop x)
   |none=>none
 | .scope a=>match zbw a with
   |some x=>some (.scope x)
   |none=>none
 | .region _ ops draw=>match zcR ops ops.toList with
   |none=>none
   |some l=>if draw then match zg3 ops l with
     |some ord=>some (.dreg l ord)
     |none=>none
    else some (.reg l)
 | .rangeFunc f ps a b=>if zch f then match zbw a,zbw b with
   |some x,some y=>some (.rfn f ps.toList x y)
   |_,_=>none
   else none
 |_=>none
def zfh:zan->Nat->Option zan
 | .seq a b,l=>match zfh a l with
   |some r=>some (.seq r b)
   |none=>zfh b l
 | .label k,l=>if k==l then some .skip else none
 |_,_=>none
structure zct where
 state:LoopState
 pend:Option Exit
 tmps:List Value
 ps:List Tmp
 assign:zan
 body:zan
inductive zaS where
 |cells (cs:Cells) (rw:Bool) (sz:Nat)
 |map (es:List (Value×Value)) (rw:Bool)
 |strIter (s:ByteArray) (pos:Nat)
 |loop (r:zct)
 |frz (tag:Nat)
structure Mem where
 next:Nat
 tr:Tr zaS
def Mem.get(m:Mem)(b:Nat):Option zaS:=m.tr.get b
def Mem.put(m:Mem)(b:Nat)(o:zaS):Mem:=match m with
 |⟨n,t⟩=>⟨n,Tr.put b t b (some o)⟩
def Mem.kill(m:Mem)(b:Nat):Mem:=match m with
 |⟨n,t⟩=>⟨n,Tr.put b t b none⟩
def Mem.bump(m:Mem)(k:Nat):Mem:=match m with
 |⟨n,t⟩=>⟨n+k,t⟩
theorem Mem.get_put(m:Mem)(b k:Nat)(o:zaS):(m.put b o).get k=if k=b then some o else m.get k:=Tr.get_put b m.tr b (some o) k (lR' _)
theorem Mem.get_kill(m:Mem)(b k:Nat):(m.kill b).get k=if k=b then none else m.get k:=Tr.get_put b m.tr b none k (lR' _)
@[simp] theorem Mem.get_bump (m:Mem) (n k:Nat):(m.bump n).get k=m.get k:=rfl
@[simp] theorem Mem.next_put (m:Mem) (b:Nat) (o:zaS):(m.put b o).next=m.next:=rfl
@[simp] theorem Mem.next_kill (m:Mem) (b:Nat):(m.kill b).next=m.next:=rfl
@[simp] theorem Mem.next_bump (m:Mem) (n:Nat):(m.bump n).next=m.next+n:=rfl
def runP(P:Program){α:Type}:Sem α->Option α
 | .pure a=>some a
 | .program k=>runP P (k P)
 | .mark _ k=>runP P k
 |_=>none
def zcm(P:Program)(s:Sem Value):Option Value:=match runP P s with
 |some v=>if plain v then some v else none
 |none=>none
def zbc(P:Program)(t:TypeId):Option Nat:=(P.info? t).map (·.size)
def zbT(P:Program)(t:TypeId):Option Value:=(P.info? t).bind (·.zero)
def lay(P:Program)(t:TypeId):Option (Option Nat):=match P.underlying t with
 |none=>none
 |some (.struct _)|some (.array _ _)=>(zbc P t).map some
 |some _=>some none
def oneCell:Value->Bool
 | .agg _| .tuple _| .chan _=>false
 |_=>true
def zdn:Value->Bool
 | .chan _=>true
 |_=>false
abbrev ptr(b o:Nat):Value:= .pointer (some ⟨b,o,none⟩)
abbrev lost:Value:= .slice (some ⟨0,0,some 0⟩) 0 0
def sub(cs:List Value)(o n:Nat):Option (List Value):=if o+n<=cs.length then some ((cs.drop o).take n) else none
def zbr(cs:List Value)(o:Nat)(new:List Value):List Value:=cs.take o++new++cs.drop (o+new.length)
def ziU(P:Program)(t:TypeId)(cs:Array Value)(off:Nat):Option Value:=match lay P t with
 |none=>none
 |some none=>cs[off]?
 |some (some n)=>some (.agg (cs.extract off (off+n)))
def zfI(v:Option Value)(top dflt:Nat):Option Nat:=match v with
 |none=>some dflt
 |some (.int _ i)=>if 0<=i∧i<=top then some i.toNat else none
 |some _=>none
def zg4(place:Nat->Option (Nat×Nat))(cells:List Value):List (Nat×Value)->Option (List Value)
 |[]=>some cells
 |(i,v)::rest=>match place i with
  |none=>none
  |some (off,size)=>if v.cells.size=size∧off+v.cells.size<=cells.length∧zdn v=false then zg4 place (zbr cells off v.cells.toList) rest else none
def zb6(P:Program)(fs:Array Field):List (Option (Nat×Nat)):=fs.toList.map λf=>(zbc P f.type).map λs=>(f.offset,s)
def zaT(P:Program)(t:TypeId)(parts:List (Nat×Value)):Option Value:=match zbT P t,P.underlying t with
 |some z,some (.struct fs)=>if plain z&&(zb6 P fs).all (·.isSome) then(zg4 (λi=>((zb6 P fs)[i]?).join) z.cells.toList parts).map λcs=> .agg cs.toArray else none
 |some z,some (.array _ e)=>match zbc P e with
  |some s=>if plain z then(zg4 (λi=>some (i*s,s)) z.cells.toList parts).map λcs=> .agg cs.toArray else none
  |none=>none
 |_,_=>none
def zdZ(r:Operand->Value)(parts:Array (Nat×Operand)):List (Nat×Value):=parts.toList.map λp=>(p.1,r p.2)
def zb5(P:Program)(t:TypeId)(x:Value)(lo hi:Option Value):Option Value:=match P.underlying t,x with
 |some .string, .string s=>
  match zfI hi s.size s.size with
  |none=>none
  |some h=>match zfI lo h 0 with
   |none=>none
   |some l=>some (.string (s.extract l h))
 |some (.slice e), .slice a n c=>
  match zfI hi c n with
  |none=>none
  |some h=>match zfI lo h 0 with
   |none=>none
   |some l=>match zbc P e,a with
    |some _,none=>some (.slice none (h-l) (c-l))
    |some sz,some ⟨b,o,none⟩=>if l=0 then some (.slice a h c) else if l<c then some (.slice (some ⟨b,o+l*sz,none⟩) (h-l) (c-l)) else if h=l then some lost else none
    |some _,some ⟨_,_,some _⟩=>if l=0 then some (.slice a h c) else none
    |none,_=>none
 |some (.array n e), .pointer (some ⟨b,o,none⟩)=>
  match zfI hi n n with
  |none=>none
  |some h=>match zfI lo h 0 with
   |none=>none
   |some l=>match zbc P e with
    |none=>none
    |some sz=>some (.slice (some (if n=l then⟨b,o,none⟩ else⟨b,o+l*sz,none⟩)) (h-l) (n-l))
 |_,_=>none
def zg9(P:Program)(t:TypeId)(x:Value)(lo:Option Value)(hi mx:Value):Option Value:=match P.underlying t,x with
 |some (.slice e), .slice a _ c=>
  match zfI (some mx) c 0 with
  |none=>none
  |some k=>match zfI (some hi) k 0 with
   |none=>none
   |some h=>match zfI lo h 0 with
    |none=>none
    |some l=>match zbc P e,a with
     |some _,none=>some (.slice none (h-l) (k-l))
     |some sz,some ⟨b,o,none⟩=>some (.slice (some (if k=l then⟨b,o,none⟩ else⟨b,o+l*sz,none⟩)) (h-l) (k-l))
     |_,_=>none
 |_,_=>none
def zaB(P:Program)(t:TypeId)(name:String):Option FuncId:=match P.info? t with
 |some i=>match i.methods.find? (·.name==name) with
  |some m=>if m.path.toList.isEmpty then match m.func,P.underlying t with
    |some (f,true),some (.pointer _)=>some f
    |some (_,false),some (.pointer _)=>none
    |some (f,false),some _=>some f
    |_,_=>none
   else none
  |none=>none
 |none=>none
def zjZ(nm:String)(first cap:List Value):Option Value:=match first,cap with
 |[.iface t v],[]=>some (.func (.methodOf t nm) #[v] #[])
 |_,_=>none
def za9(P:Program)(o:SOp)(r:Operand->Value):Option Value:=match o.op with
 | .move x| .assign x=>some (r x)
 | .pick c a b=>match r c with
   | .bool t=>some (if t then r a else r b)
   |_=>none
 | .nilCheck x=>match r x with
   | .pointer (some a)=>some (.pointer (some a))
   | .func (.func f) a c=>some (.func (.func f) a c)
   | .func (.yield l) a c=>some (.func (.yield l) a c)
   | .func (.methodOf ty nm) a c=>if(zaB P ty nm).isSome then some (.func (.methodOf ty nm) a c) else none
   |_=>none
 | .unOp op _ x=>if plain (r x) then zcm P (Op.unary op (r x)) else none
 | .binOp op t x y _=>if plain (r x)&&plain (r y) then zcm P (binOp op t (r x) (r y)) else none
 | .makeInterface t x=>match P.underlying t with
   |some (.interface _)=>none
   |some _=>some (.iface t (r x))
   |none=>none
 | .makeFunc fn first cap=>match fn with
   | .yield _=>none
   | .method nm=>zjZ nm (first.map r).toList (cap.map r).toList
   |_=>some (.func fn (first.map r) (cap.map r))
 | .fieldAddr s x f=>match P.underlying s,r x with
   |some (.struct fs), .pointer (some ⟨b,o,none⟩)=>match fs[f]? with
    |some fl=>match zbc P fl.type with
     |some (_+1)=>some (ptr b (o+fl.offset))
     |_=>none
    |none=>none
   |_,_=>none
 | .field t x f=>match P.underlying t,r x with
   |some (.struct fs), .agg cs=>match fs[f]? with
    |some fl=>ziU P fl.type cs fl.offset
    |none=>none
   |_,_=>none
 | .index t x i=>match P.underlying t,r x,r i with
   |some (.array len e), .agg cs, .int _ n=>if 0<=n∧n<len then match zbc P e with
     |some s=>ziU P e cs (n.toNat*s)
     |none=>none
    else none
   |some .string, .string s, .int _ n=>if 0<=n then match s[n.toNat]? with
     |some b=>some (.int .u8 b.toNat)
     |none=>none
    else none
   |_,_,_=>none
 | .indexAddr t x i=>match P.underlying t,r x,r i with
   |some (.array len e), .pointer (some ⟨b,o,none⟩), .int _ n=>if 0<=n∧n<len then match zbc P e with
     |some s=>some (ptr b (o+n.toNat*s))
     |none=>none
    else none
   |some (.slice e), .slice (some ⟨b,o,none⟩) len _, .int _ n=>if 0<=n∧n<len then match zbc P e with
     |some s=>some (ptr b (o+n.toNat*s))
     |none=>none
    else none
   |_,_,_=>none
 | .slice t x lo hi mx=>match mx,hi with
   |some y,some z=>zg9 P t (r x) (lo.map r) (r z) (r y)
   |some _,none=>none
   |none,_=>zb5 P t (r x) (lo.map r) (hi.map r)
 | .build t parts=>zaT P t (zdZ r parts)
 | .extract x i=>match r x with
   | .tuple vs=>vs[i]?
   |_=>none
 | .call c=>match c.callee with
   | .builtin b=>if(c.args.map r).toList.all plain then match b with
     | .min=>zcm P (Builtin.min_ c.argTypes o.type (c.args.map r))
     | .max=>zcm P (Builtin.max_ c.argTypes o.type (c.args.map r))
     | .real=>zcm P (Builtin.real_ c.argTypes o.type (c.args.map r))
     | .imag=>zcm P (Builtin.imag_ c.argTypes o.type (c.args.map r))
     | .complex=>zcm P (Builtin.complex_ c.argTypes o.type (c.args.map r))
     |_=>none
     else none
   |_=>none
 |_=>none
def zdo(P:Program)(t:TypeId)(a:Value)(m:Mem):Option Value:=match a with
 | .pointer (some ⟨b,o,none⟩)=>match m.get b with
   |some (.cells cs _ _)=>match lay P t with
    |none=>none
    |some none=>cs.nth o
    |some (some n)=>match cs.sub o n with
     |some l=>some (.agg l.toArray)
     |none=>none
   |_=>none
 |_=>none
def zcZ(P:Program)(t:TypeId)(a v:Value)(m:Mem):Option Mem:=match a with
 | .pointer (some ⟨b,o,none⟩)=>match m.get b with
   |some (.cells cs true sz)=>match zbc P t with
    |none=>none
    |some n=>if v.cells.size=n∧o+n<=cs.n∧v.cells.toList.all oneCell=true then some (m.put b (.cells (cs.write o v.cells.toList) true sz)) else none
   |_=>none
 |_=>none
def zlV(k:TypeDesc)(x:Value):List (Value×Value)->Option (Option Value)
 |[]=>some none
 |(y,v)::l=>match Instr.sameNow k x y with
  |some true=>some (some v)
  |some false=>zlV k x l
  |none=>none
def zf1(k:TypeDesc)(x v:Value):List (Value×Value)->Option (List (Value×Value))
 |[]=>some [(x,v)]
 |(y,u)::l=>match Instr.sameNow k x y with
  |some true=>some ((x,v)::l)
  |some false=>(zf1 k x v l).map ((y,u)::·)
  |none=>none
def zfX(k:TypeDesc)(x:Value):List (Value×Value)->Option (List (Value×Value))
 |[]=>some []
 |(y,u)::l=>match Instr.sameNow k x y with
  |some true=>some l
  |some false=>(zfX k x l).map ((y,u)::·)
  |none=>none
def zgc(P:Program)(k:TypeId)(x:Value):Option TypeDesc:=match P.underlying k,x with
 |some (.int q), .int _ _=>some (.int q)
 |some .string, .string _=>some .string
 |some .bool, .bool _=>some .bool
 |_,_=>none
def zBk(P:Program)(k:TypeId)(x:Value):Bool:=match P.underlying k,x with
 |some (.struct _), .agg _=>plain x&&(runP P (Instr.checkKey true 10000 k x)).isSome&&(runP P (Instr.checkKey false 10000 k x)).isSome
 |_,_=>false
def zi7(P:Program)(k:TypeId)(x y:Value):Option Bool:=if plain y then runP P (Op.equal k x y) else none
def zms(P:Program)(k:TypeId)(x:Value):List (Value×Value)->Option (Option Value)
 |[]=>some none
 |(y,v)::l=>match zi7 P k x y with
  |some true=>some (some v)
  |some false=>zms P k x l
  |none=>none
def atQ(a b:Value):Bool:=match a,b with
 | .int k n, .int j m=>k==j&&n==m
 | .bool n, .bool m=>n==m
 | .string n, .string m=>n==m
 |_,_=>false
def zEf:List Value->List Value->Bool
 |[],[]=>true
 |a::l,b::k=>atQ a b&&zEf l k
 |_,_=>false
def zAp(a b:Value):Bool:=match a,b with
 | .agg x, .agg y=>zEf x.toList y.toList
 |_,_=>false
def zDu(P:Program)(k:TypeId)(x v:Value):List (Value×Value)->Option (List (Value×Value))
 |[]=>some [(x,v)]
 |(y,u)::l=>match zi7 P k x y with
  |some true=>if zAp y x&&Instr.sameBits 10000 y x then some ((x,v)::l) else none
  |some false=>if zAp x x&& !zAp x y then(zDu P k x v l).map ((y,u)::·) else none
  |none=>none
def zDc(P:Program)(k:TypeId)(x:Value):List (Value×Value)->Option (List (Value×Value))
 |[]=>some []
 |(y,u)::l=>match zi7 P k x y with
  |some true=>some l
  |some false=>(zDc P k x l).map ((y,u)::·)
  |none=>none
def ze7(P:Program)(t:TypeId)(mp k:Value)(ok:Bool)(m:Mem):Option Value:=match P.underlying t with
 |some (.map kt et)=>match zgc P kt k,zbT P et with
  |some kd,some z=>if plain z then
    let es:=match mp with
     | .map none=>some []
     | .map (some b)=>match m.get b with
       |some (.map es _)=>some es
       |_=>none
     |_=>none
    match es with
    |none=>none
    |some es=>match zlV kd k es with
     |none=>none
     |some f=>some (if ok then .tuple #[f.getD z, .bool f.isSome] else f.getD z)
   else none
  |none,some z=>if plain z&&zBk P kt k then
    let es:=match mp with
     | .map none=>some []
     | .map (some b)=>match m.get b with
       |some (.map es _)=>some es
       |_=>none
     |_=>none
    match es with
    |none=>none
    |some es=>match zms P kt k es with
     |none=>none
     |some f=>some (if ok then .tuple #[f.getD z, .bool f.isSome] else f.getD z)
   else none
  |_,_=>none
 |_=>none
def eq1(P:Program)(t:TypeId)(x y:Value)(m:Mem):Option Bool:=match P.underlying t,x,y with
 |some .bool, .bool a, .bool b=>some (a==b)
 |some (.int _), .int k a, .int k' b=>if k=k' then some (a==b) else none
 |some (.pointer _), .pointer none, .pointer none=>some true
 |some (.pointer _), .pointer none, .pointer (some _)|some (.pointer _), .pointer (some _), .pointer none=>some false
 |some (.pointer e), .pointer (some ⟨b,o,none⟩), .pointer (some ⟨b2,o2,none⟩)=>match zbc P e with
  |some (_+1)=>if b=b2 then some (o==o2) else match m.get b,m.get b2 with
   |some (.cells _ true _),some (.cells _ true _)=>some false
   |_,_=>none
  |_=>none
 |_,_,_=>none
def eqF(P:Program)(xs ys:List Value)(m:Mem):List Field->Option Bool
 |[]=>some true
 |f::fs=>if f.name= "_" then none else match xs[f.offset]?,ys[f.offset]? with
  |some x,some y=>match eq1 P f.type x y m,eqF P xs ys m fs with
   |some a,some b=>some (a&&b)
   |_,_=>none
  |_,_=>none
def eqA(P:Program)(op:BinOp)(t:TypeId)(xo yo:Operand)(x y:Value)(m:Mem):Option Value:=
 let ans (b:Bool):Option Value:=match op with
  | .eql=>some (.bool b)
  | .neq=>some (.bool !b)
  |_=>none
 if plain x&&plain y then zcm P (do eqGuard op t xo yo x y;binOp op t x y) else
 match P.underlying t,x,y with
 |some (.pointer e), .pointer (some ⟨b,o,none⟩), .pointer (some ⟨b2,o2,none⟩)=>match zbc P e with
  |some (_+1)=>if b=b2 then ans (o==o2) else match m.get b,m.get b2 with
   |some (.cells _ true _),some (.cells _ true _)=>ans false
   |_,_=>none
  |_=>none
 |some (.pointer _), .pointer none, .pointer (some _)|some (.pointer _), .pointer (some _), .pointer none=>ans false
 |some (.slice _), .slice none _ _, .slice (some _) _ _|some (.slice _), .slice (some _) _ _, .slice none _ _=>ans false
 |some (.map _ _), .map none, .map (some _)|some (.map _ _), .map (some _), .map none=>ans false
 |some (.func _ _ _), .nilFunc, .func (.func _) _ _|some (.func _ _ _), .func (.func _) _ _, .nilFunc=>ans false
 |some (.interface _), .nilIface, .iface _ _|some (.interface _), .iface _ _, .nilIface=>ans false
 |some (.struct fs), .agg xs, .agg ys=>if P.stoodInHeld t||P.eqGuardType P.depth t then none else(eqF P xs.toList ys.toList m fs.toList).bind ans
 |_,_,_=>none
def lenA(P:Program)(t:TypeId)(x:Value)(m:Mem):Option Value:=match P.underlying t,x with
 |some .string, .string s=>some (.int .i64 s.size)
 |some (.array n _),_=>some (.int .i64 n)
 |some (.slice _), .slice _ n _=>some (.int .i64 n)
 |some (.map _ _), .map none=>some (.int .i64 0)
 |some (.map _ _), .map (some b)=>match m.get b with
  |some (.map es _)=>some (.int .i64 es.length)
  |_=>none
 |_,_=>none
def ze2:List Value->ByteArray->Option ByteArray
 |[],s=>some s
 | .int .u8 n::l,s=>ze2 l (s.push (UInt8.ofNat n.toNat))
 |_,_=>none
def zem(P:Program)(o:SOp)(r:Operand->Value)(m:Mem):Option Value:=match o.op with
 | .load t a=>zdo P t (r a) m
 | .lookup t mp k ok=>ze7 P t (r mp) (r k) ok m
 | .binOp op t x y _=>eqA P op t x y (r x) (r y) m
 | .convert s d x=>if plain (r x) then match P.underlying d with
   |some (.slice _)=>none
   |_=>zcm P (convert s d (r x))
   else match P.underlying s,P.underlying d,r x with
    |some (.slice e),some .string, .slice (some ⟨b,o,none⟩) n _=>match P.underlying e,m.get b with
     |some (.int .u8),some (.cells cs _ _)=>match cs.sub o n with
      |some l=>(ze2 l .empty).map .string
      |none=>none
     |_,_=>none
    |_,_,_=>none
 | .call c=>match c.callee,c.argTypes[0]?,c.args[0]? with
   | .builtin .len,some t,some x=>lenA P t (r x) m
   |_,_,_=>none
 |_=>none
abbrev zeN(z:List Value)(n:Nat):List Value:=Cells.zeros1 z n
def zdc(P:Program)(o:SOp)(r:Operand->Value):Option (zaS×(Nat->Value)):=match o.op with
 | .alloc t=>match zbT P t with
   |some z=>if plain z then some (.cells (.ofList z.cells.toList) true 0,λid=>ptr id 0) else none
   |none=>none
 | .box _ x=>if zdn (r x) then none else some (.cells (.ofList (r x).cells.toList) true 0,λid=>ptr id 0)
 | .buildSlice t len parts=>match P.underlying t with
   |some (.slice e)=>match zbc P e,zbT P e with
    |some s,some z=>if plain z&&decide (len*s<=2 ^ 24)&&z.cells.size==s&&decide (0<s) then
      (zg4 (λi=>some (i*s,s)) (zeN z.cells.toList (len*s)) (zdZ r parts)).map λcs=>(.cells (.ofList cs) true s,λid=> .slice (some ⟨id,0,none⟩) len len)
     else none
    |_,_=>none
   |_=>none
 | .makeMap t h=>match h with
   |none=>some (.map [] true,λid=> .map (some id))
   |some x=>match P.underlying t,r x with
    |some (.map _ _), .int _ _=>some (.map [] true,λid=> .map (some id))
    |_,_=>none
 | .range t x=>match P.underlying t,r x with
   |some .string, .string s=>some (.strIter s 0,λid=>ptr id 0)
   |_,_=>none
 | .makeSlice t l c=>match P.underlying t,r l,r c with
   |some (.slice e), .int .i64 n, .int .i64 k=>match P.info? e,zbT P e with
    |some i,some z=>if plain z&&decide (0<=n)&&decide (n<=k)&&decide (k<=2 ^ 40)&&decide (i.bytes*k<=2 ^ 48)&&z.cells.size==i.size&&decide (0<i.size) then
      some (.cells (.fill z.cells.toList (k.toNat*i.size)) true i.size,λid=> .slice (some ⟨id,0,none⟩) n.toNat k.toNat)
     else none
    |_,_=>none
   |_,_,_=>none
 |_=>none
inductive Req where
 |val (v:Value)
 |call (f:FuncId) (args:List Value)
 |round (l:Nat) (args:List Value)
def zdY(sz:Nat)(x:Value)(m:Mem):Option (List Value×Nat):=match x with
 | .slice none 0 _=>some ([],0)
 | .slice (some ⟨b,o,none⟩) n _=>match m.get b with
   |some (.cells cs _ _)=>(cs.sub o (n*sz)).map λl=>(l,n)
   |_=>none
 | .slice (some ⟨_,_,some _⟩) 0 _=>some ([],0)
 | .string s=>some (s.data.toList.map λb=> .int .u8 b.toNat,s.size)
 |_=>none
def zaV(P:Program)(id:Nat)(at_:Array TypeId)(s x:Value)(m:Mem):Option (Value×Mem):=match at_[0]?,at_[1]? with
 |some ts,some tx=>match P.underlying ts,P.underlying tx,s with
  |_,some (.int _),_=>none
  |some (.slice e),some _, .slice base n c=>match P.info? e with
   |none=>none
   |some i=>match zdY i.size x m with
    |none=>none
    |some (new,k)=>
     if k=0 then(if n<=c then some (s,m) else none) else
     if new.all oneCell=false∨new.length≠k*i.size then none else
     if n+k<=c then match base with
      |some ⟨b,o,none⟩=>match m.get b with
       |some (.cells cs true sz)=>if o+(n+k)*i.size<=cs.n then some (.slice base (n+k) c,m.put b (.cells (cs.write (o+n*i.size) new) true sz)) else none
       |_=>none
      |_=>none
     else if i.size=0∨¬(n+k)*i.bytes<=2 ^ 40∨¬n+k<=2 ^ 40 then none else
     match zbT P e with
     |none=>none
     |some z=>if plain z=false∨z.cells.size≠i.size then none else
      match base with
      |none=>if n=0 then some (.slice (some ⟨id,0,none⟩) k k,m.put id (.cells (.ofList new) true i.size)) else none
      |some ⟨b,o,none⟩=>match m.get b with
       |some (.cells cs true sz)=>if n=c∧o+n*i.size=cs.n∧sz=i.size then
         some (.slice (some ⟨id,0,none⟩) (n+k) (n+k),(m.kill b).put id (.cells (cs.more o new) true i.size)) else none
       |_=>none
      |_=>none
  |_,_,_=>none
 |_,_=>none
def zos(P:Program)(at_:Array TypeId)(d x:Value)(m:Mem):Option (Value×Mem):=match at_[0]? with
 |some td=>match P.underlying td,d,x with
  |some (.slice e), .slice base n _, .slice a k c=>match zbc P e with
   |some sz=>
    let q:=Nat.min k n
    if q=0 then some (.int .i64 0,m) else
    match zdY sz (.slice a q c) m with
    |some (new,_)=>match base with
     |some ⟨b,o,none⟩=>match m.get b with
      |some (.cells cs true s2)=>if o+q*sz<=cs.n∧new.all oneCell=true∧new.length=q*sz then some (.int .i64 q,m.put b (.cells (cs.write o new) true s2)) else none
      |_=>none
     |_=>none
    |none=>none
   |none=>none
  |_,_,_=>none
 |none=>none
def zdF(P:Program)(at_:Array TypeId)(x:Value)(m:Mem):Option Mem:=match at_[0]? with
 |some t=>match P.underlying t,x with
  |some (.map _ _), .map none=>some m
  |some (.slice _), .slice none _ _=>some m
  |some (.slice e), .slice (some ⟨b,o,none⟩) n _=>if n=0 then some m else match zbT P e,m.get b with
   |some z,some (.cells cs true sz)=>
    if plain z=true∧0<z.cells.size∧o+n*z.cells.size<=cs.n∧(zeN z.cells.toList (n*z.cells.size)).all oneCell=true then
     some (m.put b (.cells (cs.write o (zeN z.cells.toList (n*z.cells.size))) true sz)) else none
   |_,_=>none
  |some (.map _ _), .map (some b)=>match m.get b with
   |some (.map _ true)=>some (m.put b (.map [] true))
   |_=>none
  |_,_=>none
 |none=>none
def zfc(P:Program)(t:TypeId)(mp k v:Value)(m:Mem):Option Mem:=match P.underlying t,mp with
 |some (.map kt _), .map (some b)=>match m.get b,zgc P kt k with
  |some (.map es true),some kd=>(zf1 kd k v es).map λes'=>m.put b (.map es' true)
  |some (.map es true),none=>if zBk P kt k then(zDu P kt k v es).map λes'=>m.put b (.map es' true) else none
  |_,_=>none
 |_,_=>none
def zf5(P:Program)(at_:Array TypeId)(mp k:Value)(m:Mem):Option Mem:=match at_[0]? with
 |some t=>match P.underlying t,mp with
  |some (.map kt _), .map none=>(zgc P kt k).map λ_=>m
  |some (.map kt _), .map (some b)=>match m.get b,zgc P kt k with
   |some (.map es true),some kd=>(zfX kd k es).map λes'=>m.put b (.map es' true)
   |some (.map es true),none=>if zBk P kt k then(zDc P kt k es).map λes'=>m.put b (.map es' true) else none
   |_,_=>none
  |_,_=>none
 |none=>none
def zab(P:Program)(f:FuncId):Bool:=match P.funcs[f]? with
 |some fn=>fn.body.isSome&&fn.name != "runtime.NumGoroutine"
 |none=>false
def zbS(P:Program)(f:FuncId)(args:List Value):Option Value:=if args.all plain then match runP P (callFunc f args.toArray) with
  |some (.value v)=>if plain v then some v else none
  |_=>none
 else none
def zrF(it:Value)(m:Mem):Option (Value×Mem):=match it with
 | .pointer (some ⟨b,0,none⟩)=>match m.get b with
   |some (.strIter s pos)=>if pos<s.size then some (.tuple #[.bool true, .int .i64 pos, .int .i32 (Utf8.decode s pos).1],m.put b (.strIter s (pos+(Utf8.decode s pos).2))) else some (.tuple #[.bool false],m)
   |_=>none
 |_=>none
def zeZ(P:Program)(id:Nat)(o:SOp)(r:Operand->Value)(m:Mem):Option (Req×Mem):=match o.op with
 | .store t a x=>(zcZ P t (r a) (r x) m).map λm'=>(.val undef,m')
 | .mapUpdate t mp k x| .insert t mp k x=>(zfc P t (r mp) (r k) (r x) m).map λm'=>(.val undef,m')
 | .next it isS=>if isS then(zrF (r it) m).map λq=>(.val q.1,q.2) else none
 | .call c=>match c.callee with
   | .builtin .append=>match c.args[0]?,c.args[1]? with
     |some s,some x=>(zaV P id c.argTypes (r s) (r x) m).map λq=>(.val q.1,q.2)
     |_,_=>none
   | .builtin .copy=>match c.args[0]?,c.args[1]? with
     |some s,some x=>(zos P c.argTypes (r s) (r x) m).map λq=>(.val q.1,q.2)
     |_,_=>none
   | .builtin .clear=>match c.args[0]? with
     |some x=>(zdF P c.argTypes (r x) m).map λm'=>(.val (.tuple #[]),m')
     |none=>none
   | .builtin .delete=>match c.args[0]?,c.args[1]? with
     |some s,some x=>(zf5 P c.argTypes (r s) (r x) m).map λm'=>(.val (.tuple #[]),m')
     |_,_=>none
   | .value f=>match r f with
     | .func (.func g) first cap=>if zab P g then some (.call g (first.toList++(c.args.map r).toList++cap.toList),m) else match zbS P g (first.toList++(c.args.map r).toList++cap.toList) with
       |some v=>some (.val v,m)
       |none=>none
     | .func (.yield l) first _=>some (.round l (first.toList++(c.args.map r).toList),m)
     |_=>none
   | .invoke x name=>match r x with
     | .iface t v=>match zaB P t name with
       |some f=>if zab P f then some (.call f (v::(c.args.map r).toList),m) else none
       |none=>none
     |_=>none
   |_=>none
 |_=>none
inductive zpE where
 |code (rd:Option Nat) (c:zan) (t:List Value)
 |call (f:FuncId) (args:List Value)
 |round (l:Nat) (args:List Value)
inductive Out where
 |exit (x:Exit) (t:List Value)
 |val (v:Value)
structure Env where
 P:Program
 eqv:Value->Value->Bool
 prim:FuncId->Option (List Value->Mem->Option (Value×Mem))
 sym:SOp->(Operand->Value)->Option Value:=λ_ _=>none
abbrev zdv:=zpE->Mem->Option (Out×Mem)
def ev(x:Operand)(t:List Value):Value:=match x with
 | .tmp k=>t.getD k undef
 | .const v=>v
 | .global g=>ptr g 0
 | .func f=> .func (.func f) #[] #[]
def wanted(g:Option (Tmp×Bool))(t:List Value):Bool:=match g with
 |none=>true
 |some (k,b)=>match t.getD k undef with
  | .bool c=>c==b
  |_=>false
def zdP(d:Option Tmp)(v:Value)(t:List Value):List Value:=match d with
 |some k=>t.set k v
 |none=>t
def zl5(E:Env)(o:SOp)(r:Operand->Value):Option Value:=match za9 E.P o r with
 |some v=>some v
 |none=>E.sym o r
def zck(E:Env)(o:SOp)(r:Operand->Value)(m:Mem):Option Value:=match zem E.P o r m with
 |some v=>some v
 |none=>E.sym o r
def opA(E:Env)(self:zdv)(id:Nat)(o:SOp)(t:List Value)(m:Mem):Option (Value×Mem):=match cls o.op with
 | .pure=>match zl5 E o (ev · t) with
   |some v=>some (v,m)
   |none=>none
 | .read=>match zck E o (ev · t) m with
   |some v=>some (v,m)
   |none=>none
 | .make=>match zdc E.P o (ev · t) with
   |some (ob,mk)=>some (mk id,m.put id ob)
   |none=>none
 | .eff=>match zeZ E.P id o (ev · t) m with
   |some (.val v,m')=>some (v,m')
   |some (.call f args,m')=>match self (.call f args) m' with
    |some (.val v,m'')=>some (v,m'')
    |_=>none
   |some (.round l args,m')=>match self (.round l args) m' with
    |some (.val v,m'')=>some (v,m'')
    |_=>none
   |none=>none
def gOk(g:Option (Tmp×Bool))(t:List Value):Bool:=match g with
 |none=>true
 |some (k,_)=>match t.getD k undef with
  | .func (.method _) _ _=>false
  | .chan _=>false
  |_=>true
def zbz(E:Env)(self:zdv)(id:Nat)(o:SOp)(t:List Value)(m:Mem):Option (List Value×Mem):=
 if gOk o.guard t=false then none else
 if wanted o.guard t then match opA E self id o t m with
  |some (v,m')=>some (zdP o.dst v t,m')
  |none=>none
 else some (zdP o.dst undef t,m)
def zea(E:Env)(self:zdv):Nat->List SOp->List Value->Mem->Option (List Value×Mem)
 |_,[],t,m=>some (t,m)
 |id,o::rest,t,m=>match zbz E self id o t m with
  |some (t',m')=>zea E self (id+1) rest t' m'
  |none=>none
def zlT:List (Nat×Mem)->Nat->Option Mem
 |[],_=>none
 |(i,m)::l,k=>if i=k then some m else zlT l k
def zAf(E:Env)(o:SOp)(t:List Value)(m:Mem)(hist:List (Nat×Mem))(re:List Nat):Bool:=
 re.all λe=>match zlT hist e with
  |some me=>match zck E o (ev · t) m,zck E o (ev · t) me with
   |some v,some u=>E.eqv v u
   |_,_=>false
  |none=>false
def zfn(E:Env)(self:zdv)(base:Nat)(ops:List SOp):List (Nat×List Nat)->List (Nat×Mem)->List Value->Mem->Option (List Value×Mem)
 |[],_,t,m=>some (t,m)
 |(i,re)::rest,hist,t,m=>match ops[i]? with
  |none=>none
  |some o=>if wanted o.guard t=false∨zAf E o t m hist re=true then match zbz E self (base+i) o t m with
    |some (t',m')=>zfn E self base ops rest ((i,m)::hist) t' m'
    |none=>none
   else none
structure zal where
 ntmps:Nat
 results:List ResultVar
 body:zan
def zaG(P:Program)(f:FuncId):Option zal:=match P.funcs[f]? with
 |some fn=>match fn.body with
  |some c=>match zbw c with
   |some s=>some {ntmps:=fn.ntmps,results:=fn.results.toList,body:=s}
   |none=>none
  |none=>none
 |none=>none
def zeh(P:Program)(t:List Value)(m:Mem):List ResultVar->Option (List Value)
 |[]=>some []
 | .tmp k::l=>match zeh P t m l with
   |some vs=>some (t.getD k undef::vs)
   |none=>none
 | .cell k ty::l=>match zdo P ty (t.getD k undef) m,zeh P t m l with
   |some v,some vs=>some (v::vs)
   |_,_=>none
def zdb(vs:List Value):Value:=match vs with
 |[v]=>v
 |l=> .tuple l.toArray
def zco:List Tmp->List Value->List Value->List Value
 |p::ps,a::as,t=>zco ps as (t.set p a)
 |_,_,t=>t
def zmS:Option zaS->Bool
 |some (.loop _)=>true
 |_=>false
def zrH:Exit->Bool
 | .ret| .exit _=>true
 |_=>false
def zao(E:Env)(self:zdv)(rd:Option Nat)(c:zan)(t:List Value)(m:Mem):Option (Out×Mem):=match c with
 | .skip=>some (.exit .normal t,m)
 | .exit id=>some (.exit (.exit id) t,m)
 | .ret=>some (.exit .ret t,m)
 | .seq a b=>match self (.code rd a t) m with
   |some (.exit .normal t',m')=>self (.code rd b t') m'
   |r=>r
 | .cond c a b=>match ev c t with
   | .bool true=>self (.code rd a t) m
   | .bool false=>self (.code rd b t) m
   |_=>none
 | .block id b=>match self (.code rd b t) m with
   |some (.exit (.exit k) t',m')=>some (.exit (if k=id then .normal else .exit k) t',m')
   |r=>r
 | .loop b=>match self (.code rd b t) m with
   |some (.exit .normal t',m')=>self (.code rd (.loop b) t') m'
   |r=>r
 | .label _=>some (.exit .normal t,m)
 | .goto l=>some (.exit (.goto l) t,m)
 | .scope b=>match self (.code rd b t) m with
   |some (.exit (.goto l) t',m')=>match zfh b l with
    |some r=>self (.code rd (.again b r) t') m'
    |none=>some (.exit (.goto l) t',m')
   |r=>r
 | .again b r0=>match self (.code rd r0 t) m with
   |some (.exit (.goto l) t',m')=>match zfh b l with
    |some r=>self (.code rd (.again b r) t') m'
    |none=>some (.exit (.goto l) t',m')
   |r=>r
 | .reg ops=>match zea E self m.next ops t (m.bump ops.length) with
   |some (t',m')=>some (.exit .normal t',m')
   |none=>none
 | .dreg ops ord=>match zfn E self m.next ops ord [] t (m.bump ops.length) with
   |some (t',m')=>some (.exit .normal t',m')
   |none=>none
 | .rfn f ps as bd=>match ev f t with
   | .func (.func g) first cap=>
     if zab E.P g&&(match rd with|none=>true|some l0=>zmS (m.get l0)) then
      match self (.call g (first.toList++ [.func (.yield m.next) #[] #[]]++cap.toList)) ((m.bump 1).put m.next (.loop {state:= .ready,pend:=none,tmps:=t,ps:=ps,assign:=as,body:=bd})) with
      |some (.val _,m2)=>match m2.get m.next with
       |some (.loop r)=>if r.state= .busy then none else
        match r.pend with
        |none=>some (.exit .normal t,m2.put m.next (.loop {r with state:= .exhausted}))
        |some x=>if zrH x then some (.exit x t,m2.put m.next (.loop {r with state:= .exhausted})) else none
       |_=>none
      |_=>none
     else none
   |_=>none
def step(E:Env)(self:zdv):zpE->Mem->Option (Out×Mem)
 | .code rd c t,m=>zao E self rd c t m
 | .call f args,m=>match E.prim f with
   |some p=>match p args m with
    |some (v,m')=>some (.val v,m')
    |none=>none
   |none=>match zaG E.P f with
    |none=>none
    |some s=>match self (.code none s.body (args++List.replicate (s.ntmps-args.length) undef)) m with
     |some (.exit x t',m')=>if x matches .normal| .ret then
       match zeh E.P t' m' s.results with
       |some vs=>some (.val (zdb vs),m')
       |none=>none
      else none
     |_=>none
 | .round l args,m=>match m.get l with
   |some (.loop r)=>if r.ps.length=args.length∧r.state= .ready then
     match self (.code (some l) r.assign (zco r.ps args r.tmps)) m with
     |some (.exit .normal t1,m1)=>match m1.get l with
      |some (.loop r1)=>if r1.state= .ready then
        match self (.code (some l) r.body t1) (m1.put l (.loop {r1 with state:= .busy})) with
        |some (.exit x _,m3)=>match m3.get l with
         |some (.loop r3)=>match x with
          | .normal=>some (.val (.bool true),m3.put l (.loop {r3 with state:= .ready,pend:=none}))
          | .ret=>some (.val (.bool false),m3.put l (.loop {r3 with state:= .done,pend:=some .ret}))
          | .exit id=>some (.val (.bool false),m3.put l (.loop {r3 with state:= .done,pend:=some (.exit id)}))
          |_=>none
         |_=>none
        |_=>none
       else none
      |_=>none
     |_=>none
    else none
   |_=>none
def run(E:Env):Nat->zdv
 |0=>λ_ _=>none
 |n+1=>step E (run E n)
end
end Go.Ab
namespace Go.Ab
namespace Cells
theorem list_length(c:Cells):c.list.length=c.n:=by simp[list]
theorem list_get(c:Cells)(i:Nat):c.list[i]? =if i<c.n then some (c.get i) else none:=by
 unfold list;rw[gM'];by_cases h:i<c.n
 ·rw[if_pos h,List.getElem?_range h];rfl
 ·rw[if_neg h,List.getElem?_eq_none (by simp;omega)];rfl
theorem nth_eq(c:Cells)(i:Nat):c.nth i=c.list[i]? :=by rw[list_get];rfl
theorem zgR(c:Cells):∀(k o i:Nat),(c.seg o k)[i]? =if i<k then some (c.get (o+i)) else none
 |0,o,i=>by simp[seg]
 |k+1,o,i=>by
  cases i with
  |zero=>simp[seg]
  |succ i=>
   simp only[seg,List.getElem?_cons_succ,zgR c k (o+1) i];rw[show o+1+i=o+(i+1) from by omega];by_cases h:i<k
   ·rw[if_pos h,if_pos (by omega)]
   ·rw[if_neg h,if_neg (by omega)]
theorem sub_eq(c:Cells)(o n:Nat):c.sub o n=Ab.sub c.list o n:=by
 unfold sub Ab.sub;rw[list_length];by_cases h:o+n<=c.n
 ·rw[if_pos h,if_pos h];congr 1;apply List.ext_getElem?;intro i;rw[zgR];by_cases hi:i<n
  ·rw[if_pos hi,List.getElem?_take_of_lt hi,List.getElem?_drop,list_get,if_pos (by omega)]
  ·rw[if_neg hi,List.getElem?_eq_none (by simp;omega)]
 ·rw[if_neg h,if_neg h]
theorem putAll_get:∀(l:List Value) (t:Tr Value) (o i:Nat),(putAll t o l).get i=if o<=i∧i<o+l.length then l[i-o]? else t.get i
 |[],t,o,i=>by simp[putAll];omega
 |v::l,t,o,i=>by
  rw[putAll,putAll_get l _ (o+1) i,Tr.get_put _ _ _ _ _ (lR' o)];by_cases h:i=o
  ·subst h;rw[if_neg (by omega),if_pos rfl,if_pos ⟨lR' _,by simp⟩];simp
  ·by_cases h2:o+1<=i∧i<o+1+l.length
   ·rw[if_pos h2,if_pos ⟨by omega,by simp;omega⟩,show i-o=(i-(o+1))+1 from by omega];simp
   ·rw[if_neg h2,if_neg h,if_neg (by simp;omega)]
theorem zqa{t:Tr Value}{n i:Nat}{d v:Value}(h:t.get i=some v):(⟨n,d,t⟩:Cells).get i=v:=by simp[get,h]
theorem write_list{c:Cells}{o:Nat}{new:List Value}(h:o+new.length<=c.n):(c.write o new).list=zbr c.list o new:=by
 apply List.ext_getElem?;intro i;have hl:c.list.length=c.n:=c.list_length;rw[list_get];show(if i<c.n then some ((⟨c.n,c.d,putAll c.t o new⟩:Cells).get i) else none)=_;unfold zbr;by_cases hi:i<c.n
 ·rw[if_pos hi];by_cases h1:i<o
  ·rw[aA,aB' (by simp;omega),List.getElem?_take_of_lt h1,list_get,if_pos hi];unfold get;rw[putAll_get,if_neg (by omega)]
  ·by_cases h2:i<o+new.length
   ·rw[aA,aC' (by simp;omega),aB' (by simp;omega)];have e:i-(List.take o c.list).length=i-o:=by simp;omega
    rw[e,gE' (by omega)];refine congrArg some (zqa ?_);rw[putAll_get,if_pos ⟨by omega,h2⟩,gE' (by omega)]
   ·rw[aC' (by simp;omega),List.getElem?_drop];have e:o+new.length+(i-(List.take o c.list++new).length)=i:=by simp;omega
    rw[e,list_get,if_pos hi];unfold get;rw[putAll_get,if_neg (by omega)]
 ·rw[if_neg hi,List.getElem?_eq_none (by simp;omega)]
theorem ofList_list(l:List Value):(ofList l).list=l:=by
 apply List.ext_getElem?;intro i;rw[list_get];show(if i<l.length then some ((⟨l.length,undef,putAll .leaf 0 l⟩:Cells).get i) else none)=_;by_cases hi:i<l.length
 ·rw[if_pos hi,gE' hi];refine congrArg some (zqa ?_);rw[putAll_get,if_pos ⟨by omega,by omega⟩,Nat.sub_zero,gE' hi]
 ·rw[if_neg hi,List.getElem?_eq_none (by omega)]
theorem fill_list(z:List Value)(n:Nat):(fill z n).list=zeros1 z n:=by
 unfold fill;split
 ·rename_i v;unfold list zeros1;apply List.map_congr_left;intro i _;simp[get,Tr.get_leaf,Nat.mod_one]
 ·exact ofList_list _
theorem more_list(c:Cells)(o:Nat)(new:List Value):(c.more o new).list=c.list.drop o++new:=by
 unfold more;split
 ·rename_i h;subst h;apply List.ext_getElem?;intro i;have hl:c.list.length=c.n:=c.list_length;rw[list_get,List.drop_zero];show(if i<c.n+new.length then some ((⟨c.n+new.length,c.d,putAll c.t c.n new⟩:Cells).get i) else none)=_;by_cases hi:i<c.n
  ·rw[if_pos (by omega),aB' (by omega),list_get,if_pos hi];unfold get;rw[putAll_get,if_neg (by omega)]
  ·by_cases h2:i<c.n+new.length
   ·rw[if_pos h2,aC' (by omega),hl,gE' (by omega)];refine congrArg some (zqa ?_);rw[putAll_get,if_pos ⟨by omega,h2⟩,gE' (by omega)]
   ·rw[if_neg h2,List.getElem?_eq_none (by simp;omega)]
 ·exact ofList_list _
end Cells
abbrev Rho:=Nat->Option (Nat×Nat×Nat)
def Ext(ρ ρ':Rho):Prop:=∀b x,ρ b=some x->ρ' b=some x
structure Sig where
 S:Value->Value->Prop
 data:∀e v,S e v->(∃k n,v= .int k n)∨(∃b,v= .bool b)∨(∃s,v= .string s)
 F:Nat->Option (List Value):=λ_=>none
 T:Nat->Rho->Value->Prop:=λ_ _ _=>False
 mono:∀j ρ ρ' v,Ext ρ ρ'->T j ρ v->T j ρ' v:=by intro _ _ _ _ _ h;exact h.elim
inductive zaq (σ:Sig) (ρ:Rho):Value->Value->Prop
 |bool (b:Bool):zaq σ ρ (.bool b) (.bool b)
 |int (k:IntKind) (n:Int):zaq σ ρ (.int k n) (.int k n)
 |float (k:FloatKind) (n:Nat):zaq σ ρ (.float k n) (.float k n)
 |complex (k:FloatKind) (a b:Nat):zaq σ ρ (.complex k a b) (.complex k a b)
 |string (s:ByteArray):zaq σ ρ (.string s) (.string s)
 |nilFunc:zaq σ ρ .nilFunc .nilFunc
 |nilIface:zaq σ ρ .nilIface .nilIface
 |nilMap:zaq σ ρ (.map none) (.map none)
 |nilPtr:zaq σ ρ (.pointer none) (.pointer none)
 |nilSlice:zaq σ ρ (.slice none 0 0) (.slice none 0 0)
 |ptr {b b' o off sl:Nat} (h:ρ b=some (b',off,sl)):zaq σ ρ (.pointer (some ⟨b,o,none⟩)) (.pointer (some ⟨b',off+o,none⟩))
 |slice {b b' o off sl n c c':Nat} (h:ρ b=some (b',off,sl)) (hc:c'=c∨c'=c+sl) (hn:n<=c):
   zaq σ ρ (.slice (some ⟨b,o,none⟩) n c) (.slice (some ⟨b',off+o,none⟩) n c')
 |lost (a:Addr) (c:Nat):zaq σ ρ (.slice (some ⟨0,0,some 0⟩) 0 0) (.slice (some a) 0 c)
 |map {b b' off sl:Nat} (h:ρ b=some (b',off,sl)):zaq σ ρ (.map (some b)) (.map (some b'))
 |iface (t:TypeId) {v v':Value} (h:zaq σ ρ v v'):zaq σ ρ (.iface t v) (.iface t v')
 |sym {nm:String} {args cap:Array Value} {v:Value} (h:σ.S (.func (.method nm) args cap) v):zaq σ ρ (.func (.method nm) args cap) v
 |func {f:Fn} (hy:∀l,f≠ .yield l) (hm:∀n,f≠ .method n) {fs fs' cp cp':Array Value} (h1:fs.size=fs'.size) (h2:∀i,i<fs.size->zaq σ ρ (fs.getD i undef) (fs'.getD i undef))
   (h3:cp.size=cp'.size) (h4:∀i,i<cp.size->zaq σ ρ (cp.getD i undef) (cp'.getD i undef)):zaq σ ρ (.func f fs cp) (.func f fs' cp')
 |yield {l l' off sl:Nat} (h:ρ l=some (l',off,sl)):zaq σ ρ (.func (.yield l) #[] #[]) (.func (.yield l') #[] #[])
 |junk {v:Value}:zaq σ ρ (.chan (some 0)) v
 |meth {t:TypeId} {nm:String} {v v':Value} (h:zaq σ ρ v v'):zaq σ ρ (.func (.methodOf t nm) #[v] #[]) (.func (.method nm) #[.iface t v'] #[])
 |tie {j:Nat} {v:Value} (h:σ.T j ρ v):zaq σ ρ (.chan (some (j+1))) v
 |agg {cs cs':Array Value} (h1:cs.size=cs'.size) (h2:∀i,i<cs.size->zaq σ ρ (cs.getD i undef) (cs'.getD i undef)):zaq σ ρ (.agg cs) (.agg cs')
 |tuple {cs cs':Array Value} (h1:cs.size=cs'.size) (h2:∀i,i<cs.size->zaq σ ρ (cs.getD i undef) (cs'.getD i undef)):zaq σ ρ (.tuple cs) (.tuple cs')
variable{σ:Sig}
def zat(σ:Sig)(ρ:Rho)(l l':List Value):Prop:=l.length=l'.length∧∀i,i<l.length->zaq σ ρ (l.getD i undef) (l'.getD i undef)
theorem Ext.refl(ρ:Rho):Ext ρ ρ:=λ_ _ h=>h
theorem Ext.trans{a b c:Rho}(h:Ext a b)(k:Ext b c):Ext a c:=λx y e=>k x y (h x y e)
theorem zaq.mono{ρ ρ':Rho}(he:Ext ρ ρ'){v v':Value}(h:zaq σ ρ v v'):zaq σ ρ' v v':=by
 induction h with
 |bool b=>exact .bool b
 |int k n=>exact .int k n
 |float k n=>exact .float k n
 |complex k a b=>exact .complex k a b
 |string s=>exact .string s
 |nilFunc=>exact .nilFunc
 |nilIface=>exact .nilIface
 |nilMap=>exact .nilMap
 |nilPtr=>exact .nilPtr
 |nilSlice=>exact .nilSlice
 |ptr h=>exact .ptr (he _ _ h)
 |slice h hc hn=>exact .slice (he _ _ h) hc hn
 |lost a c=>exact .lost a c
 |map h=>exact .map (he _ _ h)
 |iface t _ ih=>exact .iface t ih
 |sym h=>exact .sym h
 |func hy hm h1 _ h3 _ ih2 ih4=>exact .func hy hm h1 ih2 h3 ih4
 |yield h=>exact .yield (he _ _ h)
 |junk=>exact .junk
 |meth _ ih=>exact .meth ih
 |tie h=>exact .tie (σ.mono _ _ _ _ he h)
 |agg h1 _ ih=>exact .agg h1 ih
 |tuple h1 _ ih=>exact .tuple h1 ih
theorem zat.mono{ρ ρ':Rho}(he:Ext ρ ρ'){l l':List Value}(h:zat σ ρ l l'):zat σ ρ' l l':=⟨h.1,λi hi=>(h.2 i hi).mono he⟩
theorem zaw(a:Array Value)(i:Nat):a.getD i undef=a.toList.getD i undef:=by rw[Array.getD_eq_getD_getElem?,gD',Array.getElem?_toList]
theorem zaq.undef(ρ:Rho):zaq σ ρ undef undef:= .tuple rfl λi h=>absurd h (by simp)
theorem zat.nil(ρ:Rho):zat σ ρ [] []:=⟨rfl,λ_ h=>absurd h (by simp)⟩
theorem zat.cons{ρ:Rho}{v v':Value}{l l':List Value}(h:zaq σ ρ v v')(hl:zat σ ρ l l'):zat σ ρ (v::l) (v'::l'):=
 ⟨by simp[hl.1],λi hi=>by
  cases i with
  |zero=>simpa using h
  |succ i=>simpa using hl.2 i (by simpa using hi)⟩
theorem zat.head{ρ:Rho}{v v':Value}{l l':List Value}(h:zat σ ρ (v::l) (v'::l')):zaq σ ρ v v':=by simpa using h.2 0 (by simp)
theorem zat.tail{ρ:Rho}{v v':Value}{l l':List Value}(h:zat σ ρ (v::l) (v'::l')):zat σ ρ l l':=
 ⟨by simpa using h.1,λi hi=>by simpa using h.2 (i+1) (by simpa using hi)⟩
theorem zat.at_{ρ:Rho}{l l':List Value}(h:zat σ ρ l l')(i:Nat):zaq σ ρ (l.getD i Go.undef) (l'.getD i Go.undef):=by
 by_cases hi:i<l.length
 ·exact h.2 i hi
 ·have h1:l.getD i Go.undef=Go.undef:=by rw[gD',List.getElem?_eq_none (by omega)];rfl
  have h2:l'.getD i Go.undef=Go.undef:=by rw[gD',List.getElem?_eq_none (by have:=h.1;omega)];rfl
  rw[h1,h2];exact zaq.undef ρ
theorem zat.append{ρ:Rho}{a a' b b':List Value}(h:zat σ ρ a a')(k:zat σ ρ b b'):zat σ ρ (a++b) (a'++b'):=by
 induction a generalizing a' with
 |nil=>
  cases a' with
  |nil=>simpa using k
  |cons=>exact absurd h.1 (by simp)
 |cons x a ih=>
  cases a' with
  |nil=>exact absurd h.1 (by simp)
  |cons x' a'=>exact zat.cons h.head (ih h.tail)
theorem zat.drop{ρ:Rho}{a a':List Value}(h:zat σ ρ a a')(n:Nat):zat σ ρ (a.drop n) (a'.drop n):=by
 induction n generalizing a a' with
 |zero=>simpa using h
 |succ n ih=>
  cases a with
  |nil=>cases a' with
   |nil=>simpa using h
   |cons=>exact absurd h.1 (by simp)
  |cons x a=>cases a' with
   |nil=>exact absurd h.1 (by simp)
   |cons x' a'=>simpa using ih h.tail
theorem zat.take{ρ:Rho}{a a':List Value}(h:zat σ ρ a a')(n:Nat):zat σ ρ (a.take n) (a'.take n):=by
 induction n generalizing a a' with
 |zero=>simpa using zat.nil ρ
 |succ n ih=>
  cases a with
  |nil=>cases a' with
   |nil=>simpa using h
   |cons=>exact absurd h.1 (by simp)
  |cons x a=>cases a' with
   |nil=>exact absurd h.1 (by simp)
   |cons x' a'=>simpa using zat.cons h.head (ih h.tail)
theorem zat.set{ρ:Rho}{a a':List Value}{v v':Value}(h:zat σ ρ a a')(hv:zaq σ ρ v v')(n:Nat):zat σ ρ (a.set n v) (a'.set n v'):=by
 induction n generalizing a a' with
 |zero=>
  cases a with
  |nil=>cases a' with
   |nil=>simpa using h
   |cons=>exact absurd h.1 (by simp)
  |cons x a=>cases a' with
   |nil=>exact absurd h.1 (by simp)
   |cons x' a'=>simpa using zat.cons hv h.tail
 |succ n ih=>
  cases a with
  |nil=>cases a' with
   |nil=>simpa using h
   |cons=>exact absurd h.1 (by simp)
  |cons x a=>cases a' with
   |nil=>exact absurd h.1 (by simp)
   |cons x' a'=>simpa using zat.cons h.head (ih h.tail)
theorem zat.replicate(ρ:Rho){v v':Value}(h:zaq σ ρ v v')(n:Nat):zat σ ρ (List.replicate n v) (List.replicate n v'):=by
 induction n with
 |zero=>simpa using zat.nil ρ
 |succ n ih=>simpa [List.replicate_succ] using zat.cons h ih
theorem zat.get? {ρ:Rho}{a a':List Value}(h:zat σ ρ a a'){i:Nat}{v:Value}(hi:a[i]? =some v):∃v',a'[i]? =some v'∧zaq σ ρ v v':=by
 have hlt:i<a.length:=(List.getElem?_eq_some_iff.1 hi).1;have hlt':i<a'.length:=by have:=h.1;omega
 have:=h.2 i hlt;rw[gD',gD',hi,gE' hlt'] at this;exact⟨_,gE' hlt',this⟩
theorem zat.agg{ρ:Rho}{cs cs':Array Value}(h:zat σ ρ cs.toList cs'.toList):zaq σ ρ (.agg cs) (.agg cs'):=
 .agg (by simpa using h.1) λi hi=>by rw[zaw,zaw];exact h.2 i (by simpa using hi)
theorem zat.tuple{ρ:Rho}{cs cs':Array Value}(h:zat σ ρ cs.toList cs'.toList):zaq σ ρ (.tuple cs) (.tuple cs'):=
 .tuple (by simpa using h.1) λi hi=>by rw[zaw,zaw];exact h.2 i (by simpa using hi)
theorem zcs{ρ:Rho}{cs cs':Array Value}(h1:cs.size=cs'.size)(h2:∀i,i<cs.size->zaq σ ρ (cs.getD i undef) (cs'.getD i undef)):zat σ ρ cs.toList cs'.toList:=
 ⟨by simpa using h1,λi hi=>by have:=h2 i (by simpa using hi);rwa[zaw,zaw] at this⟩
theorem zaq.agg_inv{ρ:Rho}{cs:Array Value}{v:Value}(h:zaq σ ρ (.agg cs) v):∃cs',v= .agg cs'∧zat σ ρ cs.toList cs'.toList:=by
 cases h with
 |agg h1 h2=>exact⟨_,rfl,zcs h1 h2⟩
theorem zaq.tuple_inv{ρ:Rho}{cs:Array Value}{v:Value}(h:zaq σ ρ (.tuple cs) v):∃cs',v= .tuple cs'∧zat σ ρ cs.toList cs'.toList:=by
 cases h with
 |tuple h1 h2=>exact⟨_,rfl,zcs h1 h2⟩
theorem zaq.cells{ρ:Rho}{v v':Value}(h:zaq σ ρ v v')(hj:zdn v=false):zat σ ρ v.cells.toList v'.cells.toList:=by
 cases h with
 |agg h1 h2=>exact zcs h1 h2
 |sym h=>have hv:zaq σ ρ (.func (.method _) _ _) v':= .sym h;rcases σ.data _ _ h with⟨k,n,rfl⟩|⟨b,rfl⟩|⟨s,rfl⟩<;>exact zat.cons hv (zat.nil ρ)
 |junk=>cases hj
 |tie=>cases hj
 |_=>exact zat.cons (by first|assumption|(constructor<;>assumption)) (zat.nil ρ)
theorem zaq.oneCell{ρ:Rho}{v v':Value}(h:zaq σ ρ v v')(h1:oneCell v=true):oneCell v'=true:=by
 cases h with
 |sym h=>rcases σ.data _ _ h with⟨k,n,rfl⟩|⟨b,rfl⟩|⟨s,rfl⟩<;>rfl
 |junk=>cases h1
 |tie=>cases h1
 |_=>first|rfl|cases h1
theorem zd6{p:Value->Bool}{l:List Value}(h:l.all p=true){i:Nat}(hi:i<l.length):p (l.getD i undef)=true:=by rw[gD',gE' hi];exact List.all_eq_true.1 h _ (List.getElem_mem hi)
theorem zl8(ρ:Rho):∀(n:Nat) (v:Value),zaP n v=true->zaq σ ρ v v:=by
 intro n
 induction n with
 |zero=>
  intro v h;cases v with
  |bool=>exact .bool _
  |int=>exact .int _ _
  |float=>exact .float _ _
  |complex=>exact .complex _ _ _
  |string=>exact .string _
  |nilFunc=>exact .nilFunc
  |nilIface=>exact .nilIface
  |map r=>cases r with
   |none=>exact .nilMap
   |some r=>simp[zaP] at h
  |pointer a=>cases a with
   |none=>exact .nilPtr
   |some a=>simp[zaP] at h
  |slice a n c=>cases a with
   |none=>simp[zaP] at h;obtain⟨rfl,rfl⟩:=h;exact .nilSlice
   |some a=>simp[zaP] at h
  |_=>simp[zaP] at h
 |succ n ih=>
  intro v h;cases v with
  |bool=>exact .bool _
  |int=>exact .int _ _
  |float=>exact .float _ _
  |complex=>exact .complex _ _ _
  |string=>exact .string _
  |nilFunc=>exact .nilFunc
  |nilIface=>exact .nilIface
  |map r=>cases r with
   |none=>exact .nilMap
   |some r=>simp[zaP] at h
  |pointer a=>cases a with
   |none=>exact .nilPtr
   |some a=>simp[zaP] at h
  |slice a n c=>cases a with
   |none=>simp[zaP] at h;obtain⟨rfl,rfl⟩:=h;exact .nilSlice
   |some a=>simp[zaP] at h
  |iface t v=>exact .iface t (ih v (by simpa [zaP] using h))
  |agg cs=>exact zat.agg ⟨rfl,λi hi=>ih _ (zd6 (by simpa only[zaP] using h) hi)⟩
  |tuple cs=>exact zat.tuple ⟨rfl,λi hi=>ih _ (zd6 (by simpa only[zaP] using h) hi)⟩
  |_=>simp[zaP] at h
theorem zaF(ρ:Rho){v:Value}(h:plain v=true):zaq σ ρ v v:=zl8 ρ 6 v h
theorem zcc{l l':List Value}(h1:l.length=l'.length)(h:∀i,i<l.length->l.getD i undef=l'.getD i undef):l=l':=by apply List.ext_getElem h1;intro i hi hi';have:=h i hi;rwa[gD',gD',gE' hi,gE' hi'] at this
theorem zdl{v:Value}(h:plain v=true):zdn v=false:=by cases v<;>first|rfl|(simp[plain,zaP] at h;done)
theorem zs6{v:Value}(h:v.cells.toList.all oneCell=true):zdn v=false:=by cases v<;>first|rfl|(simp[Value.cells,oneCell] at h;done)
theorem zs3{ρ:Rho}:∀(n:Nat) (v v':Value),zaP n v=true->zaq σ ρ v v'->v=v':=by
 intro n
 induction n with
 |zero=>intro v v' h hr;cases hr<;>first|rfl|(simp[zaP] at h)
 |succ n ih=>
  intro v v' h hr;cases hr with
  |iface t hv=>rw[ih _ _ (by simpa [zaP] using h) hv]
  |agg h1 h2=>have hl:=zcs h1 h2;congr 1;apply Array.toList_inj.1;exact zcc hl.1 λi hi=>ih _ _ (zd6 (by simpa only[zaP] using h) hi) (hl.2 i hi)
  |tuple h1 h2=>have hl:=zcs h1 h2;congr 1;apply Array.toList_inj.1;exact zcc hl.1 λi hi=>ih _ _ (zd6 (by simpa only[zaP] using h) hi) (hl.2 i hi)
  |_=>first|rfl|(simp[zaP] at h)
theorem zbG{ρ:Rho}{v v':Value}(h:plain v=true)(hr:zaq σ ρ v v'):v=v':=zs3 6 v v' h hr
def wr:zaS->Bool
 | .cells _ rw _=>rw
 | .map _ rw=>rw
 | .strIter _ _=>true
 | .loop _=>true
 | .frz _=>false
def zqg:Option Exit->Option Code->Prop
 |none,none=>True
 |some .ret,some .ret=>True
 |some (.exit i),some (.exit j)=>i=j
 |_,_=>False
def za2(σ:Sig)(ρ:Rho)(w:World)(x:Nat×Nat×Nat)(cs:List Value)(rw:Bool)(sz:Nat):Prop:=
 ∃cs' t fz,w.heap[x.1]? =some (.cells cs' t fz)∧x.2.1+cs.length+x.2.2*sz<=cs'.size∧((rw=true->fz=(0,0))∧(sz=0->x.2.1=0))∧
  ∀i,i<cs.length->zaq σ ρ (cs.getD i undef) (cs'.getD (x.2.1+i) undef)
def zgu(σ:Sig)(ρ:Rho)(w:World)(x:Nat×Nat×Nat):zaS->Prop
 | .cells cs rw sz=>za2 σ ρ w x cs.list rw sz
 | .map es _=>∃es' clock,w.heap[x.1]? =some (.map es' clock)∧MapKept.Stamped es' clock∧es.length=es'.size∧
   ∀(i:Nat) (e:Value×Value),es[i]? =some e->∃e':MapEntry,es'[i]? =some e'∧zaq σ ρ e.1 e'.key∧zaq σ ρ e.2 e'.val
 | .strIter s pos=>w.heap[x.1]? =some (.stringIter s pos)∧x.2.1=0
 | .loop r=>∃r',w.heap[x.1]? =some (.loop r')∧r'.state=r.state∧zqg r.pend r'.pending∧zat σ ρ r.tmps r'.tmps.toList∧r'.params.toList=r.ps∧
   zbw r'.assign=some r.assign∧zbw r'.body=some r.body
 | .frz tag=>∃C cs' t fz,σ.F tag=some C∧w.heap[x.1]? =some (.cells cs' t fz)∧x.2.1+C.length+x.2.2<=cs'.size∧∀i,i<C.length->cs'.getD (x.2.1+i) undef=C.getD i undef
structure Rel(σ:Sig)(ρ:Rho)(m:Mem)(w:World):Prop where
 dom:∀b,m.next<=b->ρ b=none
 glob:∀g,g<64->ρ g=some (g,0,0)
 obj:∀b o x,m.get b=some o->ρ b=some x->zgu σ ρ w x o
 inj:∀b1 b2 o1 o2 x1 x2,b1≠b2->m.get b1=some o1->m.get b2=some o2->ρ b1=some x1->ρ b2=some x2->wr o1=true->x1.1≠x2.1
 fresh:∀b,m.next<=b->m.get b=none
structure zaN(σ:Sig)(ρ:Rho)(m:Mem)(w:World)(ρ':Rho)(m':Mem)(w':World):Prop where
 rel:Rel σ ρ' m' w'
 ext:Ext ρ ρ'
 next:m.next<=m'.next
 size:w.heap.size<=w'.heap.size
 os:w'.os=w.os
 tape:w'.tape=w.tape
 output:w'.output=w.output
 frame:∀k,k<w.heap.size->(∀b o x,m.get b=some o->wr o=true->ρ b=some x->x.1≠k)->w'.heap[k]? =w.heap[k]?
 img:∀b o x,m'.get b=some o->ρ' b=some x->x.1<w.heap.size->∃b0 o0 x0,m.get b0=some o0∧ρ b0=some x0∧x0.1=x.1∧(wr o=true->wr o0=true)
theorem zaN.refl{ρ:Rho}{m:Mem}{w:World}(h:Rel σ ρ m w):zaN σ ρ m w ρ m w:=
 ⟨h,Ext.refl ρ,lR' _,lR' _,rfl,rfl,rfl,λ_ _ _=>rfl,λb o x hb hx _=>⟨b,o,x,hb,hx,rfl,id⟩⟩
def Old(n:Nat)(ρ ρ':Rho):Prop:=∀b,b<n->ρ b=none->ρ' b=none
def zeU(n i:Nat)(ρ ρ':Rho):Prop:=∀b,b<n->b≠i->ρ b=none->ρ' b=none
theorem zaN.trans{ρ ρ1 ρ2:Rho}{m m1 m2:Mem}{w w1 w2:World}(h:zaN σ ρ m w ρ1 m1 w1)(k:zaN σ ρ1 m1 w1 ρ2 m2 w2):zaN σ ρ m w ρ2 m2 w2:=
 ⟨k.rel,h.ext.trans k.ext,lT h.next k.next,lT h.size k.size,
  k.os.trans h.os,k.tape.trans h.tape,k.output.trans h.output,
  λi hi hf=>by refine(k.frame i (lL hi h.size) ?_).trans (h.frame i hi hf);intro b o x hb hw hx hk;obtain⟨b0,o0,x0,h1,h2,h3,h4⟩:=h.img b o x hb hx (hk▸hi);exact hf b0 o0 x0 h1 (h4 hw) h2 (h3.trans hk),
  λb o x hb hx hlt=>by obtain⟨b1,o1,x1,h1,h2,h3,h4⟩:=k.img b o x hb hx (lL hlt h.size);obtain⟨b0,o0,x0,g1,g2,g3,g4⟩:=h.img b1 o1 x1 h1 h2 (h3▸hlt);exact⟨b0,o0,x0,g1,g2,g3.trans h3,λhw=>g4 (h4 hw)⟩⟩
theorem zgu.keep{ρ ρ':Rho}{w w':World}{x:Nat×Nat×Nat}{o:zaS}(h:zgu σ ρ w x o)(he:Ext ρ ρ')(hh:w'.heap[x.1]? =w.heap[x.1]?):zgu σ ρ' w' x o:=by
 cases o with
 |cells cs rw sz=>obtain⟨cs',t,fz,h1,h2,h3,h4⟩:=h;exact⟨cs',t,fz,hh.trans h1,h2,h3,λi hi=>(h4 i hi).mono he⟩
 |map es rw=>obtain⟨es',c,h1,hst,h2,h3⟩:=h;exact⟨es',c,hh.trans h1,hst,h2,λi e hi=>let⟨e',g1,g2,g3⟩:=h3 i e hi;⟨e',g1,g2.mono he,g3.mono he⟩⟩
 |strIter s pos=>exact⟨hh.trans h.1,h.2⟩
 |loop r=>obtain⟨r',h1,h2,h3,h4,h5,h6,h7⟩:=h;exact⟨r',hh.trans h1,h2,h3,h4.mono he,h5,h6,h7⟩
 |frz tag=>obtain⟨C,cs',t,fz,h1,h2,h3,h4⟩:=h;exact⟨C,cs',t,fz,h1,hh.trans h2,h3,h4⟩
theorem zgu.lt{ρ:Rho}{w:World}{x:Nat×Nat×Nat}{o:zaS}(h:zgu σ ρ w x o):x.1<w.heap.size:=by
 have key:∀y:Obj,w.heap[x.1]? =some y->x.1<w.heap.size:=λy hy=>(Array.getElem?_eq_some_iff.1 hy).1;cases o with
 |cells cs rw sz=>obtain⟨cs',t,fz,h1,_⟩:=h;exact key _ h1
 |map es rw=>obtain⟨es',c,h1,_⟩:=h;exact key _ h1
 |strIter s pos=>exact key _ h.1
 |loop r=>obtain⟨r',h1,_⟩:=h;exact key _ h1
 |frz tag=>obtain⟨C,cs',t,fz,_,h1,_⟩:=h;exact key _ h1
theorem Rel.drew{ρ:Rho}{m:Mem}{w:World}(h:Rel σ ρ m w):Rel σ ρ m w.drew:=
 ⟨h.dom,h.glob,λb o x hb hx=>(h.obj b o x hb hx).keep (Ext.refl ρ) rfl,h.inj,h.fresh⟩
theorem Rel.bump{ρ:Rho}{m:Mem}{w:World}(h:Rel σ ρ m w)(n:Nat):Rel σ ρ (m.bump n) w:=
 ⟨λb hb=>h.dom b (by simp at hb;omega),h.glob,h.obj,h.inj,λb hb=>h.fresh b (by simp at hb;omega)⟩
def upd(ρ:Rho)(b:Nat)(x:Nat×Nat×Nat):Rho:=λk=>if k=b then some x else ρ k
theorem zbo(ρ:Rho)(b:Nat)(x:Nat×Nat×Nat):upd ρ b x b=some x:=by simp[upd]
theorem zeB{ρ:Rho}{b:Nat}(h:ρ b=none)(x:Nat×Nat×Nat):Ext ρ (upd ρ b x):=by
 intro k y hk;have:k≠b:=λe=>by rw[e,h] at hk;cases hk
 simp[upd,this,hk]
theorem zaN.make{ρ:Rho}{m:Mem}{w:World}(h:Rel σ ρ m w){id:Nat}(hid:ρ id=none)(hlt:id<m.next){ob:zaS}{co:Obj}{x:Nat×Nat×Nat}(hx:x.1=w.heap.size)
  (hob:zgu σ (upd ρ id x) (w.alloc co) x ob):zaN σ ρ m w (upd ρ id x) (m.put id ob) (w.alloc co):=by
 have he:=zeB hid x;have hge:64<=id:=by
  rcases Nat.lt_or_ge id 64 with hl|hl
  ·rw[h.glob id hl] at hid;cases hid
  ·exact hl
 have hold:∀k,k<w.heap.size->(w.alloc co).heap[k]? =w.heap[k]? :=λk hk=>by show(w.heap.push co)[k]? =_;rw[Array.getElem?_push,if_neg (by omega)]
 refine⟨⟨λb hb=>?_,λg hg=>?_,λb o y hb hy=>?_,?_,λb hb=>by rw[Mem.get_put,if_neg (by simp at hb;omega)];exact h.fresh b hb⟩,he,lR' _,by simp,rfl,rfl,rfl,λk hk _=>hold k hk,λb o y hb hy hlt'=>?_⟩
 ·have:b≠id:=by simp at hb;omega
  simp only[upd,this,if_false];exact h.dom b hb
 ·have:g≠id:=by omega
  simp only[upd,this,if_false];exact h.glob g hg
 ·rw[Mem.get_put] at hb;by_cases e:b=id
  ·subst e;rw[if_pos rfl] at hb;cases hb;rw[zbo] at hy;cases hy;exact hob
  ·rw[if_neg e] at hb;have hy':ρ b=some y:=by simpa [upd,e] using hy
   have:=h.obj b o y hb hy';exact this.keep he (hold _ this.lt)
 ·intro b1 b2 o1 o2 x1 x2 hne h1 h2 g1 g2 hw;rw[Mem.get_put] at h1 h2;by_cases e1:b1=id
  ·subst e1;rw[zbo] at g1;cases g1;rw[if_neg (λe=>hne e.symm)] at h2;have e':b2≠b1:=λe=>hne e.symm;have g2':ρ b2=some x2:=by simpa [upd,e'] using g2
   have:=(h.obj b2 o2 x2 h2 g2').lt;omega
  ·rw[if_neg e1] at h1;have g1':ρ b1=some x1:=by simpa [upd,e1] using g1
   by_cases e2:b2=id
   ·subst e2;rw[zbo] at g2;cases g2;have:=(h.obj b1 o1 x1 h1 g1').lt;omega
   ·rw[if_neg e2] at h2;have g2':ρ b2=some x2:=by simpa [upd,e2] using g2
    exact h.inj b1 b2 o1 o2 x1 x2 hne h1 h2 g1' g2' hw
 ·rw[Mem.get_put] at hb;by_cases e:b=id
  ·subst e;rw[zbo] at hy;cases hy;omega
  ·rw[if_neg e] at hb;exact⟨b,o,y,hb,by simpa [upd,e] using hy,rfl,λhw=>hw⟩
end Go.Ab
namespace Go.Ab
section
variable{P:Program}
def zcf(id:Nat)(m m':Mem):Prop:=m.next<=m'.next∧∀b,b<m.next->b≠id->m.get b=none->m'.get b=none
def zdD(lo:Nat)(m m':Mem):Prop:=m.next<=m'.next∧∀b,b<m.next->b<lo->m.get b=none->m'.get b=none
def Grow(m m':Mem):Prop:=m.next<=m'.next∧∀b,b<m.next->m.get b=none->m'.get b=none
theorem Grow.refl(m:Mem):Grow m m:=⟨lR' _,λ_ _ h=>h⟩
theorem Grow.trans{a b c:Mem}(h:Grow a b)(k:Grow b c):Grow a c:=⟨lT h.1 k.1,λx hx e=>k.2 x (lL hx h.1) (h.2 x hx e)⟩
theorem Grow.but{m m':Mem}(h:Grow m m')(id:Nat):zcf id m m':=⟨h.1,λb hb _ e=>h.2 b hb e⟩
theorem zcf.lo{id lo:Nat}{m m':Mem}(h:zcf id m m')(hl:lo<=id):zdD lo m m':=⟨h.1,λb hb hlo e=>h.2 b hb (by omega) e⟩
theorem zdD.refl(lo:Nat)(m:Mem):zdD lo m m:=⟨lR' _,λ_ _ _ h=>h⟩
theorem zdD.trans{lo:Nat}{a b c:Mem}(h:zdD lo a b)(k:zdD lo b c):zdD lo a c:=⟨lT h.1 k.1,λx hx hlo e=>k.2 x (lL hx h.1) hlo (h.2 x hx hlo e)⟩
theorem zdD.bumped{m m':Mem}{n:Nat}(h:zdD m.next (m.bump n) m'):Grow m m':=⟨by have:=h.1;simp at this;omega,λb hb e=>h.2 b (by simp;omega) hb e⟩
theorem Grow.put{m:Mem}{b:Nat}{o o':zaS}(h:m.get b=some o):Grow m (m.put b o'):=⟨lR' _,λc _ e=>by
 rw[Mem.get_put];split
 ·rename_i hc;rw[hc,h] at e;cases e
 ·exact e⟩
theorem zcf.put(m:Mem)(id:Nat)(o:zaS):zcf id m (m.put id o):=⟨lR' _,λc _ hc e=>by rw[Mem.get_put,if_neg hc];exact e⟩
theorem Grow.kill(m:Mem)(b:Nat):Grow m (m.kill b):=⟨lR' _,λc _ e=>by
 rw[Mem.get_kill];split
 ·rfl
 ·exact e⟩
theorem Grow.then{m m1 m':Mem}{id:Nat}(h:Grow m m1)(k:zcf id m1 m'):zcf id m m':=⟨lT h.1 k.1,λc hc hi e=>k.2 c (lL hc h.1) hi (h.2 c hc e)⟩
theorem zmt{t:TypeId}{a v:Value}{m m':Mem}(h:zcZ P t a v m=some m'):Grow m m':=by
 unfold zcZ at h
 repeat' split at h
 all_goals first
  |(cases h;done)
  |(cases h;apply Grow.put;assumption)
theorem zk8{t:TypeId}{mp k v:Value}{m m':Mem}(h:zfc P t mp k v m=some m'):Grow m m':=by
 unfold zfc at h
 repeat' split at h
 all_goals first
  |(cases h;done)
  |(simp only[mE] at h;obtain⟨_,_,rfl⟩:=h;apply Grow.put;assumption)
theorem zkg{at_:Array TypeId}{mp k:Value}{m m':Mem}(h:zf5 P at_ mp k m=some m'):Grow m m':=by
 unfold zf5 at h
 repeat' split at h
 all_goals first
  |(cases h;done)
  |(simp only[mE] at h;obtain⟨_,_,rfl⟩:=h;first|exact Grow.refl _|(apply Grow.put;assumption))
theorem zmJ{at_:Array TypeId}{x:Value}{m m':Mem}(h:zdF P at_ x m=some m'):Grow m m':=by
 unfold zdF at h
 repeat' split at h
 all_goals first
  |(cases h;done)
  |(simp only[sI] at h;subst h;first|exact Grow.refl _|(apply Grow.put;assumption))
theorem zob{at_:Array TypeId}{d x v:Value}{m m':Mem}(h:zos P at_ d x m=some (v,m')):Grow m m':=by
 unfold zos at h;simp only at h
 repeat' split at h
 all_goals first
  |(cases h;done)
  |(simp only[sI,pI] at h;obtain⟨_,rfl⟩:=h;first|exact Grow.refl _|(apply Grow.put;assumption))
theorem zkr{id:Nat}{at_:Array TypeId}{s x v:Value}{m m':Mem}(h:zaV P id at_ s x m=some (v,m')):zcf id m m':=by
 unfold zaV at h
 repeat' split at h
 all_goals first
  |(cases h;done)
  |(simp only[sI,pI] at h;obtain⟨_,rfl⟩:=h
    first
    |exact(Grow.refl _).but _
    |exact zcf.put _ _ _
    |exact(Grow.kill _ _).then (zcf.put _ _ _)
    |(refine Grow.but ?_ _;apply Grow.put;assumption))
theorem zn7{it v:Value}{m m':Mem}(h:zrF it m=some (v,m')):Grow m m':=by
 unfold zrF at h
 repeat' split at h
 all_goals first
  |(cases h;done)
  |(rename_i hm _
    simp only[sI,pI] at h;obtain⟨_,rfl⟩:=h
    first
     |exact Grow.put hm
     |exact Grow.refl _)
theorem zhc{id:Nat}{o:SOp}{r:Operand->Value}{m m':Mem}{q:Req}(h:zeZ P id o r m=some (q,m')):zcf id m m':=by
 unfold zeZ at h
 repeat' split at h
 all_goals first
  |(cases h;done)
  |(simp only[mE,pI] at h
    obtain⟨z,hz,_,rfl⟩:=h
    first
    |exact(zmt hz).but _
    |exact(zk8 hz).but _
    |exact(zkg hz).but _
    |exact(zmJ hz).but _
    |exact zkr (v:=z.1) hz
    |exact(zob (v:=z.1) hz).but _
    |exact(zn7 (v:=z.1) hz).but _)
  |(simp only[sI,pI] at h;obtain⟨_,rfl⟩:=h;exact(Grow.refl _).but _)
variable{E:Env}{self:zdv}
theorem ztP(hs:∀tk m o m',self tk m=some (o,m')->Grow m m'){id:Nat}{o:SOp}{t:List Value}{m m':Mem}{v:Value}(h:opA E self id o t m=some (v,m')):zcf id m m':=by
 unfold opA at h;split at h
 ·split at h
  ·simp only[sI,pI] at h;obtain⟨_,rfl⟩:=h;exact(Grow.refl _).but _
  ·cases h
 ·split at h
  ·simp only[sI,pI] at h;obtain⟨_,rfl⟩:=h;exact(Grow.refl _).but _
  ·cases h
 ·split at h
  ·simp only[sI,pI] at h;obtain⟨_,rfl⟩:=h;exact zcf.put _ _ _
  ·cases h
 ·split at h
  ·rename_i he;simp only[sI,pI] at h;obtain⟨_,rfl⟩:=h;exact zhc he
  ·rename_i he;split at h
   ·rename_i hc;simp only[sI,pI] at h;obtain⟨_,rfl⟩:=h;have h1:=zhc he;have h2:=hs _ _ _ _ hc;exact⟨lT h1.1 h2.1,λb hb hi e=>h2.2 b (lL hb h1.1) (h1.2 b hb hi e)⟩
   ·cases h
  ·rename_i he;split at h
   ·rename_i hc;simp only[sI,pI] at h;obtain⟨_,rfl⟩:=h;have h1:=zhc he;have h2:=hs _ _ _ _ hc;exact⟨lT h1.1 h2.1,λb hb hi e=>h2.2 b (lL hb h1.1) (h1.2 b hb hi e)⟩
   ·cases h
  ·cases h
theorem zdX(hs:∀tk m o m',self tk m=some (o,m')->Grow m m'){id:Nat}{o:SOp}{t t':List Value}{m m':Mem}(h:zbz E self id o t m=some (t',m')):zcf id m m':=by
 unfold zbz at h;split at h
 ·cases h
 split at h
 ·split at h
  ·rename_i ho;simp only[sI,pI] at h;obtain⟨_,rfl⟩:=h;exact ztP hs ho
  ·cases h
 ·simp only[sI,pI] at h;obtain⟨_,rfl⟩:=h;exact(Grow.refl _).but _
theorem zhf(hs:∀tk m o m',self tk m=some (o,m')->Grow m m'){lo:Nat}:∀{l:List SOp} {id:Nat} {t t':List Value} {m m':Mem},lo<=id->zea E self id l t m=some (t',m')->zdD lo m m'
 |[],id,t,t',m,m',_,h=>by simp only[zea,sI,pI] at h;obtain⟨_,rfl⟩:=h;exact zdD.refl _ _
 |o::l,id,t,t',m,m',hl,h=>by
  simp only[zea] at h;split at h
  ·rename_i h1;exact((zdX hs h1).lo hl).trans (zhf hs (by omega) h)
  ·cases h
theorem zij(hs:∀tk m o m',self tk m=some (o,m')->Grow m m'){base:Nat}{ops:List SOp}:∀{l:List (Nat×List Nat)} {hist:List (Nat×Mem)} {t t':List Value} {m m':Mem},zfn E self base ops l hist t m=some (t',m')->zdD base m m'
 |[],hist,t,t',m,m',h=>by simp only[zfn,sI,pI] at h;obtain⟨_,rfl⟩:=h;exact zdD.refl _ _
 |(i,re)::l,hist,t,t',m,m',h=>by
  simp only[zfn] at h;split at h
  ·cases h
  ·split at h
   ·split at h
    ·rename_i h1;exact((zdX hs h1).lo (by omega)).trans (zij hs h)
    ·cases h
   ·cases h
theorem zjb(hs:∀tk m o m',self tk m=some (o,m')->Grow m m'){rd:Option Nat}{c:zan}{t:List Value}{m m':Mem}{o:Out}(h:zao E self rd c t m=some (o,m')):Grow m m':=by
 cases c with
 |skip=>simp only[zao,sI,pI] at h;obtain⟨_,rfl⟩:=h;exact Grow.refl _
 |exit=>simp only[zao,sI,pI] at h;obtain⟨_,rfl⟩:=h;exact Grow.refl _
 |ret=>simp only[zao,sI,pI] at h;obtain⟨_,rfl⟩:=h;exact Grow.refl _
 |seq a b=>
  simp only[zao] at h;split at h
  ·rename_i h1;exact(hs _ _ _ _ h1).trans (hs _ _ _ _ h)
  ·exact hs _ _ _ _ h
 |cond=>
  simp only[zao] at h;split at h
  ·exact hs _ _ _ _ h
  ·exact hs _ _ _ _ h
  ·cases h
 |block=>
  simp only[zao] at h;split at h
  ·rename_i h1;simp only[sI,pI] at h;obtain⟨_,rfl⟩:=h;exact hs _ _ _ _ h1
  ·exact hs _ _ _ _ h
 |loop=>
  simp only[zao] at h;split at h
  ·rename_i h1;exact(hs _ _ _ _ h1).trans (hs _ _ _ _ h)
  ·exact hs _ _ _ _ h
 |label=>simp only[zao,sI,pI] at h;obtain⟨_,rfl⟩:=h;exact Grow.refl _
 |goto=>simp only[zao,sI,pI] at h;obtain⟨_,rfl⟩:=h;exact Grow.refl _
 |scope b=>
  simp only[zao] at h;split at h
  ·rename_i h1;split at h
   ·exact(hs _ _ _ _ h1).trans (hs _ _ _ _ h)
   ·simp only[sI,pI] at h;obtain⟨_,rfl⟩:=h;exact hs _ _ _ _ h1
  ·exact hs _ _ _ _ h
 |again b r=>
  simp only[zao] at h;split at h
  ·rename_i h1;split at h
   ·exact(hs _ _ _ _ h1).trans (hs _ _ _ _ h)
   ·simp only[sI,pI] at h;obtain⟨_,rfl⟩:=h;exact hs _ _ _ _ h1
  ·exact hs _ _ _ _ h
 |reg=>
  simp only[zao] at h;split at h
  ·rename_i h1;simp only[sI,pI] at h;obtain⟨_,rfl⟩:=h;exact(zhf hs (lR' _) h1).bumped
  ·cases h
 |dreg=>
  simp only[zao] at h;split at h
  ·rename_i h1;simp only[sI,pI] at h;obtain⟨_,rfl⟩:=h;exact(zij hs h1).bumped
  ·cases h
 |rfn f ps as bd=>
  simp only[zao] at h;split at h
  ·rename_i g first cap hev
   generalize(zab E.P g&&_)=bb at h;cases bb with
   |true=>
    simp only[if_true] at h;split at h
    ·rename_i h1;have g1:=hs _ _ _ _ h1;have g0:∀o,Grow m ((m.bump 1).put m.next o):=λo=>⟨by simp,λb hb e=>by rw[Mem.get_put,if_neg (by omega)];exact e⟩;split at h
     ·rename_i hr;split at h
      ·cases h
      ·split at h
       ·simp only[sI,pI] at h;obtain⟨_,rfl⟩:=h;exact((g0 _).trans g1).trans (Grow.put hr)
       ·split at h
        ·simp only[sI,pI] at h;obtain⟨_,rfl⟩:=h;exact((g0 _).trans g1).trans (Grow.put hr)
        ·cases h
     ·cases h
    ·cases h
   |false=>simp at h
  ·cases h
theorem zrv(hs:∀tk m o m',self tk m=some (o,m')->Grow m m')(hp:∀f p args m v m',E.prim f=some p->p args m=some (v,m')->Grow m m'){tk:zpE}{m m':Mem}{o:Out}(h:step E self tk m=some (o,m')):Grow m m':=by
 cases tk with
 |code rd c t=>exact zjb hs h
 |call f args=>
  simp only[step] at h;split at h
  ·rename_i p hpr;split at h
   ·rename_i h1;simp only[sI,pI] at h;obtain⟨_,rfl⟩:=h;exact hp _ _ _ _ _ _ hpr h1
   ·cases h
  ·split at h
   ·cases h
   ·split at h
    ·rename_i x t' m2 h1;have g1:=hs _ _ _ _ h1;have:m'=m2:=by
      cases hr:zeh E.P t' m2 (by assumption:zal).results with
      |none=>rw[hr] at h;cases x<;>simp at h
      |some vs=>rw[hr] at h;cases x<;>simp at h<;>exact h.2.symm
     exact this▸g1
    ·cases h
 |round l args=>
  simp only[step] at h;split at h
  ·split at h
   ·split at h
    ·rename_i h1;have g1:=hs _ _ _ _ h1;split at h
     ·rename_i hr1;split at h
      ·split at h
       ·rename_i h2;have g2:=hs _ _ _ _ h2;split at h
        ·rename_i hr3;have g3:∀o,Grow m _:=λo=>((g1.trans (Grow.put hr1)).trans g2).trans (Grow.put (o':=o) hr3);split at h<;>first|(cases h;done)|(simp only[sI,pI] at h;obtain⟨_,rfl⟩:=h;exact g3 _)
        ·cases h
       ·cases h
      ·cases h
     ·cases h
    ·cases h
   ·cases h
  ·cases h
theorem znr(hp:∀f p args m v m',E.prim f=some p->p args m=some (v,m')->Grow m m'):∀(n:Nat) tk m o m',run E n tk m=some (o,m')->Grow m m'
 |0,_,_,_,_,h=>by cases h
 |n+1,_,_,_,_,h=>zrv (znr hp n) hp h
end
end Go.Ab
