/- Part. -/
import Derived.Test.YtdhcheegbnnlbaaGreatDoorA07
import Derived.KernelRfl
import Derived.Test.YtdhcheegbnnlbaaGreatDoorProg
set_option linter.all false
open Go.Ab.Mem renaming next_bump → bN, next_put → nP, get_bump → gB, get_put → gP
open Nat renaming le_add_right_of_le → lA, lt_of_lt_of_le → lL, le_refl → lR', le_trans → lT
open List renaming getD_eq_getElem?_getD → gD', getElem?_eq_getElem → gE', length_append → aL, getElem?_append_left → aB', getElem?_append_right → aC'
open Option.some renaming injEq → sI
open Go.Ab.CallI renaming con0 → cZ
open Go.Ab.Cells renaming ofList → ofL
namespace Go.Ab
noncomputable section
section
variable{P:Program}{E:Env}
section
variable{base i:Nat}{rest:List (Nat×SOp)}{L:List Inst}{t:List Value}{m:Mem}{K:KI}{ty rt:TypeId}{d:Tmp}
def bsV(P:Program)(ty:TypeId)(len:Nat)(parts:List (Nat×Value)):Option (List Value×Nat):=match P.underlying ty with
 |some (.slice e)=>match szOf P e,zeroOf P e with
  |some s,some z=>if plain z&&decide (len*s<=2 ^ 24)&&z.cells.size==s&&decide (0<s) then
    (fillA (λi=>some (i*s,s)) (zeros z.cells.toList (len*s)) parts).map λcs=>(cs,s)
   else none
  |_,_=>none
 |_=>none
theorem X_bs{n:Nat}{ps:Array (Nat×Operand)}:XWi E base ((i,⟨some d, .buildSlice ty n ps,rt,none⟩)::rest) L t m (Q:=K)=
  okI (bsV E.P ty n (ps.toList.map λp=>(p.1,ev p.2 t))) (k:=⟨λq=>XWi E base rest L (t.set d (.slice (some ⟨base+i,0,none⟩) n n)) (m.put (base+i) (.cells (.ofList q.1) true q.2)) (Q:=K)⟩):=by
 rw[X_buildSlice]
 have:makeA E.P ⟨some d, .buildSlice ty n ps,rt,none⟩ (ev · t)=(bsV E.P ty n (ps.toList.map λp=>(p.1,ev p.2 t))).map λq=>(.cells (.ofList q.1) true q.2,λid=> .slice (some ⟨id,0,none⟩) n n):=by
  simp only[makeA,bsV,partsOf]
  cases hu:E.P.underlying ty with
  |none=>rfl
  |some u=>
   cases u with
   |slice e=>
    simp only
    cases szOf E.P e with
    |none=>rfl
    |some s=>
     cases zeroOf E.P e with
     |none=>rfl
     |some z=>
      simp only
      split
      ·cases fillA (λi=>some (i*s,s)) (zeros z.cells.toList (n*s)) (ps.toList.map λp=>(p.1,ev p.2 t))<;>rfl
      ·rfl
   |_=>rfl
 rw[this]
 refine propext ?_
 unfold okI
 rw[okP_map]
 rfl
end
def srcC(o:Option AObj)(off k n:Nat):Option (List Value×Nat):=match o with
 |some (.cells cs _ _)=>(cs.sub off k).map λl=>(l,n)
 |_=>none
theorem src_at{sz b o n c:Nat}{m:Mem}:srcA sz (.slice (some ⟨b,o,none⟩) n c) m=srcC (m.get b) o (n*sz) n:=by
 unfold srcA srcC
 simp only
 split
 ·rename_i cs w z h;rw[h]
 ·rename_i h
  split
  ·rename_i cs w z h2;exact absurd h2 (h _ _ _)
  ·rfl
theorem src_nil{sz c:Nat}{m:Mem}:srcA sz (.slice none 0 c) m=some ([],0):=rfl
theorem srcC_cells{cs:Cells}{w:Bool}{z off k n:Nat}:srcC (some (.cells cs w z)) off k n=(cs.sub off k).map λl=>(l,n):=rfl
def apG(sz bytes id:Nat)(b n:Nat)(new:List Value)(k:Nat)(m:Mem)(o:Option AObj):Option (Value×Mem):=match o with
 |some (.cells cs true z)=>if n*sz=cs.n∧z=sz∧(n+k)*bytes<=2 ^ 40∧n+k<=2 ^ 40 then some (.slice (some ⟨id,0,none⟩) (n+k) (n+k),(m.kill b).put id (.cells (cs.more 0 new) true sz)) else none
 |_=>none
def apF(sz bytes id:Nat)(s:Value)(src:Option (List Value×Nat))(m:Mem):Option (Value×Mem):=match src with
 |some (new,k)=>if k=0 then some (s,m) else if new.all oneCell=false∨new.length≠k*sz then none else match s with
  | .slice none 0 0=>if k*bytes<=2 ^ 40∧k<=2 ^ 40 then some (.slice (some ⟨id,0,none⟩) k k,m.put id (.cells (.ofList new) true sz)) else none
  | .slice (some ⟨b,0,none⟩) n c=>if n=c then apG sz bytes id b n new k m (m.get b) else none
  |_=>none
 |none=>none
structure ElemOk(P:Program)(ts e:TypeId)(sz bytes:Nat):Prop where
 und:P.underlying ts=some (.slice e)
 info:∃i,P.info? e=some i∧i.size=sz∧i.bytes=bytes
 pos:sz≠0
 zero:∃z,zeroOf P e=some z∧plain z=true∧z.cells.size=sz
theorem ElemOk.of{ts e sz bytes:Nat}{z:List Value}(h1:P.underlying ts=some (.slice e))(h2:(P.info? e).map (λi=>(i.size,i.bytes))=some (sz,bytes))(h3:zeroL P e=some z)(h4:z.length=sz)(h5:sz≠0):ElemOk P ts e sz bytes:=by
 refine⟨h1,?_,h5,?_⟩
 ·cases hi:P.info? e with
  |none=>rw[hi] at h2;cases h2
  |some i=>rw[hi] at h2;cases h2;exact⟨i,rfl,rfl,rfl⟩
 ·unfold zeroL at h3
  split at h3
  ·rename_i v hv
   split at h3
   ·rename_i hp
    cases h3
    exact⟨v,hv,hp,by rw[<-h4,Array.length_toList]⟩
   ·cases h3
  ·cases h3
theorem app_eq{ts e sz bytes id:Nat}{n c:Nat}{base:Option Addr}{x:Value}{m:Mem}(h:ElemOk P ts e sz bytes)(hf:(apF sz bytes id (.slice base n c) (srcA sz x m) m).isSome=true)(hnc:n<=c):
  appendA P id #[ts,ts] (.slice base n c) x m=apF sz bytes id (.slice base n c) (srcA sz x m) m:=by
 obtain⟨h1,⟨i,h2,h3,h4⟩,h5,z,h6,h7,h8⟩:=h
 subst h3 h4
 unfold appendA
 simp only[List.getElem?_toArray,List.getElem?_cons_zero,List.getElem?_cons_succ,h1,h2]
 cases hs:srcA i.size x m with
 |none=>rw[hs] at hf;cases hf
 |some q=>
  obtain⟨new,k⟩:=q
  rw[hs] at hf
  simp only[apF] at hf⊢
  by_cases hk:k=0
  ·rw[if_pos hk,if_pos hk,if_pos hnc]
  rw[if_neg hk] at hf⊢
  rw[if_neg hk]
  by_cases hg:new.all oneCell=false∨new.length≠k*i.size
  ·rw[if_pos hg] at hf;cases hf
  rw[if_neg hg] at hf⊢
  rw[if_neg hg]
  cases base with
  |none=>
   rcases n with _|n<;>rcases c with _|c<;>try(simp at hf;done)
   rw[if_neg (by omega)]
   simp only at hf⊢
   by_cases hb:k*i.bytes<=2 ^ 40∧k<=2 ^ 40
   ·rw[if_pos hb,if_neg (by simp only[Nat.zero_add];rintro(h|h|h);exact h5 h;exact h hb.1;exact h hb.2),h6]
    simp only[h7,h8]
    simp
   ·rw[if_neg hb] at hf;cases hf
  |some a=>
   obtain⟨b,o,p⟩:=a
   cases p with
   |some p=>cases o<;>cases hf
   |none=>
    cases o with
    |succ o=>cases hf
    |zero=>
     simp only at hf⊢
     by_cases hnc:n=c
     ·subst hnc
      rw[if_pos rfl] at hf⊢
      rw[if_neg (by omega)]
      cases hb:m.get b with
      |none=>rw[hb] at hf;cases hf
      |some ob=>
       rw[hb] at hf
       cases ob with
       |cells cs w s=>
        cases w with
        |false=>cases hf
        |true=>
         simp only[apG] at hf⊢
         by_cases hh:n*i.size=cs.n∧s=i.size∧(n+k)*i.bytes<=2 ^ 40∧n+k<=2 ^ 40
         ·rw[if_pos hh,if_neg (by rintro(h|h|h);exact h5 h;exact h hh.2.2.1;exact h hh.2.2.2),h6]
          simp only[h7,h8]
          simp[hh.1,hh.2.1]
         ·rw[if_neg hh] at hf;cases hf
       |_=>cases hf
     ·rw[if_neg hnc] at hf;cases hf
theorem kill_bump(m:Mem)(a b:Nat):(m.bump a).kill b=(m.kill b).bump a:=rfl
theorem more_n{c:Cells}{l:List Value}:(c.more 0 l).n=c.n+l.length:=rfl
theorem more_get{c:Cells}{l:List Value}{i:Nat}:(c.more 0 l).get i=if c.n<=i∧i<c.n+l.length then l.getD (i-c.n) undef else c.get i:=by
 have e:c.more 0 l=⟨c.n+l.length,c.d,Cells.putAll c.t c.n l⟩:=rfl
 rw[e]
 unfold Cells.get
 simp only
 rw[Cells.putAll_get]
 by_cases h:c.n<=i∧i<c.n+l.length
 ·rw[if_pos h,if_pos h,gE' (by omega),gD',gE' (by omega)]
  rfl
 ·rw[if_neg h,if_neg h]
end
section
variable{P:Program}{E:Env}
theorem src_put{sz n c B j z:Nat}{w:Bool}{M:Mem}{l:List Value}(h:l.length=n*sz):srcA sz (.slice (some ⟨B,0,none⟩) n c) ((M.put B (.cells (ofL l) w z)).bump j)=some (l,n):=by
 rw[src_at,get_eq_b,srcC_cells,sub_ofList (by omega)]
 simp[<-h]
section
variable{base i:Nat}{rest:List (Nat×SOp)}{L:List Inst}{t:List Value}{m:Mem}{K:KI}{rt:TypeId}
theorem X_clear{a:Operand}{ts:Array TypeId}{dst:Option Tmp}:XWi E base ((i,⟨dst, .call ⟨.builtin .clear,#[a],ts⟩,rt,none⟩)::rest) L t m (Q:=K)=okI (clearA E.P ts (ev a t) m) (k:=⟨λm'=>XWi E base rest L (putT dst (.tuple #[]) t) m' (Q:=K)⟩):=by
 refine propext (Iff.trans (XW_val (q:=(clearA E.P ts (ev a t) m).map λm'=>(.tuple #[],m')) rfl rfl ?_ ?_) okP_map)
 ·simp only[effA];cases h:clearA E.P ts (ev a t) m<;>simp[h]
 ·simp only[reqA,cls,effA];cases h:clearA E.P ts (ev a t) m<;>simp[h]
end
theorem slice_lo{ty e sz b o n c:Nat}{k:IntKind}{x:Int}(hu:P.underlying ty=some (.slice e))(hz:szOf P e=some sz)(h0:0<=x)(h1:x.toNat<=n)(h2:x.toNat<c)(hn:n<=c):sliceA P ty (.slice (some ⟨b,o,none⟩) n c) (some (.int k x)) none=some (.slice (some ⟨b,o+x.toNat*sz,none⟩) (n-x.toNat) (c-x.toNat)):=by
 have e1:bndA none c n=some n:=by simp[bndA]
 have e2:bndA (some (.int k x)) n 0=some x.toNat:=by
  simp only[bndA]
  rw[if_pos (by omega)]
 unfold sliceA
 simp only[hu,hz,e1,e2]
 by_cases hx:x.toNat=0
 ·rw[if_pos hx,hx];simp
 ·rw[if_neg hx,if_pos h2]
theorem slice_hi{ty e sz b o n c:Nat}{k:IntKind}{x:Int}(hu:P.underlying ty=some (.slice e))(hz:szOf P e=some sz)(h0:0<=x)(h1:x.toNat<=c):sliceA P ty (.slice (some ⟨b,o,none⟩) n c) none (some (.int k x))=some (.slice (some ⟨b,o,none⟩) x.toNat c):=by
 have e1:bndA (some (.int k x)) c n=some x.toNat:=by
  simp only[bndA]
  rw[if_pos (by omega)]
 have e2:bndA none x.toNat 0=some 0:=by simp[bndA]
 unfold sliceA
 simp only[hu,hz,e1,e2]
 simp
end
section
variable{P:Program}{E:Env}
def Low(m:Mem)(n:Nat):Prop:=∀b,n<=b->m.get b=none
theorem Low.put{m:Mem}{n b:Nat}{o:AObj}(h:Low m n)(hb:b<n):Low (m.put b o) n:=λc hc=>by
 rw[gP,if_neg (by omega),h c hc]
theorem Low.bump{m:Mem}{n k:Nat}(h:Low m n):Low (m.bump k) n:=λc hc=>by rw[gB,h c hc]
theorem Low.of{m:Mem}{n:Nat}(h:Fresh m)(hn:m.next<=n):Low m n:=λc hc=>h.none c (by omega)
theorem Fresh.of_low{m:Mem}(h0:64<=m.next)(h:Low m m.next):Fresh m:=⟨h0,h⟩
def RawE(m m1:Mem)(v:Value)(R:Value->Mem->Prop):Prop:=Grow m m1∧R v m1
def FinX(P:Program)(rs:List ResultVar)(m:Mem)(R:Value->Mem->Prop)(x:Exit)(t:List Value)(m1:Mem):Prop:=
 (x= .normal∨x= .ret)∧∃vs,resA P t m1 rs=some vs∧RawE m m1 (oneOr vs) R
section
variable{rs:List ResultVar}{m m1:Mem}{R:Value->Mem->Prop}{t:List Value}
theorem fXr:FinX P rs m R .ret t m1=okI (resA P t m1 rs) (k:=⟨λvs=>RawE m m1 (oneOr vs) R⟩):=by
 refine propext (Iff.trans ?_ okP_iff.symm)
 exact⟨λh=>h.2,λh=>⟨.inr rfl,h⟩⟩
theorem fXn:FinX P rs m R .normal t m1=okI (resA P t m1 rs) (k:=⟨λvs=>RawE m m1 (oneOr vs) R⟩):=by
 refine propext (Iff.trans ?_ okP_iff.symm)
 exact⟨λh=>h.2,λh=>⟨.inl rfl,h⟩⟩
end
theorem Con.raw(hE:EnvOk E){f:FuncId}{s:SFunc}{args:List Value}{m:Mem}(hf:fnOf E.P f=some s)(hl:args.length<=s.ntmps)(R:Value->Mem->Prop)
  (h:WXi E m.next none s.body (T s.ntmps (enumV 0 args)) m (Q:=⟨FinX E.P s.results m R⟩)):∃v m',Con E.P f args m v m'∧R v m':=by
 obtain⟨x,t,m1,h1,h2,vs,h3,h4,h5⟩:=WX.ok hE h
 refine⟨oneOr vs,m1,⟨CallOk.of_t (TCall.of_code hf h2 (TOk.pre ?_ h1) h3) h4.1,h4⟩,h5⟩
 intro ρ w ts l hR ht hrd
 refine⟨ρ,hR,⟨by rw[<-ht.1,T_length];simp;omega,λi hi=>?_⟩,hrd,λ_ _=>rfl,λb o x hb hx=>⟨b,o,x,hb,hx,rfl,rfl⟩⟩
 rw[T_length] at hi
 rw[T_get hi,lk_enumV]
 split
 ·rename_i hh
  have:=ht.2 i (by simp;omega)
  rw[gD',aB' (by omega),<-gD'] at this
  simpa using this
 ·exact .junk
end
abbrev PT(b:Nat):Value:= .pointer (some ⟨b,0,none⟩)
abbrev In(n:Int):Value:= .int .i64 n
section
variable{P:Program}{E:Env}
structure Nx(m m':Mem):Prop where
 next:m.next<=m'.next
 fresh:Fresh m'
 old:∀y,y<m.next->m'.get y=m.get y
theorem Fresh.bump{m:Mem}{j:Nat}(h:Fresh m):Fresh (m.bump j):=⟨by have:=h.n64;rw[bN];omega,λy hy=>h.none y (by rw[bN] at hy;omega)⟩
theorem Nx.refl{m:Mem}(h:Fresh m):Nx m m:=⟨lR' _,h,λ_ _=>rfl⟩
theorem Nx.trans{m m1 m2:Mem}(h:Nx m m1)(k:Nx m1 m2):Nx m m2:=⟨lT h.next k.next,k.fresh,λy hy=>by rw[k.old y (lL hy h.next),h.old y hy]⟩
theorem Nx.bump{m m1:Mem}(h:Nx m m1)(j:Nat):Nx m (m1.bump j):=⟨by rw[bN];exact lA h.next,h.fresh.bump,h.old⟩
theorem Nx.of_bump{m m1:Mem}{k:Nat}(h:Nx (m.bump k) m1):Nx m m1:=⟨by have:=h.next;rw[bN] at this;omega,h.fresh,λy hy=>h.old y (by rw[bN];omega)⟩
theorem Nx.keep{m m1:Mem}(h:Nx m m1)(hm:Fresh m){y:Nat}{o:AObj}(hy:m.get y=some o):m1.get y=some o:=(h.old y (hm.lt hy)).trans hy
theorem Low.up{m:Mem}{n k:Nat}(h:Low m n)(hk:n<=k):Low m k:=λb hb=>h b (by omega)
theorem Con.raw1(hE:EnvOk E){f:FuncId}{sf:SFunc}{args:List Value}{m:Mem}{v:Value}(hf:fnOf E.P f=some sf)(hl:args.length<=sf.ntmps)
  (h:WXi E m.next none sf.body (T sf.ntmps (enumV 0 args)) m (Q:=⟨FinX E.P sf.results m (λu _=>u=v)⟩)):∃m',Con E.P f args m v m':=by
 obtain⟨u,m',h1,h2⟩:=Con.raw hE hf hl _ h
 subst h2
 exact⟨m',h1⟩
theorem CallI.ex2{f:FuncId}{args:List Value}{m:Mem}{R:Value->Mem->Prop}{K:List Inst->Value->Mem->Prop}(h:∃v m',Con E.P f args m v m'∧R v m')(hK:∀v m',R v m'->K [⟨.call f args,m,v,m'⟩] v m'):CallI E [] (.call f args) m (K:=⟨K⟩):=by
 obtain⟨v,m',h1,h2⟩:=h
 exact cZ h1 (hK v m' h2)
theorem CallI.ex2L{L:List Inst}{f:FuncId}{args:List Value}{m:Mem}{R:Value->Mem->Prop}{K:List Inst->Value->Mem->Prop}(h:∃v m',Con E.P f args m v m'∧R v m')(hL:∀c∈L,c.tk≠ .call f args)(hK:∀v m',R v m'->K (⟨.call f args,m,v,m'⟩::L) v m'):CallI E L (.call f args) m (K:=⟨K⟩):=by
 obtain⟨v,m',h1,h2⟩:=h
 exact CallI.con h1 (λc hc e=>absurd e (hL c hc)) (hK v m' h2)
theorem GDi_u{b:Bool}{A B:Prop}:GDi undef b (A:=⟨A⟩) (B:=⟨B⟩)=B:=propext ⟨λh=>h.2,λh=>⟨rfl,h⟩⟩
end
theorem W_rfnx{E:Env}{n0:Nat}{f:Operand}{ps:List Tmp}{sa sb:SCode}{n:Nat}{l l':List (Nat×Value)}{m:Mem}{g:FuncId}{R:Value->Mem->Prop}(first cap:List Value){Q:Exit->List Value->Mem->Prop}(hn:n0<=m.next)
  (hev:ev f (T n l)= .func (.func g) first.toArray cap.toArray) (hcall:callable E.P g=true)
  (hc:∃v m2,Con E.P g (first++ [.func (.yield m.next) #[] #[]]++cap) ((m.put m.next (.loop {state:= .ready,pend:=none,tmps:=T n l,ps:=ps,assign:=sa,body:=sb})).bump 1) v m2∧R v m2)
  (hv:∀p∈l',RV (m.next+1) [] (lk l p.1) p.2) (hQ:∀v m2,R v m2->rfnQ m.next Q (T n l') m2):
  WXi E n0 none (.rfn f ps sa sb) (T n l) m (Q:=⟨Q⟩):=by
 obtain⟨v,m2,h1,h2⟩:=hc
 exact W_rfn' first cap hn hev hcall rfl rfl h1 hv (hQ v m2 h2)
def slB:Value->Option Nat
 | .slice (some a) _ _=>some a.block
 |_=>none
structure SlV(M:Mem)(sz:Nat)(v:Value)(n:Nat)(fl:List Value):Prop where
 len:fl.length=n*sz
 at_:(n=0∧v= .slice none 0 0)∨∃b c cs,v= .slice (some ⟨b,0,none⟩) n c∧M.get b=some (.cells cs true sz)∧cs.n=c*sz∧n<=c∧∀x,x<fl.length->cs.get x=fl.getD x undef
theorem SlV.nil{M:Mem}{sz:Nat}:SlV M sz (.slice none 0 0) 0 []:=⟨by simp, .inl ⟨rfl,rfl⟩⟩
theorem SlV.keep{M M':Mem}{sz n:Nat}{v:Value}{fl:List Value}(h:SlV M sz v n fl)(hk:∀y o,slB v=some y->M.get y=some o->M'.get y=some o):SlV M' sz v n fl:=by
 refine⟨h.len,?_⟩
 rcases h.at_ with h|⟨b,c,cs,rfl,h2,h3⟩
 ·exact .inl h
 ·exact .inr ⟨b,c,cs,rfl,hk b _ rfl h2,h3⟩
theorem SlV.nx{M M':Mem}{sz n:Nat}{v:Value}{fl:List Value}(h:SlV M sz v n fl)(hM:Fresh M)(hn:Nx M M'):SlV M' sz v n fl:=h.keep λ_ _ _ hy=>hn.keep hM hy
theorem SlV.bump{M:Mem}{sz n:Nat}{v:Value}{fl:List Value}(h:SlV M sz v n fl)(j:Nat):SlV (M.bump j) sz v n fl:=h.keep λ_ _ _ hy=>hy
theorem SlV.lt{M:Mem}{sz n:Nat}{v:Value}{fl:List Value}(h:SlV M sz v n fl)(hM:Fresh M){y:Nat}(hy:slB v=some y):y<M.next:=by
 rcases h.at_ with⟨_,rfl⟩|⟨b,c,cs,rfl,h2,h3⟩
 ·cases hy
 ·cases hy;exact hM.lt h2
theorem SlV.ob{M:Mem}{sz n:Nat}{v:Value}{fl:List Value}(h:SlV M sz v n fl){y:Nat}(hy:slB v=some y):∃cs,M.get y=some (.cells cs true sz):=by
 rcases h.at_ with⟨_,rfl⟩|⟨b,c,cs,rfl,h2,h3⟩
 ·cases hy
 ·cases hy;exact⟨cs,h2⟩
theorem SlV.cons{M:Mem}{sz n:Nat}{v:Value}{fl:List Value}(h:SlV M sz v n fl)(hn:n≠0):∃b c cs,v= .slice (some ⟨b,0,none⟩) n c∧M.get b=some (.cells cs true sz)∧cs.n=c*sz∧n<=c∧∀x,x<fl.length->cs.get x=fl.getD x undef:=by
 rcases h.at_ with h|h
 ·exact absurd h.1 hn
 ·exact h
theorem SlV.lenA{E:Env}{M m:Mem}{sz n:Nat}{v:Value}{fl:List Value}{ty e:TypeId}(h:SlV M sz v n fl)(hu:E.P.underlying ty=some (.slice e)):lenA E.P ty v m=some (.int .i64 n):=by
 rcases h.at_ with⟨rfl,rfl⟩|⟨b,c,cs,rfl,h2,h3⟩
 ·rw[len_slice hu]
 ·rw[len_slice hu]
structure AppR(M:Mem)(sz id:Nat)(v:Value)(n:Nat)(fl:List Value)(k:Nat)(new:List Value)(v':Value)(M':Mem):Prop where
 sl:SlV M' sz v' (n+k) (fl++new)
 blk:(slB v'=slB v∧slB v'≠none)∨slB v'=some id
 next:M'.next=M.next
 old:∀y,y≠id->slB v≠some y->M'.get y=M.get y
 low:∀y,y≠id->M.get y=none->M'.get y=none
section
variable{E:Env}
theorem app_in{ts e sz bytes id k n c b:Nat}{M:Mem}{new:List Value}{x:Value}{cs:Cells}(he:ElemOk E.P ts e sz bytes)(hb:M.get b=some (.cells cs true sz))(hcs:cs.n=c*sz)(hnc:n+k<=c)(hsrc:srcA sz x M=some (new,k))(hk:k≠0)(hnew:new.length=k*sz)(hone:new.all oneCell=true):
  appendA E.P id #[ts,ts] (.slice (some ⟨b,0,none⟩) n c) x M=some (.slice (some ⟨b,0,none⟩) (n+k) c,M.put b (.cells (cs.write (n*sz) new) true sz)):=by
 obtain⟨h1,⟨i,h2,h3,h4⟩,h5,z,h6,h7,h8⟩:=he
 subst h3 h4
 unfold appendA
 simp only[List.getElem?_toArray,List.getElem?_cons_zero,List.getElem?_cons_succ,h1,h2,hsrc]
 rw[if_neg hk,if_neg (by rw[hone];simp[hnew]),if_pos hnc]
 simp only[hb]
 rw[if_pos (by rw[Nat.zero_add,hcs];exact Nat.mul_le_mul_right _ hnc),Nat.zero_add]
theorem app_v{ts e sz bytes id k n:Nat}{M:Mem}{fl new:List Value}{v x:Value}(he:ElemOk E.P ts e sz bytes)(h:SlV M sz v n fl)(hsrc:srcA sz x M=some (new,k))(hk:k≠0)(hnew:new.length=k*sz)(hone:new.all oneCell=true)
  (hroom:k=1∨∀a c,v= .slice a n c->n=c) (hcap:(n+k)*bytes<=2 ^ 40∧n+k<=2 ^ 40):∃v' M',appendA E.P id #[ts,ts] v x M=some (v',M')∧AppR M sz id v n fl k new v' M':=by
 obtain⟨h1,h2⟩:=h
 have hg:¬(new.all oneCell=false∨new.length≠k*sz):=by rw[hone];simp[hnew]
 have hlen:(fl++new).length=(n+k)*sz:=by rw[aL,h1,hnew,Nat.add_mul]
 rcases h2 with⟨rfl,rfl⟩|⟨b,c,cs,rfl,k3,k4,k6,k5⟩
 ·have hf:apF sz bytes id (.slice none 0 0) (srcA sz x M) M=some (.slice (some ⟨id,0,none⟩) k k,M.put id (.cells (.ofList new) true sz)):=by
   rw[hsrc]
   simp only[apF]
   rw[if_neg hk,if_neg hg,if_pos (by simpa using hcap)]
  have hfl:fl=[]:=List.length_eq_zero_iff.1 (by omega)
  subst hfl
  refine⟨.slice (some ⟨id,0,none⟩) k k,M.put id (.cells (.ofList new) true sz),by rw[app_eq he (by rw[hf];rfl) (lR' _),hf],⟨hlen, .inr ⟨id,k,ofL new,by rw[Nat.zero_add],by rw[gP,if_pos rfl],by simp[ofList_n,hnew],by omega,λy hy=>get_ofList (by simpa using hy)⟩⟩, .inr rfl,rfl,λy hy _=>by rw[gP,if_neg hy],λy hy e=>by rw[gP,if_neg hy,e]⟩
 ·by_cases hnc:n+k<=c
  ·refine⟨_,_,app_in he k3 k4 hnc hsrc hk hnew hone,⟨hlen, .inr ⟨b,c,cs.write (n*sz) new,rfl,by rw[gP,if_pos rfl],by rw[write_n,k4],hnc,λy hy=>?_⟩⟩, .inl ⟨rfl,by simp[slB]⟩,rfl,λy _ hy=>?_,λy _ e=>?_⟩
   ·rw[aL] at hy
    rw[get_write]
    by_cases hh:y<fl.length
    ·rw[if_neg (by omega),k5 y hh]
     simp only[gD',aB' hh]
    ·rw[if_pos ⟨by omega,by omega⟩]
     simp only[gD',aC' (Nat.le_of_not_lt hh),h1]
   ·rw[gP,if_neg λe=>hy (by rw[e];rfl)]
   ·rw[gP,if_neg (λe'=>by(rw[e',k3] at e;cases e)),e]
  ·by_cases hc:n=c
   ·subst hc
    have hf:apF sz bytes id (.slice (some ⟨b,0,none⟩) n n) (srcA sz x M) M=some (.slice (some ⟨id,0,none⟩) (n+k) (n+k),(M.kill b).put id (.cells (cs.more 0 new) true sz)):=by
     rw[hsrc]
     simp only[apF]
     rw[if_neg hk,if_neg hg,if_pos trivial,k3]
     simp only[apG]
     rw[if_pos ⟨k4.symm,trivial,hcap⟩]
    refine⟨.slice (some ⟨id,0,none⟩) (n+k) (n+k),(M.kill b).put id (.cells (cs.more 0 new) true sz),by rw[app_eq he (by rw[hf];rfl) (lR' _),hf],⟨hlen, .inr ⟨id,n+k,cs.more 0 new,rfl,by rw[gP,if_pos rfl],by rw[more_n,k4,hnew,Nat.add_mul],lR' _,λy hy=>?_⟩⟩, .inr rfl,rfl,λy hy hv=>?_,λy hy e=>?_⟩
    ·rw[aL] at hy
     rw[more_get,k4,<-h1]
     by_cases hh:y<fl.length
     ·rw[if_neg (by omega),k5 y hh]
      simp only[gD',aB' hh]
     ·rw[if_pos ⟨by omega,hy⟩]
      simp only[gD',aC' (Nat.le_of_not_lt hh)]
    ·rw[gP,if_neg hy,Mem.get_kill,if_neg λe=>hv (by rw[e];rfl)]
    ·rw[gP,if_neg hy,Mem.get_kill]
     split<;>first|rfl|exact e
   ·rcases hroom with hr|hr
    ·omega
    ·exact absurd (hr _ _ rfl) hc
theorem okI_app{ts e sz bytes id k n:Nat}{M:Mem}{fl new:List Value}{v x:Value}{K:Value×Mem->Prop}(he:ElemOk E.P ts e sz bytes)(h:SlV M sz v n fl)(hsrc:srcA sz x M=some (new,k))(hk:k≠0)(hnew:new.length=k*sz)(hone:new.all oneCell=true)
  (hroom:k=1∨∀a c,v= .slice a n c->n=c) (hcap:(n+k)*bytes<=2 ^ 40∧n+k<=2 ^ 40) (hK:∀v' M',AppR M sz id v n fl k new v' M'->K (v',M')):okI (appendA E.P id #[ts,ts] v x M) (k:=⟨K⟩):=by
 obtain⟨v',M',h1,h2⟩:=app_v (id:=id) he h hsrc hk hnew hone hroom hcap
 rw[h1,okI_some]
 exact hK v' M' h2
end
structure NewV(m m':Mem)(sz:Nat)(v:Value)(n:Nat)(fl:List Value):Prop where
 sl:SlV m' sz v n fl
 nx:Nx m m'
 new:∀y,slB v=some y->m.next<=y
section
variable{E:Env}{m m':Mem}{sz n:Nat}{v:Value}{fl:List Value}
theorem NewV.of_bump{j:Nat}(h:NewV (m.bump j) m' sz v n fl):NewV m m' sz v n fl:=⟨h.sl,h.nx.of_bump,λy hy=>by have:=h.new y hy;rw[bN] at this;omega⟩
theorem NewV.bump(h:NewV m m' sz v n fl)(j:Nat):NewV m (m'.bump j) sz v n fl:=⟨h.sl.bump j,h.nx.bump j,h.new⟩
theorem NewV.raw(h:NewV m m' sz v n fl):Grow m m':=⟨h.nx.next,λy hy e=>by rw[h.nx.old y hy,e]⟩
theorem NewV.nil(hm:Fresh m):NewV m m sz (.slice none 0 0) 0 []:=⟨SlV.nil,Nx.refl hm,λy hy=>by cases hy⟩
theorem NewV.app1{M:Mem}{ts e bytes:Nat}{u:Value}{new:List Value}{j b1 id:Nat}(he:ElemOk E.P ts e sz bytes)(hby:bytes<=64)(hm:Fresh m)(hL:NewV m M sz u n fl)(hnew:new.length=sz)(hone:new.all oneCell=true)
  (hb:M.next<=b1∧b1<M.next+j) (hid:M.next<=id∧id<M.next+j) (hl:n<1073741824) {K:Value×Mem->Prop}
  (hK:∀v' M',NewV m M' sz v' (n+1) (fl++new)->M'.next=M.next+j->(∀y,y<m.next->M'.get y=m.get y)->K (v',M')):
  okI (appendA E.P id #[ts,ts] u (.slice (some ⟨b1,0,none⟩) 1 1) ((M.put b1 (.cells (ofL new) true sz)).bump j)) (k:=⟨K⟩):=by
 have hnx:=hL.nx.next
 have hsv:SlV ((M.put b1 (.cells (ofL new) true sz)).bump j) sz u n fl:=hL.sl.keep λy o hy ho=>by
  have:=hL.sl.lt hL.nx.fresh hy
  rw[gB,gP,if_neg (by omega),ho]
 have hcap:(n+1)*bytes<=2 ^ 40∧n+1<=2 ^ 40:=by
  refine⟨lT (Nat.mul_le_mul_left _ hby) ?_,?_⟩<;>omega
 refine okI_app he (k:=1) (new:=new) hsv (src_put (by rw[hnew,Nat.one_mul])) (by decide) (by rw[hnew,Nat.one_mul]) hone (.inl rfl) hcap λv' M' hA=>?_
 have n3:=hA.next
 rw[bN,nP] at n3
 have hold:∀y,y<m.next->M'.get y=m.get y:=λy hy=>by
  rw[hA.old y (by omega) (λe=>by have:=hL.new y e;omega),gB,gP,if_neg (by omega),hL.nx.old y hy]
 refine hK v' M' ⟨hA.sl,⟨by omega,Fresh.of_low (by have:=hm.n64;omega) λy hy=>hA.low y (by omega) (by rw[gB,gP,if_neg (by omega)];exact hL.nx.fresh.none y (by omega)),hold⟩,λy hy=>?_⟩ n3 hold
 rcases hA.blk with⟨h1,_⟩|h1
 ·exact hL.new y (h1▸hy)
 ·rw[h1] at hy;cases hy;omega
end
structure ColV(mr:Mem)(lp o:Nat)(r:ALoop)(sz n:Nat)(fl:List Value)(M:Mem):Prop where
 next:mr.next<=M.next
 low:Low M M.next
 old:∀y,y<mr.next->y≠o->y≠lp->M.get y=mr.get y
 loop:M.get lp=some (.loop r)
 out:∃co v,M.get o=some (.cells co true 0)∧co.n=1∧co.nth 0=some v∧SlV M sz v n fl∧∀y,slB v=some y->mr.next<=y∧y<M.next
section
variable{E:Env}{mr M:Mem}{lp o sz n:Nat}{r:ALoop}{fl:List Value}
theorem ColV.bump(h:ColV mr lp o r sz n fl M)(j:Nat):ColV mr lp o r sz n fl (M.bump j):=by
 obtain⟨co,v,h1,h2,h3,h4,h5⟩:=h.out
 exact⟨by rw[bN];exact lA h.next,Low.up (Low.bump h.low) (by rw[bN];omega),h.old,h.loop,co,v,h1,h2,h3,h4.bump j,λy hy=>⟨(h5 y hy).1,by rw[bN];have:=(h5 y hy).2;omega⟩⟩
theorem ColV.start{co:Cells}(hm:Fresh mr)(hl:mr.get lp=some (.loop r))(ho:mr.get o=some (.cells co true 0))(h1:co.n=1)(h2:co.nth 0=some (.slice none 0 0)):ColV mr lp o r sz 0 [] mr:=
 ⟨lR' _,hm.none,λ_ _ _ _=>rfl,hl,co,_,ho,h1,h2,SlV.nil,λy hy=>by cases hy⟩
theorem ColV.app{ts e bytes:Nat}{new:List Value}{j b1 id:Nat}{rb:ALoop}{co:Cells}{u:Value}(he:ElemOk E.P ts e sz bytes)(hby:bytes<=64)(hol:o≠lp)(hl:lp<mr.next)(ho:o<mr.next)(h:ColV mr lp o r sz n fl M)(h64:64<=mr.next)
  (hco:M.get o=some (.cells co true 0)) (hu:co.nth 0=some u) (hnew:new.length=sz) (hone:new.all oneCell=true)
  (hb:M.next<=b1∧b1<M.next+j) (hid:M.next<=id∧id<M.next+j) (hib:id≠b1) (hn:n<1073741824) {K:Value×Mem->Prop}
  (hK:∀b' c' M',M'.get lp=some (.loop rb)->M'.get o=some (.cells co true 0)->co.n=1->M'.next=M.next+j->(∀y,y<M.next->slB u≠some y->y≠lp->M'.get y=M.get y)->
   (∀j2,ColV mr lp o r sz (n+1) (fl++new) (((M'.put o (.cells (co.write 0 [.slice (some ⟨b',0,none⟩) (n+1) c']) true 0)).put lp (.loop r)).bump j2)∧∀i,M.next+i<=b1->M.next+i<=id->Grow (M.bump i) (((M'.put o (.cells (co.write 0 [.slice (some ⟨b',0,none⟩) (n+1) c']) true 0)).put lp (.loop r)).bump j2))->K (.slice (some ⟨b',0,none⟩) (n+1) c',M')):
  okI (appendA E.P id #[ts,ts] u (.slice (some ⟨b1,0,none⟩) 1 1) (((M.put lp (.loop rb)).put b1 (.cells (ofL new) true sz)).bump j)) (k:=⟨K⟩):=by
 have hnx:=h.next
 obtain⟨co',u',k1,k2,k3,k4,k5⟩:=h.out
 rw[hco] at k1
 cases k1
 rw[hu] at k3
 cases k3
 have hun:∀y,slB u=some y->y≠lp∧y≠o∧y<M.next:=λy hy=>by
  have:=k5 y hy
  omega
 have hsv:SlV (((M.put lp (.loop rb)).put b1 (.cells (ofL new) true sz)).bump j) sz u n fl:=k4.keep λy ob hy hob=>by
  obtain⟨h1,_,h3⟩:=hun y hy
  rw[gB,gP,if_neg (by omega),gP,if_neg h1,hob]
 have hcap:(n+1)*bytes<=2 ^ 40∧n+1<=2 ^ 40:=by
  refine⟨lT (Nat.mul_le_mul_left _ hby) ?_,?_⟩<;>omega
 refine okI_app he (k:=1) (new:=new) hsv (src_put (by rw[hnew,Nat.one_mul])) (by decide) (by rw[hnew,Nat.one_mul]) hone (.inl rfl) hcap λv' M' hA=>?_
 have n3:=hA.next
 rw[bN,nP,nP] at n3
 have hold:∀y,y<M.next->slB u≠some y->y≠lp->M'.get y=M.get y:=λy hy hyb hyl=>by
  rw[hA.old y (by omega) hyb,gB,gP,if_neg (by omega),gP,if_neg hyl]
 have hMl:M'.get lp=some (.loop rb):=by
  rw[hA.old lp (by omega) (λe=>(hun lp e).1 rfl),gB,gP,if_neg (by omega),gP,if_pos rfl]
 have hMo:M'.get o=some (.cells co true 0):=by rw[hold o (by omega) (λe=>(hun o e).2.1 rfl) hol,hco]
 have hlow:∀y,y≠id->y≠b1->y≠lp->M.get y=none->M'.get y=none:=λy h1 h2 h3 e=>hA.low y h1 (by rw[gB,gP,if_neg h2,gP,if_neg h3];exact e)
 have hblk:∀y,slB v'=some y->(mr.next<=y∧y<M'.next)∧y≠lp∧y≠o:=λy hy=>by
  rcases hA.blk with⟨h1,_⟩|h1
  ·have:=k5 y (h1▸hy);omega
  ·rw[h1] at hy;cases hy;omega
 have hs:=hA.sl
 obtain⟨b',c',cs',rfl,-⟩:=hs.cons (by omega)
 refine hK b' c' M' hMl hMo k2 n3 hold λj2=>⟨⟨by simp only[bN,nP];omega,?_,λz hz hzo hzl=>?_,by rw[gB,gP,if_pos rfl],co.write 0 [_],_,by rw[gB,gP,if_neg hol,gP,if_pos rfl],by rw[write_n,k2],by rw[nth_write,if_pos ⟨by omega,by simp,by omega⟩];rfl,hs.keep λy ob hy hob=>?_,λy hy=>⟨(hblk y hy).1.1,by simp only[bN,nP];have:=(hblk y hy).1.2;omega⟩⟩,λi hi1 hi2=>⟨by simp only[bN,nP];omega,λy hy e=>?_⟩⟩
 ·have hL:Low M' M'.next:=λy hy=>hlow y (by omega) (by omega) (by omega) (h.low y (by omega))
  exact Low.up (Low.bump (Low.put (Low.put hL (by omega)) (by omega))) (by simp only[bN,nP];omega)
 ·rw[gB,gP,if_neg hzl,gP,if_neg hzo,hold z (by omega) (λe=>by have:=k5 z e;omega) hzl]
  exact h.old z hz hzo hzl
 ·rw[gB,gP,if_neg (hblk y hy).2.1,gP,if_neg (hblk y hy).2.2]
  exact hob
 ·rw[bN] at hy
  rw[gB] at e
  have x1:y≠lp:=λe2=>by rw[e2,h.loop] at e;cases e
  have x2:y≠o:=λe2=>by rw[e2,hco] at e;cases e
  rw[gB,gP,if_neg x1,gP,if_neg x2]
  exact hlow y (by omega) (by omega) x1 e
end
section
variable{P:Program}{E:Env}
def RCon(P:Program)(l:Nat)(args:List Value)(m:Mem)(v:Value)(m':Mem):Prop:=RoundOk Sig.none P l args m v m'∧Grow m m'
theorem CallI.rcon{L:List Inst}{l:Nat}{args:List Value}{m:Mem}{R:Value->Mem->Prop}{K:List Inst->Value->Mem->Prop}(h:∃v m',RCon E.P l args m v m'∧R v m')(hL:∀c∈L,c.tk≠ .round l args)(hK:∀v m',R v m'->K (⟨.round l args,m,v,m'⟩::L) v m'):CallI E L (.round l args) m (K:=⟨K⟩):=by
 obtain⟨v,m',⟨h1,h2⟩,hR⟩:=h
 exact⟨v,m',⟨h2,h1⟩,λc hc e=>absurd e (hL c hc),hK v m' hR⟩
theorem RCon.of(hE:EnvOk E){l:Nat}{r:ALoop}{args:List Value}{m:Mem}{R:Value->Mem->Prop}(hl:m.get l=some (.loop r))(hps:r.ps.length=args.length)(hst:r.state= .ready)
  (h:WXi E m.next (some l) r.assign (setAll r.ps args r.tmps) m (Q:=⟨roundQ1 E l m.next r.body λv m'=>Grow m m'∧R v m'⟩)):∃v m',RCon E.P l args m v m'∧R v m':=by
 obtain⟨v,m',h1,h2,h3⟩:=RoundOk.of_wx hE hl hps hst h
 exact⟨v,m',⟨h1,h2⟩,h3⟩
end
section
variable{E:Env}
theorem RE_len(hs:∀o r,E.sym o r=none){dst:Option Tmp}{g:Option (Tmp×Bool)}{x:Operand}{t:List Value}{m:Mem}{ty rt:TypeId}:readE E ⟨dst, .call ⟨.builtin .len,#[x],#[ty]⟩,rt,g⟩ (ev · t) m=lenA E.P ty (ev x t) m:=by
 rw[readE_none hs];rfl
end
section
variable{P:Program}
def Light(P:Program){α:Type}:Sem α->Prop
 | .pure _=>True
 | .program k=>Light P (k P)
 | .mark _ k=>Light P k
 | .halt _=>True
 |_=>False
theorem Light.runP{α:Type}{s:Sem α}{w w':World}{a:α}(h:Light P s)(hr:s.run P w= .ok a w'):runP P s=some a:=by
 induction s with
 |pure x=>simp only[Sem.run,Result.ok.injEq] at hr;rw[hr.1];rfl
 |program k ih=>exact ih P h hr
 |mark e k ih=>exact ih h hr
 |halt x=>simp only[Sem.run] at hr;cases hr
 |_=>exact h.elim
theorem Light.bind{α β:Type}{s:Sem α}{f:α->Sem β}(h:Light P s)(hf:∀a,Ab.runP P s=some a->Light P (f a)):Light P (s>>=f):=by
 induction s with
 |pure x=>exact hf x rfl
 |program k ih=>exact ih P h hf
 |mark e k ih=>exact ih h hf
 |halt x=>trivial
 |_=>exact h.elim
theorem light_und{t:TypeId}:Light P (underlying t):=by
 show Light P (match P.underlying t with|some d=>pure d|none=>stuck "no such type")
 split<;>trivial
theorem light_info{t:TypeId}:Light P (typeInfo t):=by
 show Light P (match P.info? t with|some d=>pure d|none=>stuck "no such type")
 split<;>trivial
theorem light_size{t:TypeId}:Light P (sizeOf t):=Light.bind light_info λ_ _=>trivial
theorem light_isAgg{t:TypeId}:Light P (isAgg t):=Light.bind light_und λk _=>by split<;>trivial
theorem light_part{t:TypeId}{cs:Array Value}{off:Nat}:Light P (part t cs off):=by
 unfold part
 refine Light.bind light_isAgg λb _=>?_
 split
 ·exact Light.bind light_size λ_ _=>trivial
 ·split<;>trivial
theorem Light.forL{α β:Type}{f:α->β->Sem (ForInStep β)}(h:∀a b,Light P (f a b)):∀{l:List α} {b:β},Light P (forIn l b f)
 |[],b=>by rw[List.forIn_nil];trivial
 |a::l,b=>by
  rw[List.forIn_cons]
  refine Light.bind (h a b) λs _=>?_
  cases s with
  |done b=>trivial
  |yield b=>exact Light.forL h
theorem Light.forA{α β:Type}{f:α->β->Sem (ForInStep β)}{l:Array α}{b:β}(h:∀a b,Light P (f a b)):Light P (forIn l b f):=by
 rw[<-Array.forIn_toList]
 exact Light.forL h
def smpC:Value->Bool
 | .bool _| .int _ _| .string _=>true
 |_=>false
def smpV:Value->Bool
 | .agg xs=>xs.all smpC
 |v=>smpC v
theorem runP_of_bind{α β:Type}{s:Sem α}{f:α->Sem β}{b:β}(h:runP P (s>>=f)=some b):∃a,runP P s=some a∧runP P (f a)=some b:=by
 induction s with
 |pure x=>exact⟨x,rfl,h⟩
 |program k ih=>exact ih P h
 |mark e k ih=>exact ih h
 |halt x=>cases h
 |_=>cases h
theorem part_smp{t:TypeId}{cs:Array Value}{off:Nat}{v:Value}(hc:cs.all smpC=true)(h:runP P (part t cs off)=some v):smpV v=true:=by
 have hm:∀x∈cs.toList,smpC x=true:=λx hx=>by
  rw[<-Array.all_toList] at hc
  exact List.all_eq_true.1 hc x hx
 unfold part at h
 obtain⟨b,_,h⟩:=runP_of_bind h
 split at h
 ·obtain⟨n,_,h⟩:=runP_of_bind h
  simp only[runP,pure,sI] at h
  subst h
  show(cs.extract off (off+n)).all smpC=true
  rw[<-Array.all_toList,List.all_eq_true]
  intro x hx
  rw[Array.toList_extract,List.extract] at hx
  exact hm x (List.mem_of_mem_drop (List.mem_of_mem_take hx))
 ·split at h
  ·rename_i x hx
   simp only[runP,pure,sI] at h
   subst h
   have:=hm x (Array.mem_toList_iff.2 (Array.mem_of_getElem? hx))
   cases x<;>first|exact this|cases this
  ·cases h
theorem smp_cases{v:Value}(h:smpV v=true):(∃b,v= .bool b)∨(∃k n,v= .int k n)∨(∃s,v= .string s)∨∃xs,v= .agg xs∧xs.all smpC=true:=by
 cases v<;>first|exact .inl ⟨_,rfl⟩|exact .inr (.inl ⟨_,_,rfl⟩)|exact .inr (.inr (.inl ⟨_,rfl⟩))|exact .inr (.inr (.inr ⟨_,rfl,h⟩))|cases h
theorem light_equal:∀(d:Nat) (t:TypeId) (x y:Value),smpV x=true->smpV y=true->Light P (Op.equalIn d t x y)
 |0,_,_,_,_,_=>trivial
 |d+1,t,x,y,hx,hy=>by
  unfold Op.equalIn
  refine Light.bind light_und λk _=>?_
  rcases smp_cases hx with⟨a,rfl⟩|⟨q,a,rfl⟩|⟨a,rfl⟩|⟨xs,rfl,hxs⟩<;>rcases smp_cases hy with⟨b,rfl⟩|⟨q',b,rfl⟩|⟨b,rfl⟩|⟨ys,rfl,hys⟩<;>cases k<;>first|trivial|skip
  ·simp only
   split<;>trivial
  ·refine Light.bind light_size λn _=>?_
   simp only[Std.Legacy.Range.forIn_eq_forIn_range']
   refine Light.bind (Light.forL λi s=>?_) λs _=>by obtain⟨_|_,_⟩:=s<;>trivial
   refine Light.bind light_part λa ha=>Light.bind light_part λb hb=>Light.bind (light_equal d _ a b (part_smp hxs ha) (part_smp hys hb)) λr _=>?_
   cases r<;>trivial
  ·refine Light.bind (s:=program) trivial λp _=>?_
   split
   ·trivial
   ·refine Light.bind (Light.forA λf s=>?_) λs _=>by obtain⟨_|_,_⟩:=s<;>trivial
    split
    ·refine Light.bind light_part λa ha=>Light.bind light_part λb hb=>Light.bind (light_equal d _ a b (part_smp hxs ha) (part_smp hys hb)) λr _=>?_
     cases r<;>trivial
    ·trivial
theorem eqA_agg{t:TypeId}{xs ys:Array Value}{w:World}{r:Bool}{op:BinOp}{xo yo:Operand}{m:Mem}(hop:op= .eql∨op= .neq)(hp:plain (.agg xs)=true)(hq:plain (.agg ys)=true)(hx:xs.all smpC=true)(hy:ys.all smpC=true)(hg:P.eqGuardType P.depth t=false)
  (h:(Op.equal t (.agg xs) (.agg ys)).run P w= .ok r w):eqA P op t xo yo (.agg xs) (.agg ys) m=some (.bool (match op with| .eql=>r|_=>!r)):=by
 have h1:runP P (Op.equal t (.agg xs) (.agg ys))=some r:=(light_equal _ t (.agg xs) (.agg ys) (by exact hx) (by exact hy)).runP h
 have h2:runP P (eqGuard op t xo yo (.agg xs) (.agg ys))=some ():=by
  unfold eqGuard
  rcases hop with rfl|rfl
  all_goals
   show runP P (if(!P.eqGuardType P.depth t)=true then _ else _)=_
   rw[hg]
   rfl
 unfold eqA
 rw[if_pos (by rw[hp,hq];rfl)]
 unfold runV
 rw[runP_bind _ _ h2]
 rcases hop with rfl|rfl
 ·have:runP P (binOp .eql t (.agg xs) (.agg ys))=some (.bool r):=by
   show runP P (do pure (Value.bool (<-Op.equal t (.agg xs) (.agg ys))):Sem Value)=_
   rw[runP_bind _ _ h1];rfl
  rw[this]
  cases r<;>rfl
 ·have:runP P (binOp .neq t (.agg xs) (.agg ys))=some (.bool !r):=by
   show runP P (do pure (Value.bool (!(<-Op.equal t (.agg xs) (.agg ys)))):Sem Value)=_
   rw[runP_bind _ _ h1];rfl
  rw[this]
  cases r<;>rfl
end
abbrev tm(k:Nat):Operand:= .tmp k
abbrev RG:=List SOp
def rg(r:RG):SCode:= .reg r
theorem rR{r xs:RG}{n:Nat}(h:r=xs)(hn:r.length=n):∀(E:Env) (n0:Nat) (rd:Option Nat) (t:List Value) (m:Mem) (Q:Exit->List Value->Mem->Prop),WXi E n0 rd (rg r) t m (Q:=⟨Q⟩)=(n0<=m.next∧XWi E m.next (enumF 0 xs) [] t (m.bump n) (Q:=⟨λ_=>Q .normal⟩)):=by
 intro E n0 rd t m Q
 have h1:WXi E n0 rd (rg r) t m (Q:=⟨Q⟩)=(n0<=m.next∧XWi E m.next (enumF 0 r) [] t (m.bump r.length) (Q:=⟨λ_=>Q .normal⟩)):=rfl
 rw[h1,hn,h]
theorem eN_c{k:Nat}{x:SOp}{l:List SOp}:enumF k (x::l)=(k,x)::enumF (k+1) l:=rfl
theorem eN_n{k:Nat}:enumF k ([]:List SOp)=[]:=rfl
theorem rq{r xs:RG}(h:r=xs)(n:Nat)(hn:r.length=n):∀(E:Env) (n0:Nat) (rd:Option Nat) (t:List Value) (m:Mem) (Q:Exit->List Value->Mem->Prop),WXi E n0 rd (rg r) t m (Q:=⟨Q⟩)=(n0<=m.next∧XWi E m.next (enumF 0 xs) [] t (m.bump n) (Q:=⟨λ_=>Q .normal⟩)):=rR h hn
theorem aI{a b:Prop}(h:a)(g:b):a∧b:=⟨h,g⟩
theorem gA{P:Prop}(h:P:=by simp only[Mem.get_bump,Mem.get_put];repeat(first|rw[if_neg (by omega)]|rw[if_pos trivial]|rw[if_pos (by omega)])):P:=h
theorem kr{P:Prop}(h:P:=by kernel_rfl):P:=h
theorem nO{P:Prop}(h:P:=by(try simp only[Mem.next_bump,Mem.next_put]);omega):P:=h
theorem nX{m m':Mem}(hm:Fresh m)(a:m.next<=m'.next:=by(try simp only[Mem.next_bump,Mem.next_put]);omega)(b:Low m' m'.next:=by repeat(first|exact Low.of (by assumption) (by(try simp only[Mem.next_bump,Mem.next_put]);omega)|refine Low.put ?_ (by(try simp only[Mem.next_bump,Mem.next_put]);omega)|refine Low.bump ?_))(c:∀y,y<m.next->m'.get y=m.get y:=by intro y hy;simp only[Mem.get_bump,Mem.get_put,ne_new hy,ne_new0 hy,if_false]):Nx m m':=⟨a,Fresh.of_low (Nat.le_trans hm.n64 a) b,c⟩
theorem hd{c c':SCode}(h:c=c'):∀(E:Env) (n0:Nat) (rd:Option Nat) (t:List Value) (m:Mem) (Q:Exit->List Value->Mem->Prop),WXi E n0 rd c t m (Q:=⟨Q⟩)=WXi E n0 rd c' t m (Q:=⟨Q⟩):=λ_ _ _ _ _ _=>by rw[h]
class NoSym (E:Env):Prop where
 h:∀o r,E.sym o r=none
def slT(P:Program)(ty:TypeId):Bool:=match P.underlying ty with
 |some (.slice _)=>true
 |_=>false
def ptT(P:Program)(ty:TypeId):Bool:=match P.underlying ty with
 |some (.pointer e)=>(match szOf P e with|some (_+1)=>true|_=>false)
 |_=>false
def cO(o:Option Code):SCode:=match o with
 |some c=>(match comp c with
  |some s=>s
  |none=> .skip)
 |none=> .skip
def nL:SCode->Nat
 | .seq a b=>nL a+nL b
 | .reg _=>1
 | .dreg _ _=>1
 | .cond _ a b=>nL a+nL b+2
 | .loop a=>nL a+1
 | .block _ a=>nL a+1
 | .scope a=>nL a+1
 | .rfn _ _ a b=>nL a+nL b+2
 |_=>0
def nC:SCode->List SCode
 | .seq a b=>nC a++nC b
 | .reg r=> [.reg r]
 | .dreg r o=> [.dreg r o]
 | .cond _ a b=>nC a++nC b++ [a,b]
 | .loop a=>nC a++ [a]
 | .block _ a=>nC a++ [a]
 | .scope a=>nC a++ [a]
 | .rfn _ _ a b=>nC a++nC b++ [a,b]
 |_=> []
def kk(K:Nat->SCode)(j:Nat):SCode:=K j
def nS(K:Nat->SCode):SCode->Nat->SCode
 | .seq a b,k=> .seq (nS K a k) (nS K b (k+nL a))
 | .reg _,k=>K k
 | .dreg _ _,k=>K k
 | .cond c a b,k=> .cond c (kk K (k+nL a+nL b)) (kk K (k+nL a+nL b+1))
 | .loop a,k=> .loop (kk K (k+nL a))
 | .block i a,k=> .block i (kk K (k+nL a))
 | .scope a,k=> .scope (kk K (k+nL a))
 | .rfn f ps a b,k=> .rfn f ps (kk K (k+nL a+nL b)) (kk K (k+nL a+nL b+1))
 |c,_=>c
inductive NE where
 |g (c:SCode)
 |h (c:SCode)
def nE(K:Nat->SCode):SCode->Nat->List NE
 | .seq a b,k=>nE K a k++nE K b (k+nL a)
 | .reg r,_=> [.g (.reg r)]
 | .dreg r o,_=> [.g (.dreg r o)]
 | .cond _ a b,k=>nE K a k++nE K b (k+nL a)++ [.h (nS K a k), .h (nS K b (k+nL a))]
 | .loop a,k=>nE K a k++ [.h (nS K a k)]
 | .block _ a,k=>nE K a k++ [.h (nS K a k)]
 | .scope a,k=>nE K a k++ [.h (nS K a k)]
 | .rfn _ _ a b,k=>nE K a k++nE K b (k+nL a)++ [.h (nS K a k), .h (nS K b (k+nL a))]
 |_,_=> []
def NE.c:NE->SCode
 | .g c=>c
 | .h c=>c
def HD(c c':SCode):Prop:=∀(E:Env) (n0:Nat) (rd:Option Nat) (t:List Value) (m:Mem) (Q:Exit->List Value->Mem->Prop),WXi E n0 rd c t m (Q:=⟨Q⟩)=WXi E n0 rd c' t m (Q:=⟨Q⟩)
def RQ(c:SCode)(xs:List SOp)(n:Nat):Prop:=∀(E:Env) (n0:Nat) (rd:Option Nat) (t:List Value) (m:Mem) (Q:Exit->List Value->Mem->Prop),WXi E n0 rd c t m (Q:=⟨Q⟩)=(n0<=m.next∧XWi E m.next (enumF 0 xs) [] t (m.bump n) (Q:=⟨λ_=>Q .normal⟩))
def DY(c:SCode)(y:Option (List (Nat×SOp×List Nat×Bool)))(n:Nat):Prop:=match y with
 |some ys=>∀(E:Env) (n0:Nat) (rd:Option Nat) (t:List Value) (m:Mem) (Q:Exit->List Value->Mem->Prop),WXi E n0 rd c t m (Q:=⟨Q⟩)=(n0<=m.next∧YWi E m.next ys [] [] t (m.bump n) (Q:=⟨λ_=>Q .normal⟩))
 |none=>True
def DX(c:SCode)(r:List SOp)(o:List (Nat×List Nat))(n:Nat)(x:Option (List (Nat×SOp))):Prop:=match x with
 |some xs=>∀(E:Env) (n0:Nat) (rd:Option Nat) (t:List Value) (m:Mem) (Q:Exit->List Value->Mem->Prop),WXi E n0 rd c t m (Q:=⟨Q⟩)=(n0<=m.next∧XWi E m.next xs [] t (m.bump n) (Q:=⟨λ_=>Q .normal⟩))
 |none=>DY c (pickY r o) n
def nG(x:SCode):SCode->Prop
 | .reg r=>RQ x r r.length
 | .dreg r o=>DX x r o r.length (pickX r o)
 |e=>HD x e
def nF(x:SCode):NE->Prop
 | .g c=>nG x c
 | .h e=>HD x e
def nB(K:Nat->SCode):List NE->Nat->Prop
 |[],_=>True
 |e::l,k=>nF (K k) e∧nB K l (k+1)
def nA(B:SCode)(K:Nat->SCode)(c:SCode):Prop:=HD B (nS K c 0)∧nB K (nE K c 0) 0
noncomputable def kO (o:Option Code)(k:Nat):SCode:=(nC (cO o)).getD k .skip
theorem nC_len:∀c:SCode,(nC c).length=nL c
 | .seq a b=>by simp only[nC,nL,aL,nC_len a,nC_len b]
 | .cond _ a b=>by simp only[nC,nL,aL,nC_len a,nC_len b];rfl
 | .rfn _ _ a b=>by simp only[nC,nL,aL,nC_len a,nC_len b];rfl
 | .loop a=>by simp only[nC,nL,aL,nC_len a];rfl
 | .block _ a=>by simp only[nC,nL,aL,nC_len a];rfl
 | .scope a=>by simp only[nC,nL,aL,nC_len a];rfl
 | .reg _=>rfl
 | .dreg _ _=>rfl
 | .skip=>rfl
 | .label _=>rfl
 | .goto _=>rfl
 | .exit _=>rfl
 | .ret=>rfl
 | .again _ _=>rfl
def nK(K:Nat->SCode)(k:Nat)(l:List SCode):Prop:=∀i,i<l.length->K (k+i)=l.getD i .skip
theorem nK.l{K:Nat->SCode}{k:Nat}{l l':List SCode}(h:nK K k (l++l')):nK K k l:=λi hi=>by
 rw[h i (by rw[aL];omega),gD',aB' hi,<-gD']
theorem nK.r{K:Nat->SCode}{k:Nat}{l l':List SCode}(h:nK K k (l++l')):nK K (k+l.length) l':=λi hi=>by
 rw[Nat.add_assoc,h _ (by rw[aL];omega),gD',aC' (by omega),Nat.add_sub_cancel_left,<-gD']
theorem nK.z{K:Nat->SCode}{k:Nat}{l:List SCode}{c:SCode}(h:nK K k (c::l)):K k=c:=h 0 (Nat.zero_lt_succ _)
theorem nK.s{K:Nat->SCode}{k:Nat}{l:List SCode}{c:SCode}(h:nK K k (c::l)):nK K (k+1) l:=λi hi=>by
 rw[Nat.add_assoc,Nat.add_comm 1 i,h (i+1) (Nat.succ_lt_succ hi)];rfl
theorem nS_ok{K:Nat->SCode}:∀(c:SCode) (k:Nat),nK K k (nC c)->nS K c k=c∧(nE K c k).map NE.c=nC c
 | .seq a b,k,h=>by
   have ha:=nS_ok a k h.l
   have hb:=nS_ok b (k+nL a) (by rw[<-nC_len a];exact h.r)
   exact⟨by simp only[nS,ha.1,hb.1],by simp only[nE,nC,List.map_append,ha.2,hb.2]⟩
 | .cond _ a b,k,h=>by
   have ha:=nS_ok a k h.l.l
   have hb:=nS_ok b (k+nL a) (by rw[<-nC_len a];exact h.l.r)
   have hr:=h.r
   rw[aL,nC_len,nC_len,<-Nat.add_assoc] at hr
   exact⟨by simp only[nS,kk,hr.z,hr.s.z],by simp only[nE,nC,List.map_append,ha.1,hb.1,ha.2,hb.2];rfl⟩
 | .rfn _ _ a b,k,h=>by
   have ha:=nS_ok a k h.l.l
   have hb:=nS_ok b (k+nL a) (by rw[<-nC_len a];exact h.l.r)
   have hr:=h.r
   rw[aL,nC_len,nC_len,<-Nat.add_assoc] at hr
   exact⟨by simp only[nS,kk,hr.z,hr.s.z],by simp only[nE,nC,List.map_append,ha.1,hb.1,ha.2,hb.2];rfl⟩
 | .loop a,k,h=>by
   have ha:=nS_ok a k h.l
   have hr:=h.r
   rw[nC_len] at hr
   exact⟨by simp only[nS,kk,hr.z],by simp only[nE,nC,List.map_append,ha.1,ha.2];rfl⟩
 | .block _ a,k,h=>by
   have ha:=nS_ok a k h.l
   have hr:=h.r
   rw[nC_len] at hr
   exact⟨by simp only[nS,kk,hr.z],by simp only[nE,nC,List.map_append,ha.1,ha.2];rfl⟩
 | .scope a,k,h=>by
   have ha:=nS_ok a k h.l
   have hr:=h.r
   rw[nC_len] at hr
   exact⟨by simp only[nS,kk,hr.z],by simp only[nE,nC,List.map_append,ha.1,ha.2];rfl⟩
 | .reg _,_,h=>⟨h.z,rfl⟩
 | .dreg _ _,_,h=>⟨h.z,rfl⟩
 | .skip,_,_=>⟨rfl,rfl⟩
 | .label _,_,_=>⟨rfl,rfl⟩
 | .goto _,_,_=>⟨rfl,rfl⟩
 | .exit _,_,_=>⟨rfl,rfl⟩
 | .ret,_,_=>⟨rfl,rfl⟩
 | .again _ _,_,_=>⟨rfl,rfl⟩
theorem nG_ok{x e:SCode}(h:x=e):nG x e:=by
 subst h
 cases x
 case reg r=>exact λ_ _ _ _ _ _=>rfl
 case dreg r o=>
  show DX _ r o r.length (pickX r o)
  unfold DX
  split
  ·rename_i ys hy
   intro E n0 rd t m Q
   show(n0<=m.next∧_)=_
   simp only[hy]
   rfl
  ·rename_i hn
   unfold DY
   split
   ·rename_i ys hy
    intro E n0 rd t m Q
    show(n0<=m.next∧_)=_
    simp only[hn,hy]
    rfl
   ·trivial
 all_goals exact λ_ _ _ _ _ _=>rfl
theorem nF_ok{x:SCode}:∀{e:NE},x=e.c->nF x e
 | .g _,h=>nG_ok h
 | .h e,h=>by
   show HD x e
   rw[show x=e from h]
   exact λ_ _ _ _ _ _=>rfl
theorem nB_ok{K:Nat->SCode}:∀(l:List NE) (k:Nat),nK K k (l.map NE.c)->nB K l k
 |[],_,_=>trivial
 |_::l,k,h=>⟨nF_ok h.z,nB_ok l (k+1) h.s⟩
theorem nA_ok{o:Option Code}:nA (cO o) (kO o) (cO o):=by
 have h:nK (kO o) 0 (nC (cO o)):=λi hi=>by rw[Nat.zero_add];rfl
 obtain⟨h1,h2⟩:=nS_ok (cO o) 0 h
 refine⟨λ_ _ _ _ _ _=>by rw[h1],?_⟩
 exact nB_ok _ 0 (h2▸h)
theorem aQ(o:Option Code){p:SCode->(Nat->SCode)->Prop}(e:∀B K,nA B K (cO o)=p B K:=by intro B K;conv=>lhs;cbv):p (cO o) (kO o):=e (cO o) (kO o)▸nA_ok
end
end Go.Ab
namespace Go.Ab
open Go.Proofs
noncomputable section
noncomputable def EE:Env:={P:=Tryz.prog,eqv:=vEqL 8,prim:=λ_=>none}
theorem EE_sym:∀o r,EE.sym o r=none:=λ_ _=>rfl
theorem EE_ok:EnvOk EE:=⟨λv u h=>vEqL_eq _ _ _ h,λ_ _ _ h=>(by cases h),kr⟩
instance:NoSym EE:=⟨EE_sym⟩
def f4:SFunc:=⟨141,[.tmp 6],cO Tryz.f4.body⟩
def f5:SFunc:=⟨147,[.tmp 4],cO Tryz.f5.body⟩
def f6:SFunc:=⟨197,[.tmp 6],cO Tryz.f6.body⟩
theorem fn6:fnOf EE.P 6=some f6:=kr
def f7:SFunc:=⟨27,[.tmp 6],cO Tryz.f7.body⟩
theorem fn7:fnOf EE.P 7=some f7:=kr
def f8:SFunc:=⟨112,[.tmp 2, .tmp 3],cO Tryz.f8.body⟩
theorem fn8:fnOf EE.P 8=some f8:=kr
def f14:SFunc:=⟨5,[.tmp 2],cO Tryz.f14.body⟩
theorem fn14:fnOf EE.P 14=some f14:=kr
def f15:SFunc:=⟨17,[.cell 4 47, .tmp 5],cO Tryz.f15.body⟩
theorem fn15:fnOf EE.P 15=some f15:=kr
def f19:SFunc:=⟨38,[.cell 2 58],cO Tryz.f19.body⟩
theorem fn19:fnOf EE.P 19=some f19:=kr
def f20:SFunc:=⟨46,[],cO Tryz.f20.body⟩
theorem fn20:fnOf EE.P 20=some f20:=kr
def f21:SFunc:=⟨12,[.tmp 2],cO Tryz.f21.body⟩
theorem fn21:fnOf EE.P 21=some f21:=kr
def f22:SFunc:=⟨5,[.tmp 2],cO Tryz.f22.body⟩
theorem fn22:fnOf EE.P 22=some f22:=kr
def f23:SFunc:=⟨20,[.tmp 4, .tmp 5],cO Tryz.f23.body⟩
theorem fn23:fnOf EE.P 23=some f23:=kr
def f24:SFunc:=⟨32,[.tmp 6, .tmp 7],cO Tryz.f24.body⟩
theorem fn24:fnOf EE.P 24=some f24:=kr
def f25:SFunc:=⟨26,[.tmp 4],cO Tryz.f25.body⟩
theorem fn25:fnOf EE.P 25=some f25:=kr
def f26:SFunc:=⟨73,[.tmp 8],cO Tryz.f26.body⟩
theorem fn26:fnOf EE.P 26=some f26:=kr
def f27:SFunc:=⟨14,[.tmp 6],cO Tryz.f27.body⟩
theorem fn27:fnOf EE.P 27=some f27:=kr
def f31:SFunc:=⟨27,[.tmp 4],cO Tryz.f31.body⟩
theorem fn31:fnOf EE.P 31=some f31:=kr
def f34:SFunc:=⟨32,[.tmp 2, .tmp 3],cO Tryz.f34.body⟩
theorem fn34:fnOf EE.P 34=some f34:=kr
def f42:SFunc:=⟨21,[.tmp 4],cO Tryz.f42.body⟩
theorem fn42:fnOf EE.P 42=some f42:=kr
def f43:SFunc:=⟨15,[.tmp 2],cO Tryz.f43.body⟩
theorem fn43:fnOf EE.P 43=some f43:=kr
def f44:SFunc:=⟨19,[.tmp 4],cO Tryz.f44.body⟩
theorem fn44:fnOf EE.P 44=some f44:=kr
def f45:SFunc:=⟨11,[.tmp 2],cO Tryz.f45.body⟩
theorem fn45:fnOf EE.P 45=some f45:=kr
def f46:SFunc:=⟨83,[],cO Tryz.f46.body⟩
theorem fn46:fnOf EE.P 46=some f46:=kr
def f47:SFunc:=⟨12,[.tmp 2],cO Tryz.f47.body⟩
theorem fn47:fnOf EE.P 47=some f47:=kr
def f48:SFunc:=⟨12,[.tmp 2],cO Tryz.f48.body⟩
theorem fn48:fnOf EE.P 48=some f48:=kr
def f49:SFunc:=⟨3,[.tmp 2],cO Tryz.f49.body⟩
theorem fn49:fnOf EE.P 49=some f49:=kr
def f50:SFunc:=⟨23,[.tmp 4],cO Tryz.f50.body⟩
theorem fn50:fnOf EE.P 50=some f50:=kr
def f51:SFunc:=⟨40,[],cO Tryz.f51.body⟩
theorem fn51:fnOf EE.P 51=some f51:=kr
def f52:SFunc:=⟨43,[.tmp 8],cO Tryz.f52.body⟩
theorem fn52:fnOf EE.P 52=some f52:=kr
def f53:SFunc:=⟨158,[.tmp 6],cO Tryz.f53.body⟩
theorem fn53:fnOf EE.P 53=some f53:=kr
def f54:SFunc:=⟨28,[.tmp 2],cO Tryz.f54.body⟩
theorem fn54:fnOf EE.P 54=some f54:=kr
def f64:SFunc:=⟨22,[.tmp 4, .tmp 5],cO Tryz.f64.body⟩
theorem fn64:fnOf EE.P 64=some f64:=kr
def f68:SFunc:=⟨6,[.tmp 4],cO Tryz.f68.body⟩
theorem fn68:fnOf EE.P 68=some f68:=kr
def f69:SFunc:=⟨8,[.tmp 2],cO Tryz.f69.body⟩
theorem fn69:fnOf EE.P 69=some f69:=kr
def f70:SFunc:=⟨35,[],cO Tryz.f70.body⟩
theorem fn70:fnOf EE.P 70=some f70:=kr
def f71:SFunc:=⟨31,[],cO Tryz.f71.body⟩
theorem fn71:fnOf EE.P 71=some f71:=kr
def f78:SFunc:=⟨46,[.cell 2 3, .cell 3 3, .cell 4 73],cO Tryz.f78.body⟩
theorem fn78:fnOf EE.P 78=some f78:=kr
def f79:SFunc:=⟨84,[],cO Tryz.f79.body⟩
theorem fn79:fnOf EE.P 79=some f79:=kr
def f80:SFunc:=⟨31,[],cO Tryz.f80.body⟩
theorem fn80:fnOf EE.P 80=some f80:=kr
def f81:SFunc:=⟨86,[.cell 4 47, .tmp 5],cO Tryz.f81.body⟩
theorem fn81:fnOf EE.P 81=some f81:=kr
def f82:SFunc:=⟨68,[],cO Tryz.f82.body⟩
theorem fn82:fnOf EE.P 82=some f82:=kr
def f83:SFunc:=⟨19,[.tmp 4],cO Tryz.f83.body⟩
theorem fn83:fnOf EE.P 83=some f83:=kr
def f84:SFunc:=⟨10,[.tmp 3],cO Tryz.f84.body⟩
theorem fn84:fnOf EE.P 84=some f84:=kr
def f85:SFunc:=⟨22,[.cell 4 73, .tmp 5],cO Tryz.f85.body⟩
theorem fn85:fnOf EE.P 85=some f85:=kr
def f86:SFunc:=⟨19,[.tmp 2],cO Tryz.f86.body⟩
theorem fn86:fnOf EE.P 86=some f86:=kr
def f87:SFunc:=⟨8,[],cO Tryz.f87.body⟩
theorem fn87:fnOf EE.P 87=some f87:=kr
def f88:SFunc:=⟨14,[.tmp 4],cO Tryz.f88.body⟩
theorem fn88:fnOf EE.P 88=some f88:=kr
def f101:SFunc:=⟨25,[],cO Tryz.f101.body⟩
theorem fn101:fnOf EE.P 101=some f101:=kr
def f102:SFunc:=⟨8,[.tmp 2],cO Tryz.f102.body⟩
theorem fn102:fnOf EE.P 102=some f102:=kr
def f103:SFunc:=⟨23,[.cell 2 216, .tmp 3],cO Tryz.f103.body⟩
theorem fn103:fnOf EE.P 103=some f103:=kr
def f104:SFunc:=⟨42,[.tmp 4],cO Tryz.f104.body⟩
theorem fn104:fnOf EE.P 104=some f104:=kr
def f105:SFunc:=⟨7,[.tmp 3],cO Tryz.f105.body⟩
theorem fn105:fnOf EE.P 105=some f105:=kr
def f118:SFunc:=⟨29,[.tmp 2],cO Tryz.f118.body⟩
theorem fn118:fnOf EE.P 118=some f118:=kr
def f119:SFunc:=⟨4,[.tmp 2],cO Tryz.f119.body⟩
theorem fn119:fnOf EE.P 119=some f119:=kr
def f120:SFunc:=⟨28,[.tmp 4],cO Tryz.f120.body⟩
theorem fn120:fnOf EE.P 120=some f120:=kr
def f121:SFunc:=⟨10,[],cO Tryz.f121.body⟩
theorem fn121:fnOf EE.P 121=some f121:=kr
def f122:SFunc:=⟨80,[],cO Tryz.f122.body⟩
theorem fn122:fnOf EE.P 122=some f122:=kr
def f123:SFunc:=⟨13,[.tmp 3],cO Tryz.f123.body⟩
theorem fn123:fnOf EE.P 123=some f123:=kr
def f124:SFunc:=⟨19,[],cO Tryz.f124.body⟩
theorem fn124:fnOf EE.P 124=some f124:=kr
def f125:SFunc:=⟨38,[.cell 4 237, .tmp 5],cO Tryz.f125.body⟩
theorem fn125:fnOf EE.P 125=some f125:=kr
def f126:SFunc:=⟨97,[.tmp 6],cO Tryz.f126.body⟩
theorem fn126:fnOf EE.P 126=some f126:=kr
def f127:SFunc:=⟨63,[.tmp 4],cO Tryz.f127.body⟩
theorem fn127:fnOf EE.P 127=some f127:=kr
def f128:SFunc:=⟨118,[],cO Tryz.f128.body⟩
theorem fn128:fnOf EE.P 128=some f128:=kr
def f129:SFunc:=⟨91,[.tmp 6, .tmp 7],cO Tryz.f129.body⟩
theorem fn129:fnOf EE.P 129=some f129:=kr
def f130:SFunc:=⟨126,[],cO Tryz.f130.body⟩
theorem fn130:fnOf EE.P 130=some f130:=kr
def f131:SFunc:=⟨91,[],cO Tryz.f131.body⟩
theorem fn131:fnOf EE.P 131=some f131:=kr
def f132:SFunc:=⟨100,[],cO Tryz.f132.body⟩
theorem fn132:fnOf EE.P 132=some f132:=kr
def f133:SFunc:=⟨133,[],cO Tryz.f133.body⟩
theorem fn133:fnOf EE.P 133=some f133:=kr
def f134:SFunc:=⟨9,[.tmp 2],cO Tryz.f134.body⟩
theorem fn134:fnOf EE.P 134=some f134:=kr
def f135:SFunc:=⟨9,[.tmp 2],cO Tryz.f135.body⟩
theorem fn135:fnOf EE.P 135=some f135:=kr
def f150:SFunc:=⟨6,[.tmp 2],cO Tryz.f150.body⟩
theorem fn150:fnOf EE.P 150=some f150:=kr
def f151:SFunc:=⟨18,[.cell 2 216],cO Tryz.f151.body⟩
theorem fn151:fnOf EE.P 151=some f151:=kr
def f166:SFunc:=⟨61,[.tmp 2],cO Tryz.f166.body⟩
theorem fn166:fnOf EE.P 166=some f166:=kr
def f167:SFunc:=⟨19,[],cO Tryz.f167.body⟩
theorem fn167:fnOf EE.P 167=some f167:=kr
def f168:SFunc:=⟨46,[],cO Tryz.f168.body⟩
theorem fn168:fnOf EE.P 168=some f168:=kr
def f169:SFunc:=⟨13,[],cO Tryz.f169.body⟩
theorem fn169:fnOf EE.P 169=some f169:=kr
def f170:SFunc:=⟨28,[.cell 2 237, .tmp 3],cO Tryz.f170.body⟩
theorem fn170:fnOf EE.P 170=some f170:=kr
def f171:SFunc:=⟨12,[.tmp 4],cO Tryz.f171.body⟩
theorem fn171:fnOf EE.P 171=some f171:=kr
def f172:SFunc:=⟨15,[.tmp 2, .tmp 3],cO Tryz.f172.body⟩
theorem fn172:fnOf EE.P 172=some f172:=kr
def f173:SFunc:=⟨11,[.tmp 4],cO Tryz.f173.body⟩
theorem fn173:fnOf EE.P 173=some f173:=kr
def f174:SFunc:=⟨11,[.tmp 4],cO Tryz.f174.body⟩
theorem fn174:fnOf EE.P 174=some f174:=kr
def f175:SFunc:=⟨14,[.tmp 2],cO Tryz.f175.body⟩
theorem fn175:fnOf EE.P 175=some f175:=kr
def f176:SFunc:=⟨4,[.tmp 2],cO Tryz.f176.body⟩
theorem fn176:fnOf EE.P 176=some f176:=kr
def f177:SFunc:=⟨13,[.tmp 4],cO Tryz.f177.body⟩
theorem fn177:fnOf EE.P 177=some f177:=kr
def f178:SFunc:=⟨22,[.tmp 2],cO Tryz.f178.body⟩
theorem fn178:fnOf EE.P 178=some f178:=kr
def f179:SFunc:=⟨90,[],cO Tryz.f179.body⟩
theorem fn179:fnOf EE.P 179=some f179:=kr
def f180:SFunc:=⟨87,[],cO Tryz.f180.body⟩
theorem fn180:fnOf EE.P 180=some f180:=kr
def f181:SFunc:=⟨91,[],cO Tryz.f181.body⟩
theorem fn181:fnOf EE.P 181=some f181:=kr
def f182:SFunc:=⟨33,[],cO Tryz.f182.body⟩
theorem fn182:fnOf EE.P 182=some f182:=kr
def f183:SFunc:=⟨23,[.tmp 4, .cell 5 73, .tmp 6],cO Tryz.f183.body⟩
theorem fn183:fnOf EE.P 183=some f183:=kr
def f184:SFunc:=⟨19,[],cO Tryz.f184.body⟩
theorem fn184:fnOf EE.P 184=some f184:=kr
def f185:SFunc:=⟨32,[.tmp 6, .cell 7 73, .tmp 8],cO Tryz.f185.body⟩
theorem fn185:fnOf EE.P 185=some f185:=kr
def f186:SFunc:=⟨15,[.cell 2 73, .tmp 3],cO Tryz.f186.body⟩
theorem fn186:fnOf EE.P 186=some f186:=kr
def f187:SFunc:=⟨42,[.cell 4 77, .tmp 5],cO Tryz.f187.body⟩
theorem fn187:fnOf EE.P 187=some f187:=kr
def f188:SFunc:=⟨38,[.tmp 4, .tmp 5],cO Tryz.f188.body⟩
theorem fn188:fnOf EE.P 188=some f188:=kr
def f189:SFunc:=⟨120,[],cO Tryz.f189.body⟩
theorem fn189:fnOf EE.P 189=some f189:=kr
def f190:SFunc:=⟨82,[],cO Tryz.f190.body⟩
theorem fn190:fnOf EE.P 190=some f190:=kr
def f191:SFunc:=⟨25,[.tmp 6],cO Tryz.f191.body⟩
theorem fn191:fnOf EE.P 191=some f191:=kr
def f192:SFunc:=⟨16,[.tmp 2],cO Tryz.f192.body⟩
theorem fn192:fnOf EE.P 192=some f192:=kr
def f213:SFunc:=⟨14,[.cell 2 335],cO Tryz.f213.body⟩
theorem fn213:fnOf EE.P 213=some f213:=kr
def f214:SFunc:=⟨4,[.tmp 2],cO Tryz.f214.body⟩
theorem fn214:fnOf EE.P 214=some f214:=kr
def f223:SFunc:=⟨14,[.cell 2 343, .tmp 3],cO Tryz.f223.body⟩
theorem fn223:fnOf EE.P 223=some f223:=kr
def f226:SFunc:=⟨19,[.tmp 4],cO Tryz.f226.body⟩
theorem fn226:fnOf EE.P 226=some f226:=kr
def f227:SFunc:=⟨10,[.tmp 4],cO Tryz.f227.body⟩
theorem fn227:fnOf EE.P 227=some f227:=kr
def f228:SFunc:=⟨13,[.tmp 2, .tmp 3],cO Tryz.f228.body⟩
theorem fn228:fnOf EE.P 228=some f228:=kr
def f229:SFunc:=⟨10,[.tmp 2],cO Tryz.f229.body⟩
theorem fn229:fnOf EE.P 229=some f229:=kr
def f230:SFunc:=⟨7,[.tmp 2],cO Tryz.f230.body⟩
theorem fn230:fnOf EE.P 230=some f230:=kr
def f231:SFunc:=⟨8,[.tmp 2],cO Tryz.f231.body⟩
theorem fn231:fnOf EE.P 231=some f231:=kr
def f232:SFunc:=⟨37,[.tmp 6, .tmp 7],cO Tryz.f232.body⟩
theorem fn232:fnOf EE.P 232=some f232:=kr
def f233:SFunc:=⟨36,[.tmp 2],cO Tryz.f233.body⟩
theorem fn233:fnOf EE.P 233=some f233:=kr
def f234:SFunc:=⟨5,[.cell 2 73],cO Tryz.f234.body⟩
theorem fn234:fnOf EE.P 234=some f234:=kr
def f235:SFunc:=⟨56,[],cO Tryz.f235.body⟩
theorem fn235:fnOf EE.P 235=some f235:=kr
def f236:SFunc:=⟨20,[.tmp 3],cO Tryz.f236.body⟩
theorem fn236:fnOf EE.P 236=some f236:=kr
def f237:SFunc:=⟨9,[.tmp 4],cO Tryz.f237.body⟩
theorem fn237:fnOf EE.P 237=some f237:=kr
def f238:SFunc:=⟨13,[.tmp 3],cO Tryz.f238.body⟩
theorem fn238:fnOf EE.P 238=some f238:=kr
def f239:SFunc:=⟨36,[.tmp 2],cO Tryz.f239.body⟩
theorem fn239:fnOf EE.P 239=some f239:=kr
def f284:SFunc:=⟨24,[],cO Tryz.f284.body⟩
theorem fn284:fnOf EE.P 284=some f284:=kr
def f293:SFunc:=⟨17,[.tmp 2],cO Tryz.f293.body⟩
theorem fn293:fnOf EE.P 293=some f293:=kr
def f294:SFunc:=⟨23,[.tmp 2],cO Tryz.f294.body⟩
theorem fn294:fnOf EE.P 294=some f294:=kr
def f318:SFunc:=⟨4,[.tmp 2],cO Tryz.f318.body⟩
theorem fn318:fnOf EE.P 318=some f318:=kr
def f319:SFunc:=⟨7,[.tmp 2],cO Tryz.f319.body⟩
theorem fn319:fnOf EE.P 319=some f319:=kr
def f333:SFunc:=⟨11,[],cO Tryz.f333.body⟩
theorem fn333:fnOf EE.P 333=some f333:=kr
def f370:SFunc:=⟨13,[.tmp 6],cO Tryz.f370.body⟩
theorem fn370:fnOf EE.P 370=some f370:=kr
theorem lay_24:lay EE.P 24=some (some 5):=kr
theorem lay_3:lay EE.P 3=some none:=kr
theorem lay_47:lay EE.P 47=some (some 11):=kr
theorem lay_36:lay EE.P 36=some none:=kr
theorem lay_58:lay EE.P 58=some (some 4):=kr
theorem lay_22:lay EE.P 22=some none:=kr
theorem lay_67:lay EE.P 67=some none:=kr
theorem lay_38:lay EE.P 38=some (some 7):=kr
theorem lay_4:lay EE.P 4=some none:=kr
theorem lay_27:lay EE.P 27=some none:=kr
theorem lay_80:lay EE.P 80=some none:=kr
theorem lay_41:lay EE.P 41=some none:=kr
theorem lay_73:lay EE.P 73=some (some 19):=kr
theorem lay_53:lay EE.P 53=some none:=kr
theorem lay_70:lay EE.P 70=some none:=kr
theorem lay_75:lay EE.P 75=some none:=kr
theorem lay_5:lay EE.P 5=some none:=kr
theorem lay_121:lay EE.P 121=some (some 64):=kr
theorem lay_43:lay EE.P 43=some (some 8):=kr
theorem lay_216:lay EE.P 216=some (some 4):=kr
theorem lay_74:lay EE.P 74=some none:=kr
theorem lay_77:lay EE.P 77=some (some 3):=kr
theorem lay_79:lay EE.P 79=some (some 8):=kr
theorem lay_78:lay EE.P 78=some none:=kr
theorem lay_237:lay EE.P 237=some (some 4):=kr
theorem lay_214:lay EE.P 214=some (some 3):=kr
theorem lay_115:lay EE.P 115=some none:=kr
theorem lay_44:lay EE.P 44=some none:=kr
theorem lay_343:lay EE.P 343=some (some 4):=kr
theorem lay_127:lay EE.P 127=some none:=kr
theorem lay_361:lay EE.P 361=some (some 30):=kr
theorem lay_360:lay EE.P 360=some (some 2):=kr
theorem lay_9:lay EE.P 9=some none:=kr
theorem lay_335:lay EE.P 335=some (some 2):=kr
theorem lay_81:lay EE.P 81=some (some 64):=kr
theorem lay_125:lay EE.P 125=some (some 4):=kr
theorem sz_24:szOf EE.P 24=some 5:=kr
theorem sz_3:szOf EE.P 3=some 1:=kr
theorem sz_47:szOf EE.P 47=some 11:=kr
theorem sz_36:szOf EE.P 36=some 1:=kr
theorem sz_58:szOf EE.P 58=some 4:=kr
theorem sz_22:szOf EE.P 22=some 1:=kr
theorem sz_67:szOf EE.P 67=some 1:=kr
theorem sz_113:szOf EE.P 113=some 4:=kr
theorem sz_38:szOf EE.P 38=some 7:=kr
theorem sz_4:szOf EE.P 4=some 1:=kr
theorem sz_27:szOf EE.P 27=some 1:=kr
theorem sz_80:szOf EE.P 80=some 1:=kr
theorem sz_41:szOf EE.P 41=some 1:=kr
theorem sz_73:szOf EE.P 73=some 19:=kr
theorem sz_53:szOf EE.P 53=some 1:=kr
theorem sz_70:szOf EE.P 70=some 1:=kr
theorem sz_75:szOf EE.P 75=some 1:=kr
theorem sz_5:szOf EE.P 5=some 1:=kr
theorem sz_121:szOf EE.P 121=some 64:=kr
theorem sz_43:szOf EE.P 43=some 8:=kr
theorem sz_216:szOf EE.P 216=some 4:=kr
theorem sz_74:szOf EE.P 74=some 1:=kr
theorem sz_77:szOf EE.P 77=some 3:=kr
theorem sz_79:szOf EE.P 79=some 8:=kr
theorem sz_78:szOf EE.P 78=some 1:=kr
theorem sz_237:szOf EE.P 237=some 4:=kr
theorem sz_214:szOf EE.P 214=some 3:=kr
theorem sz_115:szOf EE.P 115=some 1:=kr
theorem sz_44:szOf EE.P 44=some 1:=kr
theorem sz_343:szOf EE.P 343=some 4:=kr
theorem sz_127:szOf EE.P 127=some 1:=kr
theorem sz_361:szOf EE.P 361=some 30:=kr
theorem sz_360:szOf EE.P 360=some 2:=kr
theorem sz_9:szOf EE.P 9=some 1:=kr
theorem sz_335:szOf EE.P 335=some 2:=kr
theorem sz_81:szOf EE.P 81=some 64:=kr
theorem sz_125:szOf EE.P 125=some 4:=kr
theorem zero_47:zeroL EE.P 47=some [(.int .u32 0),(.int .u32 0),(.int .u32 0),(.int .u32 0),(.int .u32 0),(.int .u32 0),(.int .u32 0),(.int .u32 0),(.complex .f64 0 0),(.complex .f64 0 0),(.int .u32 0)]:=kr
theorem zero_58:zeroL EE.P 58=some [(.int .i64 0),(.int .i64 0),(.int .i64 0),(.int .i64 0)]:=kr
theorem zero_41:zeroL EE.P 41=some [(.slice none 0 0)]:=kr
theorem zero_73:zeroL EE.P 73=some [(.int .u32 0),(.int .u32 0),(.int .u32 0),(.int .u32 0),(.int .u32 0),(.int .u32 0),(.int .u32 0),(.int .u32 0),(.int .u32 0),(.int .u32 0),(.int .u32 0),(.int .u32 0),(.int .u32 0),(.int .u32 0),(.int .u32 0),(.int .u32 0),(.int .u32 0),(.int .u32 0),(.bool false)]:=kr
theorem zero_216:zeroL EE.P 216=some [(.int .i64 0),(.int .u32 0),(.int .u32 0),(.int .u32 0)]:=kr
theorem zero_3:zeroL EE.P 3=some [(.int .i64 0)]:=kr
theorem zero_4:zeroL EE.P 4=some [(.bool false)]:=kr
theorem zero_237:zeroL EE.P 237=some [(.int .i64 0),(.int .i64 0),(.int .i64 0),(.int .i64 0)]:=kr
theorem zero_214:zeroL EE.P 214=some [(.int .u32 0),(.int .u32 0),(.int .u32 0)]:=kr
theorem zero_77:zeroL EE.P 77=some [(.pointer none),(.pointer none),(.int .u32 0)]:=kr
theorem zero_343:zeroL EE.P 343=some [(.string (ByteArray.mk #[])),(.int .i64 0),(.int .i64 0),(.bool false)]:=kr
theorem zero_360:zeroL EE.P 360=some [(.int .i64 0),(.string (ByteArray.mk #[]))]:=kr
theorem zero_335:zeroL EE.P 335=some [(.string (ByteArray.mk #[])),(.int .i64 0)]:=kr
theorem zero_125:zeroL EE.P 125=some [(.pointer none),(.bool false),(.bool false),(.bool false)]:=kr
theorem fo_24_0:fieldOff EE.P 24 0=some 0:=kr
theorem fo_38_2:fieldOff EE.P 38 2=some 2:=kr
theorem fo_47_2:fieldOff EE.P 47 2=some 10:=kr
theorem fo_47_0:fieldOff EE.P 47 0=some 0:=kr
theorem fo_24_2:fieldOff EE.P 24 2=some 2:=kr
theorem fo_24_1:fieldOff EE.P 24 1=some 1:=kr
theorem fo_24_4:fieldOff EE.P 24 4=some 4:=kr
theorem fo_24_3:fieldOff EE.P 24 3=some 3:=kr
theorem fo_69_0:fieldOff EE.P 69 0=some 0:=kr
theorem fo_69_1:fieldOff EE.P 69 1=some 5:=kr
theorem fo_83_5:fieldOff EE.P 83 5=some 5:=kr
theorem fo_69_3:fieldOff EE.P 69 3=some 7:=kr
theorem fo_69_4:fieldOff EE.P 69 4=some 8:=kr
theorem fo_69_5:fieldOff EE.P 69 5=some 9:=kr
theorem fo_38_0:fieldOff EE.P 38 0=some 0:=kr
theorem fo_38_3:fieldOff EE.P 38 3=some 3:=kr
theorem fo_38_4:fieldOff EE.P 38 4=some 4:=kr
theorem fo_69_7:fieldOff EE.P 69 7=some 11:=kr
theorem fo_83_3:fieldOff EE.P 83 3=some 3:=kr
theorem fo_83_8:fieldOff EE.P 83 8=some 46:=kr
theorem fo_83_0:fieldOff EE.P 83 0=some 0:=kr
theorem fo_83_14:fieldOff EE.P 83 14=some 61:=kr
theorem fo_83_11:fieldOff EE.P 83 11=some 51:=kr
theorem fo_83_1:fieldOff EE.P 83 1=some 1:=kr
theorem fo_83_7:fieldOff EE.P 83 7=some 27:=kr
theorem fo_83_6:fieldOff EE.P 83 6=some 16:=kr
theorem fo_73_2:fieldOff EE.P 73 2=some 2:=kr
theorem fo_69_8:fieldOff EE.P 69 8=some 12:=kr
theorem fo_69_6:fieldOff EE.P 69 6=some 10:=kr
theorem fo_125_1:fieldOff EE.P 125 1=some 1:=kr
theorem fo_125_3:fieldOff EE.P 125 3=some 3:=kr
theorem fo_125_0:fieldOff EE.P 125 0=some 0:=kr
theorem fo_123_1:fieldOff EE.P 123 1=some 64:=kr
theorem fo_123_0:fieldOff EE.P 123 0=some 0:=kr
theorem fo_216_0:fieldOff EE.P 216 0=some 0:=kr
theorem fo_83_9:fieldOff EE.P 83 9=some 47:=kr
theorem fo_83_10:fieldOff EE.P 83 10=some 48:=kr
theorem fo_69_2:fieldOff EE.P 69 2=some 6:=kr
theorem fo_73_0:fieldOff EE.P 73 0=some 0:=kr
theorem fo_73_1:fieldOff EE.P 73 1=some 1:=kr
theorem fo_73_3:fieldOff EE.P 73 3=some 18:=kr
theorem fo_83_4:fieldOff EE.P 83 4=some 4:=kr
theorem fo_83_12:fieldOff EE.P 83 12=some 52:=kr
theorem fo_83_2:fieldOff EE.P 83 2=some 2:=kr
theorem fo_237_0:fieldOff EE.P 237 0=some 0:=kr
theorem fo_237_1:fieldOff EE.P 237 1=some 1:=kr
theorem fo_237_2:fieldOff EE.P 237 2=some 2:=kr
theorem fo_216_1:fieldOff EE.P 216 1=some 1:=kr
theorem fo_294_2:fieldOff EE.P 294 2=some 2:=kr
theorem fo_294_0:fieldOff EE.P 294 0=some 0:=kr
theorem fo_297_1:fieldOff EE.P 297 1=some 1:=kr
theorem fo_294_1:fieldOff EE.P 294 1=some 1:=kr
theorem fo_297_2:fieldOff EE.P 297 2=some 2:=kr
theorem fo_237_3:fieldOff EE.P 237 3=some 3:=kr
theorem fo_47_1:fieldOff EE.P 47 1=some 8:=kr
theorem fo_83_13:fieldOff EE.P 83 13=some 60:=kr
theorem fo_343_3:fieldOff EE.P 343 3=some 3:=kr
theorem fo_343_1:fieldOff EE.P 343 1=some 1:=kr
theorem fo_343_2:fieldOff EE.P 343 2=some 2:=kr
theorem fo_297_0:fieldOff EE.P 297 0=some 0:=kr
theorem fo_125_2:fieldOff EE.P 125 2=some 2:=kr
theorem fo_360_0:fieldOff EE.P 360 0=some 0:=kr
theorem fo_360_1:fieldOff EE.P 360 1=some 1:=kr
theorem und_3:EE.P.underlying 3=some (.int .i64):=kr
theorem und_5:EE.P.underlying 5=some (.int .u8):=kr
theorem und_28:EE.P.underlying 28=some (.int .i64):=kr
theorem und_25:EE.P.underlying 25=some (.slice 38):=kr
theorem und_41:EE.P.underlying 41=some (.slice 3):=kr
theorem und_43:EE.P.underlying 43=some (.array 8 36):=kr
theorem und_36:EE.P.underlying 36=some (.int .u32):=kr
theorem und_4:EE.P.underlying 4=some .bool:=kr
theorem und_53:EE.P.underlying 53=some (.slice 113):=kr
theorem und_22:EE.P.underlying 22=some (.slice 36):=kr
theorem und_67:EE.P.underlying 67=some (.slice 70):=kr
theorem und_70:EE.P.underlying 70=some (.pointer 83):=kr
theorem und_81:EE.P.underlying 81=some (.array 64 80):=kr
theorem und_71:EE.P.underlying 71=some (.array 16 36):=kr
theorem und_27:EE.P.underlying 27=some (.pointer 69):=kr
theorem und_80:EE.P.underlying 80=some (.pointer 125):=kr
theorem und_127:EE.P.underlying 127=some (.slice 5):=kr
theorem und_121:EE.P.underlying 121=some (.array 64 5):=kr
theorem und_79:EE.P.underlying 79=some (.array 8 78):=kr
theorem und_78:EE.P.underlying 78=some (.pointer 294):=kr
theorem und_214:EE.P.underlying 214=some (.array 3 36):=kr
theorem und_45:EE.P.underlying 45=some (.array 2 44):=kr
theorem und_292:EE.P.underlying 292=some (.int .u16):=kr
theorem und_21:EE.P.underlying 21=some (.int .i32):=kr
theorem und_350:EE.P.underlying 350=some (.int .i16):=kr
theorem und_2:EE.P.underlying 2=some (.int .i64):=kr
theorem und_190:EE.P.underlying 190=some (.slice 127):=kr
theorem und_405:EE.P.underlying 405=some (.slice 67):=kr
theorem und_361:EE.P.underlying 361=some (.array 15 360):=kr
theorem und_398:EE.P.underlying 398=some (.array 23 335):=kr
theorem und_344:EE.P.underlying 344=some (.array 30 343):=kr
theorem und_74:EE.P.underlying 74=some (.pointer 297):=kr
theorem und_401:EE.P.underlying 401=some (.float .f64):=kr
theorem ca_13:callable EE.P 13=true:=kr
theorem ca_7:callable EE.P 7=true:=kr
theorem ca_8:callable EE.P 8=true:=kr
theorem ca_14:callable EE.P 14=true:=kr
theorem ca_15:callable EE.P 15=true:=kr
theorem ca_17:callable EE.P 17=true:=kr
theorem ca_19:callable EE.P 19=true:=kr
theorem ca_20:callable EE.P 20=true:=kr
theorem ca_21:callable EE.P 21=true:=kr
theorem ca_22:callable EE.P 22=true:=kr
theorem ca_23:callable EE.P 23=true:=kr
theorem ca_24:callable EE.P 24=true:=kr
theorem ca_25:callable EE.P 25=true:=kr
theorem ca_26:callable EE.P 26=true:=kr
theorem ca_27:callable EE.P 27=true:=kr
theorem ca_42:callable EE.P 42=true:=kr
theorem ca_44:callable EE.P 44=true:=kr
theorem ca_48:callable EE.P 48=true:=kr
theorem ca_31:callable EE.P 31=true:=kr
theorem ca_34:callable EE.P 34=true:=kr
theorem ca_50:callable EE.P 50=true:=kr
theorem ca_45:callable EE.P 45=true:=kr
theorem ca_51:callable EE.P 51=true:=kr
theorem ca_47:callable EE.P 47=true:=kr
theorem ca_52:callable EE.P 52=true:=kr
theorem ca_54:callable EE.P 54=true:=kr
theorem ca_53:callable EE.P 53=true:=kr
theorem ca_68:callable EE.P 68=true:=kr
theorem ca_70:callable EE.P 70=true:=kr
theorem ca_71:callable EE.P 71=true:=kr
theorem ca_78:callable EE.P 78=true:=kr
theorem ca_79:callable EE.P 79=true:=kr
theorem ca_80:callable EE.P 80=true:=kr
theorem ca_81:callable EE.P 81=true:=kr
theorem ca_82:callable EE.P 82=true:=kr
theorem ca_83:callable EE.P 83=true:=kr
theorem ca_85:callable EE.P 85=true:=kr
theorem ca_86:callable EE.P 86=true:=kr
theorem ca_87:callable EE.P 87=true:=kr
theorem ca_88:callable EE.P 88=true:=kr
theorem ca_103:callable EE.P 103=true:=kr
theorem ca_102:callable EE.P 102=true:=kr
theorem ca_104:callable EE.P 104=true:=kr
theorem ca_118:callable EE.P 118=true:=kr
theorem ca_119:callable EE.P 119=true:=kr
theorem ca_120:callable EE.P 120=true:=kr
theorem ca_121:callable EE.P 121=true:=kr
theorem ca_122:callable EE.P 122=true:=kr
theorem ca_124:callable EE.P 124=true:=kr
theorem ca_125:callable EE.P 125=true:=kr
theorem ca_126:callable EE.P 126=true:=kr
theorem ca_127:callable EE.P 127=true:=kr
theorem ca_128:callable EE.P 128=true:=kr
theorem ca_129:callable EE.P 129=true:=kr
theorem ca_130:callable EE.P 130=true:=kr
theorem ca_131:callable EE.P 131=true:=kr
theorem ca_132:callable EE.P 132=true:=kr
theorem ca_133:callable EE.P 133=true:=kr
theorem ca_134:callable EE.P 134=true:=kr
theorem ca_135:callable EE.P 135=true:=kr
theorem ca_150:callable EE.P 150=true:=kr
theorem ca_151:callable EE.P 151=true:=kr
theorem ca_168:callable EE.P 168=true:=kr
theorem ca_169:callable EE.P 169=true:=kr
theorem ca_170:callable EE.P 170=true:=kr
theorem ca_171:callable EE.P 171=true:=kr
theorem ca_172:callable EE.P 172=true:=kr
theorem ca_173:callable EE.P 173=true:=kr
theorem ca_174:callable EE.P 174=true:=kr
theorem ca_175:callable EE.P 175=true:=kr
theorem ca_176:callable EE.P 176=true:=kr
theorem ca_177:callable EE.P 177=true:=kr
theorem ca_178:callable EE.P 178=true:=kr
theorem ca_179:callable EE.P 179=true:=kr
theorem ca_180:callable EE.P 180=true:=kr
theorem ca_181:callable EE.P 181=true:=kr
theorem ca_182:callable EE.P 182=true:=kr
theorem ca_183:callable EE.P 183=true:=kr
theorem ca_184:callable EE.P 184=true:=kr
theorem ca_185:callable EE.P 185=true:=kr
theorem ca_186:callable EE.P 186=true:=kr
theorem ca_187:callable EE.P 187=true:=kr
theorem ca_188:callable EE.P 188=true:=kr
theorem ca_189:callable EE.P 189=true:=kr
theorem ca_190:callable EE.P 190=true:=kr
theorem ca_191:callable EE.P 191=true:=kr
theorem ca_192:callable EE.P 192=true:=kr
theorem ca_213:callable EE.P 213=true:=kr
theorem ca_214:callable EE.P 214=true:=kr
theorem ca_223:callable EE.P 223=true:=kr
theorem ca_166:callable EE.P 166=true:=kr
theorem ca_227:callable EE.P 227=true:=kr
theorem ca_228:callable EE.P 228=true:=kr
theorem ca_230:callable EE.P 230=true:=kr
theorem ca_229:callable EE.P 229=true:=kr
theorem ca_231:callable EE.P 231=true:=kr
theorem ca_232:callable EE.P 232=true:=kr
theorem ca_233:callable EE.P 233=true:=kr
theorem ca_234:callable EE.P 234=true:=kr
theorem ca_235:callable EE.P 235=true:=kr
theorem ca_237:callable EE.P 237=true:=kr
theorem ca_239:callable EE.P 239=true:=kr
theorem ca_293:callable EE.P 293=true:=kr
theorem ca_294:callable EE.P 294=true:=kr
theorem ca_64:callable EE.P 64=true:=kr
theorem ca_295:callable EE.P 295=true:=kr
theorem ca_296:callable EE.P 296=true:=kr
theorem ca_318:callable EE.P 318=true:=kr
theorem ca_319:callable EE.P 319=true:=kr
theorem ca_335:callable EE.P 335=true:=kr
theorem pt_27:ptT EE.P 27=true:=kr
theorem nn_27:∀x y m,eqA EE.P .eql 27 x y (.pointer none) (.pointer none) m=some (.bool true):=λ_ _ _=>by kernel_rfl
theorem nm_27:∀x y m,eqA EE.P .neq 27 x y (.pointer none) (.pointer none) m=some (.bool false):=λ_ _ _=>by kernel_rfl
theorem pt_70:ptT EE.P 70=true:=kr
theorem nn_70:∀x y m,eqA EE.P .eql 70 x y (.pointer none) (.pointer none) m=some (.bool true):=λ_ _ _=>by kernel_rfl
theorem nm_70:∀x y m,eqA EE.P .neq 70 x y (.pointer none) (.pointer none) m=some (.bool false):=λ_ _ _=>by kernel_rfl
theorem pt_74:ptT EE.P 74=true:=kr
theorem nn_74:∀x y m,eqA EE.P .eql 74 x y (.pointer none) (.pointer none) m=some (.bool true):=λ_ _ _=>by kernel_rfl
theorem nm_74:∀x y m,eqA EE.P .neq 74 x y (.pointer none) (.pointer none) m=some (.bool false):=λ_ _ _=>by kernel_rfl
theorem pt_78:ptT EE.P 78=true:=kr
theorem nn_78:∀x y m,eqA EE.P .eql 78 x y (.pointer none) (.pointer none) m=some (.bool true):=λ_ _ _=>by kernel_rfl
theorem nm_78:∀x y m,eqA EE.P .neq 78 x y (.pointer none) (.pointer none) m=some (.bool false):=λ_ _ _=>by kernel_rfl
theorem pt_80:ptT EE.P 80=true:=kr
theorem nn_80:∀x y m,eqA EE.P .eql 80 x y (.pointer none) (.pointer none) m=some (.bool true):=λ_ _ _=>by kernel_rfl
theorem nm_80:∀x y m,eqA EE.P .neq 80 x y (.pointer none) (.pointer none) m=some (.bool false):=λ_ _ _=>by kernel_rfl
theorem sl_22:slT EE.P 22=true:=kr
theorem sl_25:slT EE.P 25=true:=kr
theorem sl_41:slT EE.P 41=true:=kr
theorem sl_53:slT EE.P 53=true:=kr
theorem sl_67:slT EE.P 67=true:=kr
theorem sl_127:slT EE.P 127=true:=kr
theorem sl_190:slT EE.P 190=true:=kr
theorem sl_405:slT EE.P 405=true:=kr
def f17:SFunc:=⟨29,[.tmp 4, .tmp 5],cO Tryz.f17.body⟩
theorem fn17:fnOf EE.P 17=some f17:=kr
theorem ca_46:callable EE.P 46=true:=kr
end
end Go.Ab
