/- Part. -/
import Derived.Test.YtdhcheegbnnlbaaGreatDoorR02
import Derived.Laws.Append
import Derived.RangeFuncCalls
set_option linter.all false
open Go.Ab.Mem renaming get_put → gP
open List renaming getD_eq_getElem?_getD → gD', getElem?_eq_getElem → gE', length_append → aL, append_assoc → aA, getElem?_append_left → aB', getElem?_append_right → aC', getElem?_map → gM'
open Option.some renaming injEq → sI
open Prod.mk renaming injEq → pI
open Nat renaming le_refl → lR'
open Option renaming map_eq_some_iff → mE
open Bool renaming and_eq_true → bT, false_eq_true → bF
namespace Go.Ab
section
variable{σ:Sig}{P:Program}{ρ:Rho}{r r':Operand->Value}
structure zfN(w w':World)(k:Nat)(o:Obj):Prop where
 at_:w'.heap[k]? =some o
 far:∀j,j≠k->w'.heap[j]? =w.heap[j]?
 size:w'.heap.size=w.heap.size
 os:w'.os=w.os
 tape:w'.tape=w.tape
 output:w'.output=w.output
theorem zfN.refl{w:World}{k:Nat}{o:Obj}(h:w.heap[k]? =some o):zfN w w k o:=⟨h,λ_ _=>rfl,rfl,rfl,rfl,rfl⟩
theorem zh3{w:World}{b off:Nat}{ca:Array Value}{t:TypeId}{fz:Nat×Nat}(h:w.heap[b]? =some (.cells ca t fz))(v:Value):
  zfN w (w.setCell ⟨b,off,none⟩ v) b (.cells (ca.setIfInBounds off v) t fz):=by
 refine⟨?_,λj hj=>?_,by simp,rfl,rfl,rfl⟩
 ·simp[World.setCell,Array.getElem?_modify,h]
 ·simp only[World.setCell,Array.getElem?_modify];rw[if_neg (λe=>hj e.symm)]
theorem zsa{w:World}{b off:Nat}{ca:Array Value}{t:TypeId}(h:w.heap[b]? =some (.cells ca t (0,0)))(ho:off<ca.size){v:Value}(hv:oneCell v=true):
  (store ⟨b,off,none⟩ v).run P w= .ok () (w.setCell ⟨b,off,none⟩ v):=by
 have hc:w.cell? ⟨b,off,none⟩=some ca[off]:=by simp[World.cell?,h,ho]
 have hf:w.frozen? ⟨b,off,none⟩=false:=by simp[World.frozen?,h]
 cases v<;>first|(simp[oneCell] at hv;done)|simp[store,Sem.run,hc,hf]
theorem zeR{b off:Nat}{t:TypeId}:∀(vs:List Value) (i:Nat) (w:World) (ca:Array Value),w.heap[b]? =some (.cells ca t (0,0))->off+i+vs.length<=ca.size->vs.all oneCell=true->
  ∃w' ca',(storeCells ⟨b,off,none⟩ vs i).run P w= .ok () w'∧zfN w w' b (.cells ca' t (0,0))∧ca'.toList=zbr ca.toList (off+i) vs:=by
 intro vs
 induction vs with
 |nil=>intro i w ca h _ _;exact⟨w,ca,by simp[storeCells], .refl h,by simp[zbr]⟩
 |cons v vs ih=>
  intro i w ca h hlen hall;simp only[List.length_cons] at hlen;simp only[List.all_cons,bT] at hall;have ht:=zh3 (off:=off+i) h v;obtain⟨w',ca',h1,h2,h3⟩:=ih (i+1) (w.setCell ⟨b,off+i,none⟩ v) _ ht.at_ (by simp;omega) hall.2;refine⟨w',ca',?_,⟨h2.at_,λj hj=>(h2.far j hj).trans (ht.far j hj),h2.size.trans ht.size,h2.os.trans ht.os,h2.tape.trans ht.tape,h2.output.trans ht.output⟩,?_⟩
  ·have hs:=zsa (P:=P) h (off:=off+i) (by omega) hall.1;simp only[storeCells,zbP ⟨b,off,none⟩ rfl,Sem.run_bind,hs,Result.andThen_ok];exact h1
  ·rw[h3,Array.toList_setIfInBounds];exact zhl ca.toList (off+i) v vs (by simp;omega)
theorem zaN.turn{m:Mem}{w w':World}(hR:Rel σ ρ m w){b:Nat}{ob ob':zaS}{x:Nat×Nat×Nat}{o:Obj}(hm:m.get b=some ob)(hρ:ρ b=some x)(hw:wr ob=true)
  (ht:zfN w w' x.1 o) (hob:zgu σ ρ w' x ob'):zaN σ ρ m w ρ (m.put b ob') w':=by
 refine⟨⟨λc hc=>hR.dom c hc,hR.glob,λc oc y hc hy=>?_,λb1 b2 o1 o2 x1 x2 hne h1 h2 g1 g2 hww=>?_,λc hc=>by rw[gP,if_neg (λe=>by rw[e] at hc;rw[hR.fresh b hc] at hm;cases hm)];exact hR.fresh c hc⟩,Ext.refl ρ,lR' _,Nat.le_of_eq ht.size.symm,ht.os,ht.tape,ht.output,λk _ hf=>?_,λc oc y hc hy hlt=>?_⟩
 ·rw[gP] at hc;by_cases e:c=b
  ·subst e;rw[if_pos rfl] at hc;cases hc;rw[hρ] at hy;cases hy;exact hob
  ·rw[if_neg e] at hc;refine(hR.obj c oc y hc hy).keep (Ext.refl ρ) (ht.far _ ?_);exact λe'=>hR.inj b c ob oc x y (λe''=>e e''.symm) hm hc hρ hy hw e'.symm
 ·have key:∀{c oc y},(m.put b ob').get c=some oc->ρ c=some y->∃oc',m.get c=some oc'∧(wr oc=true->wr oc'=true):=λ{c oc y} hc _=>by
   rw[gP] at hc;by_cases e:c=b
   ·subst e;exact⟨ob,hm,λ_=>hw⟩
   ·rw[if_neg e] at hc;exact⟨oc,hc,id⟩
  obtain⟨o1',k1,k2⟩:=key h1 g1;obtain⟨o2',k3,_⟩:=key h2 g2;exact hR.inj b1 b2 o1' o2' x1 x2 hne k1 k3 g1 g2 (k2 hww)
 ·exact ht.far k (λe=>hf b ob x hm hw hρ e.symm)
 ·rw[gP] at hc;by_cases e:c=b
  ·subst e;exact⟨c,ob,y,hm,hy,rfl,λ_=>hw⟩
  ·rw[if_neg e] at hc;exact⟨c,oc,y,hc,hy,rfl,id⟩
theorem zxe{A B D:List Value}{n i:Nat}(h:A.length=n):(A++B++D)[i]? =if i<n then A[i]? else if i<n+B.length then B[i-n]? else D[i-(n+B.length)]? :=by
 by_cases c1:i<n
 ·rw[if_pos c1,aA,aB' (by omega)]
 ·rw[if_neg c1];by_cases c2:i<n+B.length
  ·rw[if_pos c2,aA,aC' (by omega),aB' (by omega),h]
  ·rw[if_neg c2,aC' (by rw[aL];omega),aL,h]
theorem zyM{new new':List Value}(hn:zat σ ρ new new')(hall:new.all oneCell=true):new'.all oneCell=true:=by
 rw[List.all_eq_true] at hall⊢;intro v hv;obtain⟨i,hi⟩:=List.getElem?_of_mem hv;have hlt:i<new.length:=by rw[hn.1];exact(List.getElem?_eq_some_iff.1 hi).1
 obtain⟨v',g1,g2⟩:=hn.get? (gE' hlt);rw[hi] at g1;cases g1;exact g2.oneCell (hall _ (List.getElem_mem hlt))
theorem zdW{m:Mem}{w:World}(hR:Rel σ ρ m w){b o:Nat}{c:Cells}{sz:Nat}{x:Nat×Nat×Nat}{new new':List Value}(hm:m.get b=some (.cells c true sz))(hρ:ρ b=some x)
  (hn:zat σ ρ new new') (hb:o+new.length<=c.n) (hall:new.all oneCell=true):
  ∃w',(storeCells ⟨x.1,x.2.1+o,none⟩ new').run P w= .ok () w'∧zaN σ ρ m w ρ (m.put b (.cells (c.write o new) true sz)) w':=by
 have hbc:=hb;rw[<-c.list_length] at hb;obtain⟨ca,t,fz,h1,h2,h3,h4⟩:=(hR.obj b _ _ hm hρ:za2 σ ρ w x c.list true sz)
 suffices hob:∀(w':World) (ca':Array Value),zfN w w' x.1 (.cells ca' t (0,0))->ca'.toList=zbr ca.toList (x.2.1+o) new'->za2 σ ρ w' x (zbr c.list o new) true sz by obtain⟨w',ca',g1,g2,g3⟩:=zeR (P:=P) (off:=x.2.1+o) new' 0 w ca (by rw[h3.1 rfl] at h1;exact h1) (by have:=hn.1;omega) (zyM hn hall);rw[Nat.add_zero] at g3;exact⟨w',g1,zaN.turn hR hm hρ rfl g2 (show za2 σ ρ w' x (c.write o new).list true sz from(Cells.write_list hbc).symm▸hob w' ca' g2 g3)⟩
 generalize c.list=cs at hb h2 h4;intro w' ca' g2 g3;refine⟨ca',t,(0,0),g2.at_,?_,⟨λ_=>rfl,h3.2⟩,λi hi=>?_⟩
 ·have hl:ca'.size=ca.size:=by rw[<-Array.length_toList,g3];have:=hn.1;simp[zbr];omega
  have:(zbr cs o new).length=cs.length:=by simp[zbr];omega
  omega
 ·have hl:(zbr cs o new).length=cs.length:=by simp[zbr];omega
  rw[zaw,g3];have hsub:zat σ ρ cs ((ca.toList.drop x.2.1).take cs.length):=⟨by simp;omega,λj hj=>by have:=h4 j hj;rw[zaw] at this;rw[gD' (l:=List.take _ _),List.getElem?_take_of_lt hj,List.getElem?_drop,<-gD'];exact this⟩;have hsp:=(ziE hsub hn o).2 i hi;have hlen':=hn.1;have e:(zbr (List.take cs.length (List.drop x.2.1 ca.toList)) o new').getD i undef=(zbr ca.toList (x.2.1+o) new').getD (x.2.1+i) undef:=by
   have hi':i<cs.length:=by omega
   have hcs:ca.toList.length=ca.size:=by simp
   unfold zbr;rw[gD',gD'];congr 1;rw[zxe (n:=o) (by rw[List.length_take,List.length_take,List.length_drop];omega),zxe (n:=x.2.1+o) (by rw[List.length_take];omega)];by_cases c1:i<o
   ·rw[if_pos c1,if_pos (by omega),List.getElem?_take_of_lt c1,List.getElem?_take_of_lt hi',List.getElem?_take_of_lt (by omega),List.getElem?_drop]
   ·by_cases c2:i<o+new'.length
    ·rw[if_neg c1,if_pos c2,if_neg (by omega),if_pos (by omega)];congr 1;omega
    ·rw[if_neg c1,if_neg c2,if_neg (by omega),if_neg (by omega),List.getElem?_drop,List.getElem?_drop,List.getElem?_take_of_lt (by omega),List.getElem?_drop];congr 1;omega
  rw[<-e];exact hsp
theorem zlR{t:TypeId}{a a' v v':Value}{m m':Mem}{w:World}(hR:Rel σ ρ m w)(ha:zaq σ ρ a a')(hv:zaq σ ρ v v')(h:zcZ P t a v m=some m'):
  ∃w',(Instr.storeAt t a' v').run P w= .ok () w'∧zaN σ ρ m w ρ m' w':=by
 unfold zcZ at h;split at h
 ·rename_i b o;obtain⟨b',off,sl,hρ,rfl⟩:=ha.ptr_inv;split at h
  ·rename_i cs sz hm;split at h
   ·cases h
   ·rename_i n hs;split at h
    ·rename_i hc;obtain⟨h1,h2,h3⟩:=hc;simp only[sI] at h;subst h;have hcl:=hv.cells (zs6 h3);have hsz:v'.cells.size=n:=by have:=hcl.1;simp at this;omega
     obtain⟨w',g1,g2⟩:=zdW (P:=P) (o:=o) hR hm hρ hcl (by simp;omega) h3;simp only at g1;exact⟨w',by simp[Instr.storeAt,Instr.sureAddr,storeVar,zbF hs,hsz,g1],g2⟩
    ·cases h
  ·cases h
 ·cases h
theorem zke{kd:TypeDesc}{x v v':Value}{clock:Nat}:∀{es out:List (Value×Value)} {es':List MapEntry},zcB σ ρ es es'->zaq σ ρ x x->zaq σ ρ v v'->zf1 kd x v es=some out->
  (Instr.findNow kd x es' 0=some none∧zcB σ ρ out (es'++ [{key:=x,val:=v',born:=clock}]))∨
  (∃i u e,Instr.findNow kd x es' 0=some (some (i,u))∧es'[i]? =some e∧Instr.sameNow kd x e.key=some true∧zcB σ ρ out (es'.modify i λe=>{e with key:=x,val:=v'})):=by
 have key:∀{es out:List (Value×Value)} {es':List MapEntry} (n:Nat),zcB σ ρ es es'->zaq σ ρ x x->zaq σ ρ v v'->zf1 kd x v es=some out->
   (Instr.findNow kd x es' n=some none∧zcB σ ρ out (es'++ [{key:=x,val:=v',born:=clock}]))∨
   (∃i u e,Instr.findNow kd x es' n=some (some (n+i,u))∧es'[i]? =some e∧Instr.sameNow kd x e.key=some true∧zcB σ ρ out (es'.modify i λe=>{e with key:=x,val:=v'})):=by
  intro es
  induction es with
  |nil=>intro out es' n he hx hv h;rw[he.nil_inv];simp only[zf1,sI] at h;subst h;exact .inl ⟨rfl,zcB.cons hx hv zcB.nil⟩
  |cons e es ih=>
   intro out es' n he hx hv h;obtain⟨e',l,rfl,h1,h2,h3⟩:=he.cons_inv;obtain⟨y,u⟩:=e;simp only[zf1] at h;cases hs:Instr.sameNow kd x y with
   |none=>rw[hs] at h;cases h
   |some b=>
    rw[hs] at h;have hs':=zfe h1 hs;cases b with
    |true=>simp only[sI] at h;subst h;exact .inr ⟨0,e'.val,e',by simp[Instr.findNow,hs'],by simp,hs',by simpa using zcB.cons (e:=(x,v)) (e':={e' with key:=x,val:=v'}) hx hv h3⟩
    |false=>
     simp only[mE] at h;obtain⟨out',h,rfl⟩:=h;rcases ih (n+1) h3 hx hv h with⟨g1,g2⟩|⟨i,u',e'',g1,g2,g3,g4⟩
     ·exact .inl ⟨by simp[Instr.findNow,hs',g1],zcB.cons h1 h2 g2⟩
     ·exact .inr ⟨i+1,u',e'',by simp only[Instr.findNow,hs',g1];congr 3;omega,by simpa using g2,g3,by simpa using zcB.cons (e:=(y,u)) h1 h2 g4⟩
 intro es out es' he hx hv h;simpa using key 0 he hx hv h
theorem zkz{kd:TypeDesc}{x:Value}:∀{es out:List (Value×Value)} {es':List MapEntry},zcB σ ρ es es'->zfX kd x es=some out->
  (Instr.findNow kd x es' 0=some none∧zcB σ ρ out es')∨(∃i u,Instr.findNow kd x es' 0=some (some (i,u))∧zcB σ ρ out (es'.eraseIdx i)):=by
 have key:∀{es out:List (Value×Value)} {es':List MapEntry} (n:Nat),zcB σ ρ es es'->zfX kd x es=some out->
   (Instr.findNow kd x es' n=some none∧zcB σ ρ out es')∨(∃i u,Instr.findNow kd x es' n=some (some (n+i,u))∧zcB σ ρ out (es'.eraseIdx i)):=by
  intro es
  induction es with
  |nil=>intro out es' n he h;rw[he.nil_inv];simp only[zfX,sI] at h;subst h;exact .inl ⟨rfl,zcB.nil⟩
  |cons e es ih=>
   intro out es' n he h;obtain⟨e',l,rfl,h1,h2,h3⟩:=he.cons_inv;obtain⟨y,u⟩:=e;simp only[zfX] at h;cases hs:Instr.sameNow kd x y with
   |none=>rw[hs] at h;cases h
   |some b=>
    rw[hs] at h;have hs':=zfe h1 hs;cases b with
    |true=>simp only[sI] at h;subst h;exact .inr ⟨0,e'.val,by simp[Instr.findNow,hs'],by simpa using h3⟩
    |false=>
     simp only[mE] at h;obtain⟨out',h,rfl⟩:=h;rcases ih (n+1) h3 h with⟨g1,g2⟩|⟨i,u',g1,g2⟩
     ·exact .inl ⟨by simp[Instr.findNow,hs',g1],zcB.cons h1 h2 g2⟩
     ·exact .inr ⟨i+1,u',by simp only[Instr.findNow,hs',g1];congr 3;omega,by simpa using zcB.cons (e:=(y,u)) h1 h2 g2⟩
 intro es out es' he h;simpa using key 0 he h
theorem zas{w:World}{k:Nat}{o o':Obj}(h:w.heap[k]? =some o):zfN w (w.putObj k o') k o':=
 ⟨World.putObj_heap_same (Array.getElem?_eq_some_iff.1 h).1,λ_ hj=>World.putObj_heap_other hj,World.putObj_size,rfl,rfl,rfl⟩
theorem zqJ{s t:ByteArray}(h:(s==t)=true):s=t:=by
 cases s with
 |mk a=>cases t with
  |mk b=>have h':(a==b)=true:=h;rw[eq_of_beq h']
theorem zso(s:ByteArray):(s==s)=true:=by
 cases s with
 |mk a=>show(a==a)=true;exact beq_self_eq_true a
theorem zlm{kd:TypeDesc}{x y:Value}(h:Instr.sameNow kd x y=some true):Instr.sameBits 10000 y x=true:=by
 cases kd<;>cases x<;>cases y<;>simp[Instr.sameNow] at h
 ·subst h;simp[Instr.sameBits]
 ·obtain⟨rfl,h⟩:=h;subst h;simp[Instr.sameBits]
 ·have e:=zqJ h;subst e;simp[Instr.sameBits,zso]
theorem zoo{kd:TypeDesc}{x y:Value}(h:Instr.sameNow kd x y=some true):x=y:=by
 cases kd<;>cases x<;>cases y<;>simp[Instr.sameNow] at h
 ·subst h;rfl
 ·obtain⟨rfl,h⟩:=h;subst h;rfl
 ·rw[zqJ h]
theorem zoe{kd:TypeDesc}{x y:Value}(h:Instr.sameNow kd x y=some false):y≠x:=by rintro rfl;cases kd<;>cases y<;>simp[Instr.sameNow] at h;rename_i s;exact absurd (zso s) (by rw[h];simp)
theorem zt2{kd:TypeDesc}{x:Value}{es:List MapEntry}(h:Instr.findNow kd x es 0=some none):∀e∈es,e.key≠x:=by
 have key:∀(es:List MapEntry) (n:Nat),Instr.findNow kd x es n=some none->∀e∈es,e.key≠x:=by
  intro es
  induction es with
  |nil=>intro n _ e he;cases he
  |cons e es ih=>
   intro n h;simp only[Instr.findNow] at h;cases hs:Instr.sameNow kd x e.key with
   |none=>rw[hs] at h;cases h
   |some b=>
    rw[hs] at h;cases b with
    |true=>cases h
    |false=>
     intro e' he';rcases List.mem_cons.1 he' with rfl|he'
     ·exact zoe hs
     ·exact ih _ h e' he'
 exact key es 0 h
theorem zdi{w w':World}{x:Nat×Nat×Nat}{es:List (Value×Value)}{es':Array MapEntry}{clock:Nat}(ht:zfN w w' x.1 (.map es' clock))(hst:MapKept.Stamped es' clock)(he:zcB σ ρ es es'.toList)(rw_:Bool):zgu σ ρ w' x (.map es rw_):=
 ⟨es',clock,ht.at_,hst,by simpa using he.1,λi e hi=>by simpa using he.2 i e hi⟩
theorem zBQ{a b:Value}(h:atQ a b=true):a=b:=by
 unfold atQ at h;split at h
 ·simp only[bT,beq_iff_eq] at h;rw[h.1,h.2]
 ·rw[beq_iff_eq.1 h]
 ·rw[zqJ h]
 ·cases h
theorem zsA:∀{l k:List Value},zEf l k=true->l=k
 |[],[],_=>rfl
 |[],_::_,h=>by cases h
 |_::_,[],h=>by cases h
 |a::l,b::k,h=>by simp only[zEf,bT] at h;rw[zBQ h.1,zsA h.2]
theorem zzk{a b:Value}(h:zAp a b=true):a=b:=by
 unfold zAp at h;split at h
 ·rename_i x y;have:=zsA h;rw[Array.toList_inj.1 this]
 ·cases h
theorem zog{k:TypeId}{x v v':Value}{clock:Nat}(w:World):∀{es out:List (Value×Value)} {es':List MapEntry} (n:Nat),zcB σ ρ es es'->zaq σ ρ x x->zaq σ ρ v v'->zDu P k x v es=some out->
   ((Instr.findAsking k x es' n).run P w= .ok none w∧(∀e∈es',e.key≠x)∧zcB σ ρ out (es'++ [{key:=x,val:=v',born:=clock}]))∨
   (∃i u e,(Instr.findAsking k x es' n).run P w= .ok (some (n+i,u)) w∧es'[i]? =some e∧x=e.key∧Instr.sameBits 10000 e.key x=true∧zcB σ ρ out (es'.modify i λe=>{e with key:=x,val:=v'})):=by
 intro es
 induction es with
 |nil=>intro out es' n he hx hv h;rw[he.nil_inv];simp only[zDu,sI] at h;subst h;exact .inl ⟨rfl,by simp,zcB.cons hx hv zcB.nil⟩
 |cons e es ih=>
  intro out es' n he hx hv h;obtain⟨e',l,rfl,h1,h2,h3⟩:=he.cons_inv;obtain⟨y,u⟩:=e;simp only[zDu] at h;cases hs:zi7 P k x y with
  |none=>rw[hs] at h;cases h
  |some b=>
   rw[hs] at h;unfold zi7 at hs;split at hs
   ·rename_i hp;obtain rfl:=zbG hp h1;have hr:=zdR _ hs w;cases b with
    |true=>
     simp only at h;split at h
     ·rename_i hq;simp only[bT] at hq;simp only[sI] at h;subst h;exact .inr ⟨0,e'.val,e',by simp[Instr.findAsking,hr],by simp,(zzk hq.1).symm,hq.2,by simpa using zcB.cons (e:=(x,v)) (e':={e' with key:=x,val:=v'}) hx hv h3⟩
     ·cases h
    |false=>
     simp only at h;split at h
     ·rename_i hq;simp only[bT,Bool.not_eq_true'] at hq;simp only[mE] at h;obtain⟨out',h,rfl⟩:=h;rcases ih (n+1) h3 hx hv h with⟨g1,g0,g2⟩|⟨i,u',e'',g1,g2,g3,g5,g4⟩
      ·refine .inl ⟨by simp[Instr.findAsking,hr,g1],λe he=>?_,zcB.cons h1 h2 g2⟩;rcases List.mem_cons.1 he with rfl|he
       ·intro e2;rw[e2,hq.1] at hq;exact absurd hq.2 (by simp)
       ·exact g0 e he
      ·exact .inr ⟨i+1,u',e'',by simp[Instr.findAsking,hr,g1];omega,by simpa using g2,g3,g5,by simpa using zcB.cons (e:=(e'.key,u)) h1 h2 g4⟩
     ·cases h
   ·cases hs
theorem zoG{k:TypeId}{x:Value}(w:World):∀{es out:List (Value×Value)} {es':List MapEntry} (n:Nat),zcB σ ρ es es'->zDc P k x es=some out->
   ((Instr.findAsking k x es' n).run P w= .ok none w∧zcB σ ρ out es')∨(∃i u,(Instr.findAsking k x es' n).run P w= .ok (some (n+i,u)) w∧zcB σ ρ out (es'.eraseIdx i)):=by
 intro es
 induction es with
 |nil=>intro out es' n he h;rw[he.nil_inv];simp only[zDc,sI] at h;subst h;exact .inl ⟨rfl,zcB.nil⟩
 |cons e es ih=>
  intro out es' n he h;obtain⟨e',l,rfl,h1,h2,h3⟩:=he.cons_inv;obtain⟨y,u⟩:=e;simp only[zDc] at h;cases hs:zi7 P k x y with
  |none=>rw[hs] at h;cases h
  |some b=>
   rw[hs] at h;unfold zi7 at hs;split at hs
   ·rename_i hp;obtain rfl:=zbG hp h1;have hr:=zdR _ hs w;cases b with
    |true=>simp only[sI] at h;subst h;exact .inr ⟨0,e'.val,by simp[Instr.findAsking,hr],by simpa using h3⟩
    |false=>
     simp only[mE] at h;obtain⟨out',h,rfl⟩:=h;rcases ih (n+1) h3 h with⟨g1,g2⟩|⟨i,u',g1,g2⟩
     ·exact .inl ⟨by simp[Instr.findAsking,hr,g1],zcB.cons h1 h2 g2⟩
     ·exact .inr ⟨i+1,u',by simp[Instr.findAsking,hr,g1];omega,by simpa using zcB.cons (e:=(e'.key,u)) h1 h2 g2⟩
   ·cases hs
theorem zki{t:TypeId}{mp mp' k k' v v':Value}{m m':Mem}{w:World}(hR:Rel σ ρ m w)(hm:zaq σ ρ mp mp')(hk:zaq σ ρ k k')(hv:zaq σ ρ v v')(h:zfc P t mp k v m=some m'):
  ∃w',(Instr.mapUpdate t mp' k' v').run P w= .ok () w'∧zaN σ ρ m w ρ m' w':=by
 unfold zfc at h;split at h
 ·rename_i kt et b hu;split at h
  ·rename_i es kd hmb hkd;simp only[mE] at h;obtain⟨out,hs,rfl⟩:=h;obtain⟨hku,hkx,hck⟩:=zd5 (ρ:=ρ) hkd;obtain rfl:=hkx k' hk;cases hm with
   |map hρ=>
    rename_i b' off sl;obtain⟨es',clock,g0,he,hst⟩:=zfp hR hmb hρ;simp only at g0;have hget:(getObj b').run P w= .ok (.map es' clock) w:=by simp[getObj,Sem.run,g0]
    have hset:∀o',(setObj b' o').run P w= .ok () (w.putObj b' o'):=λo'=>by simp[setObj,Sem.run,g0,World.putObj]
    rcases zke (clock:=clock) he hk hv hs with⟨g1,g2⟩|⟨i,u,e,g1,g2,g3,g4⟩
    ·have ht:=zas (o':= .map (es'.push {key:=k',val:=v',born:=clock}) (clock+1)) g0;refine⟨_,?_,zaN.turn hR hmb hρ rfl ht (zdi (x:=(b',off,sl)) ht (MapKept.stamped_push hst (zt2 g1)) (by simpa using g2) true)⟩;simp[Instr.mapUpdate,zag hu,hget,hck,zcr hku g1,hset]
    ·have ht:=zas (o':= .map (es'.modify i λe=>{e with key:=k',val:=v'}) clock) g0;refine⟨_,?_,zaN.turn hR hmb hρ rfl ht (zdi (x:=(b',off,sl)) ht (MapKept.stamped_modify hst i _ (λ_ _=>rfl) λe0 _ he0=>by
      have:e0=e:=by
       have h1:es'.toList[i]? =some e0:=by simpa using he0
       rw[h1] at g2;exact Option.some.inj g2
      subst this;exact zoo g3) (by simpa using g4) true)⟩
     have hb:=zlm g3;have g2':es'[i]? =some e:=by simpa using g2
     have hkeep:∀o,(Instr.keyThatStays e.key k').run P o= .ok k' o:=λo=>by simp[Instr.keyThatStays,hb]
     simp[Instr.mapUpdate,zag hu,hget,hck,zcr hku g1,g2',hkeep,hset]
  ·rename_i es hmb hkd;split at h
   ·rename_i hks;simp only[mE] at h;obtain⟨out,hs,rfl⟩:=h;obtain⟨⟨fs,hku⟩,hkx,hck⟩:=zjM (ρ:=ρ) hks;obtain rfl:=hkx k' hk;cases hm with
    |map hρ=>
     rename_i b' off sl;obtain⟨es',clock,g0,he,hst⟩:=zfp hR hmb hρ;simp only at g0;have hget:(getObj b').run P w= .ok (.map es' clock) w:=by simp[getObj,Sem.run,g0]
     have hset:∀o',(setObj b' o').run P w= .ok () (w.putObj b' o'):=λo'=>by simp[setObj,Sem.run,g0,World.putObj]
     rcases zog (clock:=clock) w 0 he hk hv hs with⟨g1,gn,g2⟩|⟨i,u,e,g1,g2,g3,hb,g4⟩
     ·have ht:=zas (o':= .map (es'.push {key:=k',val:=v',born:=clock}) (clock+1)) g0;refine⟨_,?_,zaN.turn hR hmb hρ rfl ht (zdi (x:=(b',off,sl)) ht (MapKept.stamped_push hst gn) (by simpa using g2) true)⟩;simp[Instr.mapUpdate,zag hu,hget,hck,zb7 hku g1,hset]
     ·have ht:=zas (o':= .map (es'.modify i λe=>{e with key:=k',val:=v'}) clock) g0;refine⟨_,?_,zaN.turn hR hmb hρ rfl ht (zdi (x:=(b',off,sl)) ht (MapKept.stamped_modify hst i _ (λ_ _=>rfl) λe0 _ he0=>by
       have:e0=e:=by
        have h1:es'.toList[i]? =some e0:=by simpa using he0
        rw[h1] at g2;exact Option.some.inj g2
       subst this;exact g3) (by simpa using g4) true)⟩
      have g2':es'[i]? =some e:=by simpa using g2
      have hkeep:∀o,(Instr.keyThatStays e.key k').run P o= .ok k' o:=λo=>by simp[Instr.keyThatStays,hb]
      simp[Instr.mapUpdate,zag hu,hget,hck,zb7 hku g1,g2',hkeep,hset]
   ·cases h
  ·cases h
 ·cases h
theorem zkP{at_:Array TypeId}{ty:TypeId}{mp mp' k k':Value}{m m':Mem}{w:World}{args:Array Value}(hR:Rel σ ρ m w)(hm:zaq σ ρ mp mp')(hk:zaq σ ρ k k')(h0:args[0]? =some mp')(h1:args[1]? =some k')(h:zf5 P at_ mp k m=some m'):
  ∃w',(Builtin.delete_ at_ ty args).run P w= .ok (.tuple #[]) w'∧zaN σ ρ m w ρ m' w':=by
 unfold zf5 at h;split at h
 ·rename_i t hat
  split at h
  ·rename_i kt et hu;simp only[mE] at h;obtain⟨kd,hkd,rfl⟩:=h;obtain⟨hku,hkx,hck⟩:=zd5 (ρ:=ρ) hkd;obtain rfl:=hkx k' hk;cases hm;exact⟨w,by simp[Builtin.delete_,hat,h0,h1,zag hu,hck],zaN.refl hR⟩
  ·rename_i kt et b hu;split at h
   ·rename_i es kd hmb hkd;simp only[mE] at h;obtain⟨out,hs,rfl⟩:=h;obtain⟨hku,hkx,hck⟩:=zd5 (ρ:=ρ) hkd;obtain rfl:=hkx k' hk;cases hm with
    |map hρ=>
     rename_i b' off sl;obtain⟨es',clock,g0,he,hst⟩:=zfp hR hmb hρ;simp only at g0;have hget:(getObj b').run P w= .ok (.map es' clock) w:=by simp[getObj,Sem.run,g0]
     have hset:∀o',(setObj b' o').run P w= .ok () (w.putObj b' o'):=λo'=>by simp[setObj,Sem.run,g0,World.putObj]
     rcases zkz he hs with⟨g1,g2⟩|⟨i,u,g1,g2⟩
     ·have ht:=zas (o':= .map es' clock) g0;refine⟨_,?_,zaN.turn hR hmb hρ rfl ht (zdi (x:=(b',off,sl)) ht hst g2 true)⟩;simp[Builtin.delete_,hat,h0,h1,zag hu,hget,hck,zcr hku g1,hset]
     ·have ht:=zas (o':= .map (es'.eraseIdxIfInBounds i) clock) g0;refine⟨_,?_,zaN.turn hR hmb hρ rfl ht (zdi (x:=(b',off,sl)) ht (MapKept.stamped_erase hst i) (by
       have:(es'.eraseIdxIfInBounds i).toList=es'.toList.eraseIdx i:=by
        unfold Array.eraseIdxIfInBounds;split
        ·simp
        ·rw[List.eraseIdx_of_length_le (by simp;omega)]
       rw[this];exact g2) true)⟩
      simp[Builtin.delete_,hat,h0,h1,zag hu,hget,hck,zcr hku g1,hset]
   ·rename_i es hmb hkd;split at h
    ·rename_i hks;simp only[mE] at h;obtain⟨out,hs,rfl⟩:=h;obtain⟨⟨fs,hku⟩,hkx,hck⟩:=zjM (ρ:=ρ) hks;obtain rfl:=hkx k' hk;cases hm with
     |map hρ=>
      rename_i b' off sl;obtain⟨es',clock,g0,he,hst⟩:=zfp hR hmb hρ;simp only at g0;have hget:(getObj b').run P w= .ok (.map es' clock) w:=by simp[getObj,Sem.run,g0]
      have hset:∀o',(setObj b' o').run P w= .ok () (w.putObj b' o'):=λo'=>by simp[setObj,Sem.run,g0,World.putObj]
      rcases zoG w 0 he hs with⟨g1,g2⟩|⟨i,u,g1,g2⟩
      ·have ht:=zas (o':= .map es' clock) g0;refine⟨_,?_,zaN.turn hR hmb hρ rfl ht (zdi (x:=(b',off,sl)) ht hst g2 true)⟩;simp[Builtin.delete_,hat,h0,h1,zag hu,hget,hck,zb7 hku g1,hset]
      ·have ht:=zas (o':= .map (es'.eraseIdxIfInBounds i) clock) g0;refine⟨_,?_,zaN.turn hR hmb hρ rfl ht (zdi (x:=(b',off,sl)) ht (MapKept.stamped_erase hst i) (by
        have:(es'.eraseIdxIfInBounds i).toList=es'.toList.eraseIdx i:=by
         unfold Array.eraseIdxIfInBounds;split
         ·simp
         ·rw[List.eraseIdx_of_length_le (by simp;omega)]
        rw[this];exact g2) true)⟩
       simp[Builtin.delete_,hat,h0,h1,zag hu,hget,hck,zb7 hku g1,hset]
    ·cases h
   ·cases h
  ·cases h
 ·cases h
end
section
variable{σ:Sig}{P:Program}{ρ:Rho}{r r':Operand->Value}
theorem zhL{sz k:Nat}{x x':Value}{m:Mem}{new:List Value}{w:World}(hR:Rel σ ρ m w)(hx:zaq σ ρ x x')(h:zdY sz x m=some (new,k)):
  ∃new':List Value,zat σ ρ new new'∧(∀w',(Builtin.lenOf x').run P w'= .ok k w')∧(Builtin.firstCells sz k x').run P w= .ok new'.toArray w∧(k=0->new=[]):=by
 unfold zdY at h;split at h
 ·simp only[sI,pI] at h;obtain⟨rfl,rfl⟩:=h;cases hx;exact⟨[],zat.nil ρ,λw'=>rfl,rfl,λ_=>rfl⟩
 ·rename_i b o n c;obtain⟨b',off,sl,c',hρ,rfl,_,_⟩:=hx.slice_inv;split at h
  ·rename_i cs rw_ s2 hm;simp only[mE,pI] at h;obtain⟨l,hsub,rfl,rfl⟩:=h;obtain⟨cs',hl,hcell⟩:=(hR.obj b _ _ hm hρ:za2 σ ρ w (b',off,sl) cs.list rw_ s2).list;rw[Cells.sub_eq] at hsub;obtain⟨out',ho1,ho2,ho3⟩:=zml hl hsub;refine⟨out',ho1,λw'=>rfl,?_,λhk=>?_⟩
   ·have hrun:=zcT (P:=P) (a:=⟨b',off+o,none⟩) (w:=w) out' 0 #[] (λj v hj=>by rw[zbP _ rfl];have:=hcell (o+j) v (ho3 j v hj);simpa [Nat.add_assoc] using this);rw[ho2] at hrun;simpa [Builtin.firstCells,loadCells] using hrun
   ·subst hk;simp only[Nat.zero_mul] at ho2;exact List.eq_nil_of_length_eq_zero (by rw[ho1.1,ho2])
  ·cases h
 ·simp only[sI,pI] at h;obtain⟨rfl,rfl⟩:=h;cases hx with
  |lost a c'=>exact⟨[],zat.nil ρ,λw'=>rfl,by simp[Builtin.firstCells,loadCells,loadCellsFrom],λ_=>rfl⟩
 ·rename_i s;simp only[sI,pI] at h;obtain⟨rfl,rfl⟩:=h;obtain rfl:=hx.string_inv;refine⟨_,zc8 s,λw'=>rfl,?_,λhk=>?_⟩
  ·simp only[Builtin.firstCells,Sem.run_pure,Result.ok.injEq,and_true];have:s.extract 0 s.size=s:=by simp
   rw[this];simp[<-Array.toList_map]
  ·have:s.data.toList.length=0:=by simpa using hk
   rw[List.eq_nil_of_length_eq_zero this];rfl
 ·cases h
where
 zc8 (s:ByteArray):zat σ ρ (s.data.toList.map λb=>Value.int .u8 b.toNat) (s.data.toList.map λb=>Value.int .u8 b.toNat):=by
  induction s.data.toList with
  |nil=>exact zat.nil ρ
  |cons b l ih=>exact zat.cons (.int _ _) ih
def zte(σ:Sig)(P:Program)(ρ:Rho)(m:Mem)(w:World)(id:Nat)(at_:Array TypeId)(ty:TypeId)(args:Array Value)(v:Value)(m':Mem):Prop:=
 ∃v' w' ρ',(Builtin.append_ at_ ty args).run P w= .ok v' w'∧zaq σ ρ' v v'∧zaN σ ρ m w ρ' m' w'∧zeU m.next id ρ ρ'
theorem zjD{at_:Array TypeId}{ty ts tx e:TypeId}{d:TypeDesc}{i:TypeInfo}{args:Array Value}{base:Option Addr}{n c k:Nat}{x:Value}{w:World}{new':List Value}
  (h0:at_[0]? =some ts) (h1:at_[1]? =some tx) (hu:P.underlying ts=some (.slice e)) (hux:P.underlying tx=some d) (hd:∀q,d≠ .int q) (hi:P.info? e=some i)
  (ha0:args[0]? =some (.slice base n c)) (ha1:args[1]? =some x) (hk:∀w',(Builtin.lenOf x).run P w'= .ok k w') (hc:n+k<=c) (hf:(Builtin.firstCells i.size k x).run P w= .ok new'.toArray w):
  (Builtin.append_ at_ ty args).run P w=(match base with|some a=>(storeCells (a.add (n*i.size)) new').run P w|none=> .ok () w).andThen λ_ w'=> .ok (.slice base (n+k) c) w':=by
 have hsz:∀w,(sizeOf e).run P w= .ok i.size w:=λw=>by simp[sizeOf,zb0 hi]
 cases base with
 |none=>simp[Builtin.append_,h0,h1,ha0,ha1,zag hu,zag hux,hsz,hk,hc,hf]
 |some a=>simp[Builtin.append_,h0,h1,ha0,ha1,zag hu,zag hux,hsz,hk,hc,hf]
theorem zsr{at_:Array TypeId}{ty ts tx e:TypeId}{d:TypeDesc}{i:TypeInfo}{z:Value}{args:Array Value}{base:Option Addr}{n c k:Nat}{x:Value}{w:World}{old' new':List Value}
  (h0:at_[0]? =some ts) (h1:at_[1]? =some tx) (hu:P.underlying ts=some (.slice e)) (hux:P.underlying tx=some d) (hd:∀q,d≠ .int q) (hi:P.info? e=some i) (hz:zbT P e=some z)
  (ha0:args[0]? =some (.slice base n c)) (ha1:args[1]? =some x) (hk:∀w',(Builtin.lenOf x).run P w'= .ok k w') (hc:c<n+k) (hb:(n+k)*i.bytes<=2 ^ 40) (hn:n+k<=2 ^ 40)
  (ho:(Builtin.firstCells i.size n (.slice base n c)).run P w.drew= .ok old'.toArray w.drew) (hf:(Builtin.firstCells i.size k x).run P w.drew= .ok new'.toArray w.drew):
  (Builtin.append_ at_ ty args).run P w= .ok (.slice (some ⟨w.heap.size,0,none⟩) (n+k) (grownCap w (n+k) c e))
   (w.drew.alloc (.cells (old'.toArray++new'.toArray++Builtin.zeroCells z.cells (grownCap w (n+k) c e-(n+k))) e)):=by
 have hsz:∀w,(sizeOf e).run P w= .ok i.size w:=λw=>by simp[sizeOf,zb0 hi]
 have hc':¬n+k<=c:=by omega
 have h63:¬(9223372036854775807<((n:Int)+(k:Int))):=by omega
 have h48:¬(281474976710656<Builtin.nextslicecap (n+k) c*i.bytes):=by have:=growslice_fits (need:=n+k) (old:=c) (bytes:=i.bytes) hc (by omega);omega
 have hzz:∀w,(zeroValue e).run P w= .ok z w:=λw=>zcO hz w;simp[Builtin.append_,h0,h1,ha0,ha1,zag hu,zag hux,hsz,hk,hc',hf,ho,zb0 hi,h63,h48,hzz,newRow,Question.forced,grownCap];congr 2;apply Array.toList_inj.1;simp
theorem zhP(w:World)(need old:Nat)(e:TypeId):need<=grownCap w need old e:=by simp only[grownCap,Question.cut];omega
theorem Rel.kill{m:Mem}{w:World}(hR:Rel σ ρ m w)(b:Nat):Rel σ ρ (m.kill b) w:=by
 have key:∀c o,(m.kill b).get c=some o->m.get c=some o:=λc o h=>by
  rw[Mem.get_kill] at h;split at h
  ·cases h
  ·exact h
 exact⟨hR.dom,hR.glob,λc o x hc hx=>hR.obj c o x (key c o hc) hx,λb1 b2 o1 o2 x1 x2 hne h1 h2 g1 g2 hw=>hR.inj b1 b2 o1 o2 x1 x2 hne (key _ _ h1) (key _ _ h2) g1 g2 hw,λc hc=>by
  rw[Mem.get_kill];split
  ·rfl
  ·exact hR.fresh c hc⟩
theorem zaN.kill{m:Mem}{w:World}(hR:Rel σ ρ m w)(b:Nat):zaN σ ρ m w ρ (m.kill b) w:=
 ⟨hR.kill b,Ext.refl ρ,lR' _,lR' _,rfl,rfl,rfl,λ_ _ _=>rfl,λc o x hc hx _=>by
  rw[Mem.get_kill] at hc;split at hc
  ·cases hc
  ·exact⟨c,o,x,hc,hx,rfl,id⟩⟩
theorem zaN.take{m:Mem}{w w':World}(hR:Rel σ ρ m w){b id:Nat}{ob ob':zaS}{x y:Nat×Nat×Nat}{o:Obj}(hm:m.get b=some ob)(hρ:ρ b=some x)(hw:wr ob=true)(hid:ρ id=none)(hlt:id<m.next)
  (hy:y.1=x.1) (ht:zfN w w' x.1 o) (hob:zgu σ (upd ρ id y) w' y ob'):zaN σ ρ m w (upd ρ id y) ((m.kill b).put id ob') w':=by
 have he:=zeB hid y;have hne:id≠b:=λe=>by rw[e,hρ] at hid;cases hid
 have hge:64<=id:=by
  rcases Nat.lt_or_ge id 64 with hl|hl
  ·rw[hR.glob id hl] at hid;cases hid
  ·exact hl
 have key:∀{c oc z},((m.kill b).put id ob').get c=some oc->upd ρ id y c=some z->(c=id∧oc=ob'∧z=y)∨(c≠id∧c≠b∧m.get c=some oc∧ρ c=some z):=λ{c oc z} hc hz=>by
  rw[gP] at hc;by_cases e:c=id
  ·subst e;rw[if_pos rfl] at hc;cases hc;rw[zbo] at hz;cases hz;exact .inl ⟨rfl,rfl,rfl⟩
  ·rw[if_neg e,Mem.get_kill] at hc;split at hc
   ·cases hc
   ·rename_i e2;exact .inr ⟨e,e2,hc,by simpa [upd,e] using hz⟩
 refine⟨⟨λc hc=>?_,λg hg=>?_,λc oc z hc hz=>?_,λb1 b2 o1 o2 x1 x2 hne' h1 h2 g1 g2 hww=>?_,λc hc=>?_⟩,he,lR' _,Nat.le_of_eq ht.size.symm,ht.os,ht.tape,ht.output,λk _ hf=>?_,λc oc z hc hz hlt'=>?_⟩
 ·have:c≠id:=by simp at hc;omega
  simp only[upd,this,if_false];exact hR.dom c hc
 ·have:g≠id:=by omega
  simp only[upd,this,if_false];exact hR.glob g hg
 ·rcases key hc hz with⟨rfl,rfl,rfl⟩|⟨_,k2,k3,k4⟩
  ·exact hob
  ·refine(hR.obj c oc z k3 k4).keep he (ht.far _ ?_);exact λe'=>hR.inj b c ob oc x z (λe''=>k2 e''.symm) hm k3 hρ k4 hw e'.symm
 ·rcases key h1 g1 with⟨rfl,rfl,rfl⟩|⟨_,k2,k3,k4⟩
  ·rcases key h2 g2 with⟨rfl,_,_⟩|⟨_,j2,j3,j4⟩
   ·exact absurd rfl hne'
   ·rw[hy];exact hR.inj b b2 ob o2 x x2 (λe=>j2 e.symm) hm j3 hρ j4 hw
  ·rcases key h2 g2 with⟨rfl,rfl,rfl⟩|⟨_,j2,j3,j4⟩
   ·rw[hy];exact λe=>hR.inj b b1 ob o1 x x1 (λe=>k2 e.symm) hm k3 hρ k4 hw e.symm
   ·exact hR.inj b1 b2 o1 o2 x1 x2 hne' k3 j3 k4 j4 hww
 ·rw[gP,if_neg (by simp at hc;omega),Mem.get_kill];split
  ·rfl
  ·exact hR.fresh c hc
 ·exact ht.far k (λe=>hf b ob x hm hw hρ e.symm)
 ·rcases key hc hz with⟨rfl,rfl,rfl⟩|⟨_,k2,k3,k4⟩
  ·exact⟨b,ob,x,hm,hρ,hy.symm,λ_=>hw⟩
  ·exact⟨c,oc,z,k3,k4,rfl,λhw=>hw⟩
theorem zy3{new new':List Value}(hn:zat σ ρ new new')(hall:new.all oneCell=true):new'.all oneCell=true:=by
 rw[List.all_eq_true] at hall⊢;intro v hv;obtain⟨i,hi⟩:=List.getElem?_of_mem hv;have hlt:i<new.length:=by rw[hn.1];exact(List.getElem?_eq_some_iff.1 hi).1
 obtain⟨v',g1,g2⟩:=hn.get? (gE' hlt);rw[hi] at g1;cases g1;exact g2.oneCell (hall _ (List.getElem_mem hlt))
theorem zj9{id:Nat}{at_:Array TypeId}{ty:TypeId}{args:Array Value}{s s' x x' v:Value}{m m':Mem}{w:World}(hR:Rel σ ρ m w)(hs:zaq σ ρ s s')(hx:zaq σ ρ x x')(hid:ρ id=none)(hlt:id<m.next)
  (ha0:args[0]? =some s') (ha1:args[1]? =some x') (h:zaV P id at_ s x m=some (v,m')):zte σ P ρ m w id at_ ty args v m':=by
 unfold zaV at h;split at h
 ·rename_i ts tx h0 h1;split at h
  ·cases h
  ·rename_i e d base n c hni hu hux;have hd:∀q,d≠ .int q:=λq hq=>hni q hq;split at h
   ·cases h
   ·rename_i i hi;split at h
    ·cases h
    ·rename_i new k hsrc;obtain⟨new',hn1,hn2,hn3,hn4⟩:=zhL (P:=P) hR hx hsrc;obtain⟨new2,hn1',_,hn3',_⟩:=zhL (P:=P) hR.drew hx hsrc;split at h
     ·rename_i hk0;split at h
      ·rename_i hnc;simp only[sI,pI] at h;obtain⟨rfl,rfl⟩:=h;have hnil:=hn4 hk0;subst hnil;have:new'=[]:=List.eq_nil_of_length_eq_zero (by rw[<-hn1.1];rfl);subst this;have hsv:∃base' c',s'= .slice base' n c'∧c<=c':=by
        cases hs with
        |nilSlice=>exact⟨_,_,rfl,lR' _⟩
        |slice _ hc _=>exact⟨_,_,rfl,by omega⟩
        |lost a c'=>exact⟨_,_,rfl,Nat.zero_le _⟩
       obtain⟨base',c',rfl,hcc⟩:=hsv;have hf:=zjD (ty:=ty) h0 h1 hu hux hd hi ha0 ha1 hn2 (by omega) hn3;refine⟨.slice base' n c',w,ρ,?_,hs,zaN.refl hR,λ_ _ _ h=>h⟩;rw[hf,hk0];cases base'<;>rfl
      ·cases h
     ·rename_i hk0;split at h
      ·cases h
      ·rename_i hgood;simp only[not_or,Bool.not_eq_false,Classical.not_not] at hgood;obtain⟨hall,hlen⟩:=hgood;split at h
       ·rename_i hfit;split at h
        ·rename_i b o;obtain⟨b',off,sl,c',hρ,rfl,hcc,hnc⟩:=hs.slice_inv;split at h
         ·rename_i cs sz hm;split at h
          ·rename_i hbound;simp only[sI,pI] at h;obtain⟨rfl,rfl⟩:=h;have hf:=zjD (ty:=ty) h0 h1 hu hux hd hi ha0 ha1 hn2 (by omega) hn3;obtain⟨w',g1,g2⟩:=zdW (P:=P) (o:=o+n*i.size) hR hm hρ hn1 (by rw[hlen];rw[Nat.add_mul] at hbound;omega) hall;refine⟨.slice (some ⟨b',off+o,none⟩) (n+k) c',w',ρ,?_, .slice hρ hcc hfit,g2,λ_ _ _ h=>h⟩;rw[hf];simp only[zbP ⟨b',off+o,none⟩ rfl];simp only[Nat.add_assoc] at g1⊢;rw[g1];rfl
          ·cases h
         ·cases h
        ·cases h
       ·rename_i hfit;split at h
        ·cases h
        ·rename_i hbnd;simp only[not_or,Classical.not_not] at hbnd;obtain⟨hs0,hb40,hn40⟩:=hbnd;split at h
         ·cases h
         ·rename_i z hz;split at h
          ·cases h
          ·rename_i hzc;simp only[not_or,Classical.not_not] at hzc;have grow:∀{base':Option Addr} {c':Nat} {old old':List Value} {mk:Mem} {cg:Cells},cg.list=old++new->args[0]? =some (.slice base' n c')->c'<n+k->zat σ ρ old old'->old.length=n*i.size->
             (Builtin.firstCells i.size n (.slice base' n c')).run P w.drew= .ok old'.toArray w.drew->zaN σ ρ m w ρ mk w->mk.next=m.next->
             zte σ P ρ m w id at_ ty args (.slice (some ⟨id,0,none⟩) (n+k) (n+k)) (mk.put id (.cells cg true i.size)):=by
            intro base' c' old old' mk cg hcg hb hc' ho hol hfo hmk hnext;have hg:=zsr (ty:=ty) h0 h1 hu hux hd hi hz hb ha1 hn2 hc' hb40 hn40 hfo hn3';have hcap:=zhP w (n+k) c' e;generalize grownCap w (n+k) c' e=cap at hg hcap;have hlr:zat σ ρ (old++new) (old'++new2):=ho.append hn1';refine⟨_,_,upd ρ id (w.drew.heap.size,0,cap-(n+k)),hg,?_,?_,zgf⟩
            ·have:=zaq.slice (σ:=σ) (o:=0) (zbo ρ id (w.drew.heap.size,0,cap-(n+k))) (c:=n+k) (c':=cap) (.inr (by omega)) (lR' _);simpa using this
            ·have hmk':Rel σ ρ mk w.drew:=hmk.rel.drew;have hpm:=zaN.make (co:= .cells (old'.toArray++new2.toArray++Builtin.zeroCells z.cells (cap-(n+k))) e) (ob:= .cells cg true i.size) (x:=(w.drew.heap.size,0,cap-(n+k))) hmk' hid (by rw[hnext];exact hlt) rfl ?_
             ·refine(hmk.trans ⟨hmk',Ext.refl ρ,lR' _,lR' _,rfl,rfl,rfl,λ_ _ _=>rfl,λb o x hb hx _=>⟨b,o,x,hb,hx,rfl,λh=>h⟩⟩).trans hpm
             ·show za2 _ _ _ _ cg.list true i.size;rw[hcg];refine⟨old'.toArray++new2.toArray++Builtin.zeroCells z.cells (cap-(n+k)),e,(0,0),Array.getElem?_push_size,?_,⟨λ_=>rfl,λ_=>rfl⟩,λj hj=>?_⟩
              ·have hl:=hlr.1;simp only[aL] at hl⊢;have hzl:(Builtin.zeroCells z.cells (cap-(n+k))).size=(cap-(n+k))*i.size:=by simp[Builtin.zeroCells,hzc.2]
               simp only[Array.size_append,hzl,List.size_toArray];omega
              ·have hj2:j<(old'++new2).length:=by rw[<-hlr.1];exact hj
               rw[zaw];simp only[Array.toList_append,Nat.zero_add];rw[gD' (l:=old'++new2++_),aB' hj2,<-gD'];exact(hlr.2 j hj).mono (zeB hid _)
           split at h
           ·split at h
            ·rename_i hn0;simp only[sI,pI] at h;obtain⟨rfl,rfl⟩:=h;subst hn0;cases hs with
             |nilSlice=>have:=grow (old:=[]) (old':=[]) (mk:=m) (cg:= .ofList new) (Cells.ofList_list _) ha0 (by omega) (zat.nil ρ) (by simp) (by simp[Builtin.firstCells]) (zaN.refl hR) rfl;simpa using this
            ·cases h
           ·rename_i b o;obtain⟨b',off,sl,c',hρ,rfl,hcc,hnc⟩:=hs.slice_inv;split at h
            ·rename_i cs sz hm;split at h
             ·rename_i hfr;obtain⟨hnc2,hend,hsz⟩:=hfr;simp only[sI,pI] at h;obtain⟨rfl,rfl⟩:=h;subst hsz;by_cases hin:n+k<=c'
              ·
               have hf:=zjD (ty:=ty) h0 h1 hu hux hd hi ha0 ha1 hn2 hin hn3;obtain⟨ca,t,fz,q1,q2,q3,q4⟩:=(hR.obj b _ _ hm hρ:za2 σ ρ w (b',off,sl) cs.list true i.size);have hcl:=cs.list_length;rw[q3.1 rfl] at q1;simp only at q1 q2 q4;have hksl:k*i.size<=sl*i.size:=Nat.mul_le_mul_right _ (by omega);have hall':=zy3 hn1 hall;have hl1:=hn1.1;obtain⟨w',ca',g1,g2,g3⟩:=zeR (P:=P) (off:=off+o+n*i.size) new' 0 w ca q1 (by omega) hall';rw[Nat.add_zero] at g3;have hca:ca'.size=ca.size:=by rw[<-Array.length_toList,g3];simp[zbr];omega
               refine⟨.slice (some ⟨b',off+o,none⟩) (n+k) c',w',upd ρ id (b',off+o,sl-k),?_,?_,zaN.take (y:=(b',off+o,sl-k)) hR hm hρ rfl hid hlt rfl g2 (show za2 σ (upd ρ id (b',off+o,sl-k)) w' (b',off+o,sl-k) (cs.more o new).list true i.size from(Cells.more_list cs o new).symm▸⟨ca',t,(0,0),g2.at_,?_,⟨λ_=>rfl,λe=>absurd e (by omega)⟩,λj hj=>?_⟩),zgf⟩
               ·rw[hf];simp only[zbP ⟨b',off+o,none⟩ rfl];rw[g1];rfl
               ·have:=zaq.slice (σ:=σ) (o:=0) (zbo ρ id (b',off+o,sl-k)) (c:=n+k) (c':=c') (.inr (by omega)) (lR' _);simpa using this
               ·have e1:(sl-k)*i.size=sl*i.size-k*i.size:=Nat.sub_mul _ _ _;simp only[aL,List.length_drop];omega
               ·simp only[aL,List.length_drop] at hj;have hcs:ca.toList.length=ca.size:=by simp
                rw[zaw,g3];simp only;unfold zbr;rw[gD' (l:=_++_++_),zxe (n:=off+o+n*i.size) (by rw[List.length_take];omega)];by_cases c1:j<n*i.size
                ·rw[if_pos (by omega),List.getElem?_take_of_lt (by omega)];rw[gD',aB' (by simp;omega),List.getElem?_drop];have:=q4 (o+j) (by omega);rw[zaw,gD',gD'] at this;rw[show off+o+j=off+(o+j) from by omega];exact this.mono (zeB hid _)
                ·rw[if_neg (by omega),if_pos (by omega)];rw[gD',aC' (by simp;omega)];have:=hn1.at_ (j-n*i.size);rw[gD',gD'] at this;rw[show j-(cs.list.drop o).length=j-n*i.size from by rw[List.length_drop];omega,show off+o+j-(off+o+n*i.size)=j-n*i.size from by omega];exact this.mono (zeB hid _)
              ·obtain⟨cs',hl,hcell⟩:=(hR.obj b _ _ hm hρ:za2 σ ρ w (b',off,sl) cs.list true i.size).list;have hcl:=cs.list_length;have hlo:=hl.drop o;refine grow (old':=cs'.drop o) (mk:=m.kill b) (Cells.more_list cs o new) ha0 (by omega) hlo (by rw[List.length_drop];omega) ?_ (zaN.kill hR b) rfl;have hrun:=zcT (P:=P) (a:=⟨b',off+o,none⟩) (w:=w.drew) (cs'.drop o) 0 #[] (λj v hj=>by rw[zbP _ rfl];rw[List.getElem?_drop] at hj;have:=hcell (o+j) v hj;simpa [Nat.add_assoc] using this);have hlen2:(cs'.drop o).length=n*i.size:=by rw[<-hlo.1,List.length_drop];omega
               rw[hlen2] at hrun;simpa [Builtin.firstCells,loadCells] using hrun
             ·cases h
            ·cases h
           ·cases h
  ·cases h
 ·cases h
end
section
variable{σ:Sig}{P:Program}{ρ:Rho}{r r':Operand->Value}
theorem zpv{at_:Array TypeId}{ty:TypeId}{args:Array Value}{s s' x x' v:Value}{m m':Mem}{w:World}(hR:Rel σ ρ m w)(hs:zaq σ ρ s s')(hx:zaq σ ρ x x')
  (ha0:args[0]? =some s') (ha1:args[1]? =some x') (h:zos P at_ s x m=some (v,m')):∃w',(Builtin.copy_ at_ ty args).run P w= .ok v w'∧zaq σ ρ v v∧zaN σ ρ m w ρ m' w':=by
 unfold zos at h;split at h
 ·rename_i td hat
  split at h
  ·rename_i e base n c a k ck hu;split at h
   ·rename_i sz hsz;simp only at h;have hsv:∃base' c',s'= .slice base' n c':=by cases hs<;>exact⟨_,_,rfl⟩
    have hxv:∃a' ck',x'= .slice a' k ck':=by cases hx<;>exact⟨_,_,rfl⟩
    obtain⟨a',ck',rfl⟩:=hxv;split at h
    ·rename_i hq;simp only[sI,pI] at h;obtain⟨rfl,rfl⟩:=h;obtain⟨base',c',rfl⟩:=hsv;refine⟨w,?_, .int _ _,zaN.refl hR⟩;have hfc:∀w,(Builtin.firstCells sz 0 (.slice a' k ck')).run P w= .ok #[] w:=λw=>by cases a'<;>simp[Builtin.firstCells,loadCells,loadCellsFrom]
     have hl:∀w,(Builtin.lenOf (.slice a' k ck')).run P w= .ok k w:=λw=>rfl;cases base'<;>simp[Builtin.copy_,hat,ha0,ha1,zag hu,zbF hsz,hl,hq,hfc,storeCells,goInt]
    ·rename_i hq;have hqk:Nat.min k n<=k:=Nat.min_le_left _ _;have hx2:zaq σ ρ (.slice a (Nat.min k n) ck) (.slice a' (Nat.min k n) ck'):=by
      cases hx with
      |nilSlice=>exact absurd (Nat.eq_zero_of_le_zero hqk) hq
      |slice hρ hc hn=>exact .slice hρ hc (by omega)
      |lost=>exact absurd (Nat.eq_zero_of_le_zero hqk) hq
     split at h
     ·rename_i new k2 hsrc;obtain⟨new',hn1,_,hn3,_⟩:=zhL (P:=P) hR hx2 hsrc;have hk2:k2=Nat.min k n:=by
       unfold zdY at hsrc;split at hsrc
       ·rename_i e0;injection e0 with _ e1 _;exact absurd e1 hq
       ·rename_i e0;injection e0 with _ e1 _;subst e1;split at hsrc
        ·simp only[mE,pI] at hsrc;obtain⟨_,_,_,rfl⟩:=hsrc;rfl
        ·cases hsrc
       ·rename_i e0;injection e0 with _ e1 _;exact absurd e1 hq
       ·rename_i e0;cases e0
       ·cases hsrc
      subst hk2;split at h
      ·rename_i b o;obtain⟨b',off,sl,c',hρ,rfl,_,_⟩:=hs.slice_inv;split at h
       ·rename_i cs s2 hm;split at h
        ·rename_i hb;obtain⟨hb1,hb2,hb3⟩:=hb;simp only[sI,pI] at h;obtain⟨rfl,rfl⟩:=h;obtain⟨w',g1,g2⟩:=zdW (P:=P) (o:=o) hR hm hρ hn1 (by omega) hb2;refine⟨w',?_, .int _ _,g2⟩;have hfc:(Builtin.firstCells sz (Nat.min k n) (.slice a' k ck')).run P w= .ok new'.toArray w:=by rw[<-hn3];cases a'<;>rfl
         have hl:∀w,(Builtin.lenOf (.slice a' k ck')).run P w= .ok k w:=λw=>rfl;simp only at g1;simp[Builtin.copy_,hat,ha0,ha1,zag hu,zbF hsz,hl,hfc,g1,goInt]
        ·cases h
       ·cases h
      ·cases h
     ·cases h
   ·cases h
  ·cases h
 ·cases h
theorem zlA{at_:Array TypeId}{ty:TypeId}{args:Array Value}{x x':Value}{m m':Mem}{w:World}(hR:Rel σ ρ m w)(hx:zaq σ ρ x x')(ha:args[0]? =some x')(h:zdF P at_ x m=some m'):
  ∃w',(Builtin.clear_ at_ ty args).run P w= .ok (.tuple #[]) w'∧zaN σ ρ m w ρ m' w':=by
 unfold zdF at h;split at h
 ·rename_i t hat
  split at h
  ·rename_i hu;cases hx;cases h;exact⟨w,by simp[Builtin.clear_,hat,ha,zag hu],zaN.refl hR⟩
  ·rename_i e n c hu;have:∃n' c',x'= .slice none n' c':=by cases hx;exact⟨_,_,rfl⟩
   obtain⟨n',c',rfl⟩:=this;cases h;exact⟨w,by simp[Builtin.clear_,hat,ha,zag hu],zaN.refl hR⟩
  ·rename_i e b o n c hu;obtain⟨b',off,sl,c',hρ,rfl,_,_⟩:=hx.slice_inv;split at h
   ·rename_i hn;subst hn;cases h;exact⟨w,by simp[Builtin.clear_,hat,ha,zag hu],zaN.refl hR⟩
   ·rename_i hn;split at h
    ·rename_i z cs sz hz hm;split at h
     ·rename_i hb;obtain⟨hb1,hb2,hb3,hb4⟩:=hb;cases h;have hzr:=zhK (σ:=σ) (ρ:=ρ) (n:=n*z.cells.size) hb1 rfl hb2;have hlen:(zeN z.cells.toList (n*z.cells.size)).length=n*z.cells.size:=by simp[zeN,Cells.zeros1]
      obtain⟨w',g1,g2⟩:=zdW (P:=P) (o:=o) hR hm hρ hzr (by omega) hb4;refine⟨w',?_,g2⟩;simp only at g1;have hn':∃k,n=k+1:=⟨n-1,by omega⟩;obtain⟨k,rfl⟩:=hn';simp[Builtin.clear_,hat,ha,zag hu,zcO hz,Builtin.zeroCells] at g1⊢;rw[g1];rfl
     ·cases h
    ·cases h
  ·rename_i b hu;split at h
   ·rename_i es hm;cases h;cases hx with
    |map hρ=>rename_i b' off sl;obtain⟨es',clock,h1,_,_⟩:=hR.obj b _ _ hm hρ;refine⟨w.putObj b' (.map #[] clock),?_,zaN.turn hR hm hρ rfl (zas h1) ⟨#[],clock,(zas h1).at_,MapKept.stamped_empty clock,rfl,λi e he=>by simp at he⟩⟩;simp[Builtin.clear_,hat,ha,zag hu,getObj,setObj,Sem.run,h1,World.putObj,Result.andThen]
   ·cases h
  ·cases h
 ·cases h
theorem zdk{f:FuncId}{args:Array Value}{w:World}(h:zab P f=true):(callFunc f args).run P w= .ok (.enter f args) w:=by
 unfold zab at h;cases hf:P.funcs[f]? with
 |none=>rw[hf] at h;simp at h
 |some fn=>
  rw[hf] at h;simp only[bT,bne_iff_ne,ne_eq] at h;obtain⟨h1,h2⟩:=h;cases hb:fn.body with
  |none=>rw[hb] at h1;simp at h1
  |some c=>simp[callFunc,hf,h2,hb]
theorem zpz{t:TypeId}{v:Value}{name:String}{f:FuncId}{n:Nat}{w:World}(h:zaB P t name=some f):(method (n+1) t v name).run P w= .ok (f,v) w:=by
 unfold zaB at h;split at h
 ·rename_i i hi;split at h
  ·rename_i m hm;split at h
   ·rename_i hp;have hpath:m.path.toList=[]:=List.isEmpty_iff.1 hp;split at h
    ·rename_i g e hf hu;simp only[sI] at h;subst h;simp[method,zb0 hi,hm,hpath,follow,hf,receiverAt,zag hu,Place.get]
    ·cases h
    ·rename_i g d hne hf hu;simp only[sI] at h;subst h;simp[method,zb0 hi,hm,hpath,follow,hf,receiverAt,zag hu,Place.get]
    ·cases h
   ·cases h
  ·cases h
 ·cases h
def zsE(σ:Sig)(P:Program)(ρ:Rho)(m:Mem)(w:World)(o':Oper)(r':Operand->Value)(id:Nat)(m':Mem):Req->Prop
 | .val v=>zmU σ P ρ m w o' r' id v m'
 | .call f args=>m'=m∧zab P f=true∧∃args':Array Value,zat σ ρ args args'.toList∧(execOp r' o').run P w= .ok (.enter f args') w
 | .round l args=>m'=m∧∃(l' off sl:Nat) (args':Array Value),ρ l=some (l',off,sl)∧zat σ ρ args args'.toList∧(execOp r' o').run P w=(Instr.yield l' args').run P w
theorem zbX{o':Oper}{c:Call}{b:Builtin}{s:Sem Value}{v:Value}{w w':World}(ho:o'.op= .call c)(hc:c.callee= .builtin b)
  (hb:∀cs,builtin b c.argTypes o'.type cs (c.args.map r')=(do pure (.value (<-s)))) (hs:s.run P w= .ok v w'):(execOp r' o').run P w= .ok (.value v) w':=by
 simp[execOp,ho,resolve,hc,invoke,hb,hs]
theorem zhR{o:SOp}{o':Oper}{q:Req}{m m':Mem}{w:World}{id:Nat}(h1:o'.op=o.op)(hr:∀x∈o.op.operands.toList,zaq σ ρ (r x) (r' x))(hR:Rel σ ρ m w)(hid:ρ id=none)(hlt:id<m.next)
  (h:zeZ P id o r m=some (q,m')):zsE σ P ρ m w o' r' id m' q:=by
 rw[<-h1] at hr;have map_case:∀{t:TypeId} {mp k x:Operand},(o'.op= .mapUpdate t mp k x∨o'.op= .insert t mp k x)->((zfc P t (r mp) (r k) (r x) m).map λm'=>(Req.val undef,m'))=some (q,m')->zsE σ P ρ m w o' r' id m' q:=by
  intro t mp k x ho h;simp only[mE,pI] at h;obtain⟨m2,hm,rfl,rfl⟩:=h;have hmem:zaq σ ρ (r mp) (r' mp)∧zaq σ ρ (r k) (r' k)∧zaq σ ρ (r x) (r' x):=by rcases ho with ho|ho<;>rw[ho] at hr<;>exact⟨hr mp (by simp[Op.operands]),hr k (by simp[Op.operands]),hr x (by simp[Op.operands])⟩
  obtain⟨w',g1,g2⟩:=zki (P:=P) hR hmem.1 hmem.2.1 hmem.2.2 hm;exact⟨.skip,undef,w',ρ,by rcases ho with ho|ho<;>simp[execOp,ho,g1], .inr ⟨rfl,rfl⟩,zaq.undef ρ,g2,λ_ _ _ h=>h⟩
 cases hop:o.op with
 |store t a x=>rw[hop] at h1;simp only[zeZ,hop,mE,pI] at h;obtain⟨m2,hm,rfl,rfl⟩:=h;obtain⟨w',g1,g2⟩:=zlR (P:=P) hR (hr a (by simp[h1,Op.operands])) (hr x (by simp[h1,Op.operands])) hm;exact⟨.skip,undef,w',ρ,by simp[execOp,h1,g1], .inr ⟨rfl,rfl⟩,zaq.undef ρ,g2,λ_ _ _ h=>h⟩
 |mapUpdate t mp k x=>exact map_case (.inl (h1.trans hop)) (by simp only[zeZ,hop] at h;exact h)
 |insert t mp k x=>exact map_case (.inr (h1.trans hop)) (by simp only[zeZ,hop] at h;exact h)
 |next it isS=>
  rw[hop] at h1;simp only[zeZ,hop] at h;split at h
  ·rename_i hS;subst hS;simp only[mE,pI] at h;obtain⟨⟨v,m2⟩,hn,rfl,rfl⟩:=h;have hi:=hr it (by simp[h1,Op.operands]);unfold zrF at hn;split at hn
   ·rename_i b hit;rw[hit] at hi;obtain⟨b',off,sl,hρ,hp⟩:=hi.ptr_inv;split at hn
    ·rename_i s pos hm;obtain⟨g0,g1⟩:=(hR.obj b _ _ hm hρ:zgu σ ρ w (b',off,sl) (.strIter s pos));simp only at g0 g1;subst g1;have hget:(getObj b').run P w= .ok (.stringIter s pos) w:=by simp[getObj,Sem.run,g0]
     have hset:∀o',(setObj b' o').run P w= .ok () (w.putObj b' o'):=λo'=>by simp[setObj,Sem.run,g0,World.putObj]
     split at hn
     ·rename_i hlt2;simp only[sI,pI] at hn;obtain⟨rfl,rfl⟩:=hn;have ht:=zas (o':= .stringIter s (pos+(Utf8.decode s pos).2)) g0;refine⟨_, .tuple #[.bool true, .int .i64 pos, .int .i32 (Utf8.decode s pos).1],_,ρ,?_, .inl rfl,zat.tuple (zat.cons (.bool _) (zat.cons (.int _ _) (zat.cons (.int _ _) (zat.nil ρ)))),zaN.turn hR hm hρ rfl ht ⟨ht.at_,rfl⟩,λ_ _ _ h=>h⟩;simp[execOp,h1,Instr.next,hp,hget,hlt2,hset,goInt]
     ·rename_i hlt2;simp only[sI,pI] at hn;obtain⟨rfl,rfl⟩:=hn;refine⟨_, .tuple #[.bool false],w,ρ,?_, .inl rfl,zat.tuple (zat.cons (.bool _) (zat.nil ρ)),zaN.refl hR,λ_ _ _ h=>h⟩;simp[execOp,h1,Instr.next,hp,hget,hlt2]
    ·cases hn
   ·cases hn
  ·cases h
 |call c=>
  rw[hop] at h1;rw[h1] at hr;simp only[zeZ,hop] at h;have harg:∀(j:Nat) x,c.args[j]? =some x->zaq σ ρ (r x) (r' x)∧(c.args.map r')[j]? =some (r' x):=λj x hx=>by
   have:c.args.toList[j]? =some x:=by simpa using hx
   exact⟨hr x (by simp only[Op.operands,Call.operands,Array.toList_append,List.mem_append];exact .inr (List.mem_of_getElem? this)),by simp[hx]⟩
  split at h
  ·rename_i hc;split at h
   ·rename_i s x hs hx;simp only[mE,pI] at h;obtain⟨⟨v,m2⟩,hm,rfl,rfl⟩:=h;obtain⟨v',w',ρ',g1,g2,g3,g4⟩:=zj9 (P:=P) (ty:=o'.type) hR (harg 0 s hs).1 (harg 1 x hx).1 hid hlt (harg 0 s hs).2 (harg 1 x hx).2 hm;exact⟨_,v',w',ρ',zbX h1 hc (λcs=>rfl) g1, .inl rfl,g2,g3,g4⟩
   ·cases h
  ·rename_i hc;split at h
   ·rename_i s x hs hx;simp only[mE,pI] at h;obtain⟨⟨v,m2⟩,hm,rfl,rfl⟩:=h;obtain⟨w',g1,g2,g3⟩:=zpv (P:=P) (ty:=o'.type) hR (harg 0 s hs).1 (harg 1 x hx).1 (harg 0 s hs).2 (harg 1 x hx).2 hm;exact⟨_,v,w',ρ,zbX h1 hc (λcs=>rfl) g1, .inl rfl,g2,g3,λ_ _ _ h=>h⟩
   ·cases h
  ·rename_i hc;split at h
   ·rename_i x hx;simp only[mE,pI] at h;obtain⟨m2,hm,rfl,rfl⟩:=h;obtain⟨w',g1,g2⟩:=zlA (P:=P) (ty:=o'.type) hR (harg 0 x hx).1 (harg 0 x hx).2 hm;exact⟨_, .tuple #[],w',ρ,zbX h1 hc (λcs=>rfl) g1, .inl rfl,zaq.undef ρ,g2,λ_ _ _ h=>h⟩
   ·cases h
  ·rename_i hc;split at h
   ·rename_i s x hs hx;simp only[mE,pI] at h;obtain⟨m2,hm,rfl,rfl⟩:=h;obtain⟨w',g1,g2⟩:=zkP (P:=P) (ty:=o'.type) hR (harg 0 s hs).1 (harg 1 x hx).1 (harg 0 s hs).2 (harg 1 x hx).2 hm;exact⟨_, .tuple #[],w',ρ,zbX h1 hc (λcs=>rfl) g1, .inl rfl,zaq.undef ρ,g2,λ_ _ _ h=>h⟩
   ·cases h
  ·rename_i f hc;have hf:=hr f (by simp[Op.operands,Call.operands,hc]);have hargs:=ze6 (r:=r) (r':=r') (xs:=c.args) λx hx=>hr x (by simp only[Op.operands,Call.operands,Array.toList_append,List.mem_append];exact .inr hx);split at h
   ·rename_i g fs cp hrf;split at h
    ·rename_i hcall;simp only[sI,pI] at h;obtain⟨rfl,rfl⟩:=h;rw[hrf] at hf;generalize hff:r' f=ff at hf;cases hf with
     |func hy hm k1 k2 k3 k4=>
      rename_i fs' cp';refine⟨rfl,hcall,fs'++c.args.map r'++cp',?_,?_⟩
      ·simp only[Array.toList_append];exact((zcs k1 k2).append hargs).append (zcs k3 k4)
      ·simp[execOp,h1,resolve,hc,hff,Deferred.ofValue,invoke,zdk hcall]
    ·split at h
     ·rename_i v hx;simp only[sI,pI] at h;obtain⟨rfl,rfl⟩:=h;unfold zbS at hx;split at hx
      ·rename_i hpl;split at hx
       ·rename_i u hrun;split at hx
        ·rename_i hpv;simp only[sI] at hx;subst hx;rw[hrf] at hf;generalize hff:r' f=ff at hf;cases hf with
         |func hy hm k1 k2 k3 k4=>
          rename_i fs' cp';have hall:zat σ ρ (fs.toList++(c.args.map r).toList++cp.toList) (fs'++c.args.map r'++cp').toList:=by simp only[Array.toList_append];exact((zcs k1 k2).append hargs).append (zcs k3 k4)
          have heq:fs.toList++(c.args.map r).toList++cp.toList=(fs'++c.args.map r'++cp').toList:=zcc hall.1 λi hi=>zbG (zd6 hpl hi) (hall.2 i hi);rw[heq] at hrun;have hrun2:=zdR _ hrun w;rw[Array.toArray_toList,Array.append_assoc] at hrun2;exact⟨_,u,w,ρ,by simp[execOp,h1,resolve,hc,hff,Deferred.ofValue,invoke,hrun2], .inl rfl,zaF ρ hpv,zaN.refl hR,λ_ _ _ h=>h⟩
        ·cases hx
       ·cases hx
      ·cases hx
     ·cases h
   ·rename_i l fs cp hrf;simp only[sI,pI] at h;obtain⟨rfl,rfl⟩:=h;rw[hrf] at hf;generalize hff:r' f=ff at hf;cases hf with
    |func hy=>exact absurd rfl (hy l)
    |yield hρ=>refine⟨rfl,_,_,_,c.args.map r',hρ,by simpa using hargs,?_⟩;simp[execOp,h1,resolve,hc,hff,Deferred.ofValue,invoke]
   ·cases h
  ·rename_i x name hc;have hx:=hr x (by simp[Op.operands,Call.operands,hc]);have hargs:=ze6 (r:=r) (r':=r') (xs:=c.args) λx hx=>hr x (by simp only[Op.operands,Call.operands,Array.toList_append,List.mem_append];exact .inr hx);split at h
   ·rename_i t v hrx;split at h
    ·rename_i f hm;split at h
     ·rename_i hcall;simp only[sI,pI] at h;obtain⟨rfl,rfl⟩:=h;rw[hrx] at hx;generalize hff:r' x=ff at hx;cases hx with
      |iface _ hv=>
       rename_i v';refine⟨rfl,hcall,#[v']++c.args.map r',?_,?_⟩
       ·simp only[Array.toList_append];exact zat.cons hv hargs
       ·have hmr:∀n,(method (n+1) t v' name).run P w= .ok (f,v') w:=λn=>zpz hm;obtain⟨n,hn⟩:∃n,P.types.size+Made.depth=n+1:=⟨P.types.size+Made.depth-1,by unfold Made.depth;omega⟩;have e0:(#[Value.iface t v']++c.args.map r')[0]? =some (.iface t v'):=by simp[Array.getElem?_append]
        have e1:(c.args.map r').extract 0 c.args.size=c.args.map r':=by simp
        simp[execOp,h1,resolve,hc,hff,invoke,callMethod,e0,e1,hn,hmr,zdk hcall]
     ·cases h
    ·cases h
   ·cases h
  ·cases h
 |_=>simp[zeZ,hop] at h
end
section
variable{σ:Sig}
variable{P:Program}
abbrev Fr(l:Option Nat):Fence:={Fence.wide with round:=l}
def Ret(σ:Sig)(ρ:Rho)(m:Mem)(w:World)(v:Value)(m':Mem)(e:Ending)(w':World):Prop:=
 ∃v' ρ',e= .returned v'∧zaq σ ρ' v v'∧zaN σ ρ m w ρ' m' w'∧Old m.next ρ ρ'
def zc5(σ:Sig)(P:Program)(f:FuncId)(args:List Value)(m:Mem)(v:Value)(m':Mem):Prop:=
 ∀ρ w (args':Array Value),Rel σ ρ m w->zat σ ρ args args'.toList->CallsIn Fence.wide 0 P f args' w (Ret σ ρ m w v m')
def zex(σ:Sig)(P:Program)(l:Nat)(args:List Value)(m:Mem)(v:Value)(m':Mem):Prop:=
 ∀ρ w (args':Array Value) l' off sl,Rel σ ρ m w->ρ l=some (l',off,sl)->zat σ ρ args args'.toList->
  ∃fn tmps asg bd,(Instr.yield l' args').run P w= .ok (.round l' fn tmps asg bd) w∧RoundIn Fence.wide 0 P l' fn tmps asg bd w (Ret σ ρ m w v m')
def zbQ(lo:Nat)(w:World):List Deferred->Prop
 |[]=>True
 |d::ds=>(∃r,d.target= .collected r∧lo<=r∧w.heap[r]? =some (.deferred (some []))∧∀d'∈ds,d'.target≠ .collected r)∧zbQ lo w ds
def zfA(ρ:Rho):Option Nat->Option Nat->Prop
 |none,none=>True
 |some b,some l=>∃off sl,ρ b=some (l,off,sl)
 |_,_=>False
def okX:Exit->Bool
 | .normal| .ret| .exit _| .goto _=>true
 |_=>false
def ze4(σ:Sig)(ρ:Rho)(m:Mem)(w:World)(lo:Nat)(x:Exit)(t:List Value)(m':Mem)(e:Exit)(a:Act)(w':World):Prop:=
 e=x∧okX x=true∧∃ρ',zat σ ρ' t a.tmps.toList∧zbQ lo w' a.defers∧zaN σ ρ m w ρ' m' w'∧Old m.next ρ ρ'
def zhn(σ:Sig)(P:Program)(rd:Option Nat)(c:zan)(t:List Value)(m:Mem)(x:Exit)(t':List Value)(m':Mem):Prop:=
 ∀(k:Code) ρ w (a:Act) l lo,zbw k=some c->Rel σ ρ m w->zat σ ρ t a.tmps.toList->zbQ lo w a.defers->lo<=w.heap.size->zfA ρ rd l->
  k.wpIn (Fr l) 0 P (ze4 σ ρ m w lo x t' m') a w
structure zdh(σ:Sig)(P:Program)(slf:zdv):Prop where
 call:∀f args m v m',slf (.call f args) m=some (.val v,m')->zc5 σ P f args m v m'
 round:∀l args m v m',slf (.round l args) m=some (.val v,m')->zex σ P l args m v m'
 code:∀rd c t m x t' m',slf (.code rd c t) m=some (.exit x t',m')->zhn σ P rd c t m x t' m'
theorem zfA.mono{ρ ρ':Rho}(he:Ext ρ ρ'){rd l:Option Nat}(h:zfA ρ rd l):zfA ρ' rd l:=by
 cases rd<;>cases l<;>first|exact h|skip
 obtain⟨o,s,h⟩:=h;exact⟨o,s,he _ _ h⟩
theorem zgu.not_deferred{ρ:Rho}{w:World}{x:Nat×Nat×Nat}{o:zaS}(h:zgu σ ρ w x o){ds:Option (List Deferred)}:w.heap[x.1]?≠some (.deferred ds):=by
 intro e;cases o with
 |cells cs rw sz=>obtain⟨cs',t,fz,h1,_⟩:=h;rw[h1] at e;cases e
 |map es rw=>obtain⟨es',c,h1,_⟩:=h;rw[h1] at e;cases e
 |strIter s pos=>rw[h.1] at e;cases e
 |loop r=>obtain⟨r',h1,_⟩:=h;rw[h1] at e;cases e
 |frz tag=>obtain⟨C,cs',t,fz,_,h1,_⟩:=h;rw[h1] at e;cases e
theorem zbQ.keep{lo:Nat}{w w':World}:∀{ds:List Deferred},zbQ lo w ds->(∀r:Nat,w.heap[r]? =some (.deferred (some []))->w'.heap[r]? =some (.deferred (some [])))->zbQ lo w' ds
 |[],_,_=>trivial
 |_::_,⟨⟨r,h1,h2,h3,h4⟩,h5⟩,h=>⟨⟨r,h1,h2,h r h3,h4⟩,h5.keep h⟩
theorem zaN.deferred{ρ ρ':Rho}{m m':Mem}{w w':World}(hR:Rel σ ρ m w)(h:zaN σ ρ m w ρ' m' w'){r:Nat}{ds:Option (List Deferred)}(hr:w.heap[r]? =some (.deferred ds)):w'.heap[r]? =some (.deferred ds):=by have hlt:r<w.heap.size:=(Array.getElem?_eq_some_iff.1 hr).1;rw[h.frame r hlt λb o x hb _ hx he=>(hR.obj b o x hb hx).not_deferred (he▸hr)];exact hr
theorem zbQ.post{ρ ρ':Rho}{m m':Mem}{w w':World}{lo:Nat}{ds:List Deferred}(h:zbQ lo w ds)(hR:Rel σ ρ m w)(hp:zaN σ ρ m w ρ' m' w'):zbQ lo w' ds:=
 h.keep λ_ hr=>hp.deferred hR hr
theorem Old.refl(n:Nat)(ρ:Rho):Old n ρ ρ:=λ_ _ h=>h
theorem Old.trans{n n':Nat}{ρ ρ1 ρ2:Rho}(h:Old n ρ ρ1)(k:Old n' ρ1 ρ2)(hle:n<=n'):Old n ρ ρ2:=λb hb e=>k b (by omega) (h b hb e)
theorem Old.but{n i:Nat}{ρ ρ':Rho}(h:Old n ρ ρ'):zeU n i ρ ρ':=λb hb _ e=>h b hb e
theorem zaN.bump{ρ:Rho}{m:Mem}{w:World}(h:Rel σ ρ m w)(n:Nat):zaN σ ρ m w ρ (m.bump n) w:=
 ⟨h.bump n,Ext.refl ρ,by simp,lR' _,rfl,rfl,rfl,λ_ _ _=>rfl,λb o x hb hx _=>⟨b,o,x,hb,hx,rfl,id⟩⟩
theorem zaN.drew{ρ:Rho}{m:Mem}{w:World}(h:Rel σ ρ m w):zaN σ ρ m w ρ m w.drew:=
 ⟨h.drew,Ext.refl ρ,lR' _,lR' _,rfl,rfl,rfl,λ_ _ _=>rfl,λb o x hb hx _=>⟨b,o,x,hb,hx,rfl,id⟩⟩
theorem zkt{ρ:Rho}{m:Mem}{w:World}(hR:Rel σ ρ m w){t:List Value}{a:Act}(ht:zat σ ρ t a.tmps.toList){x:Operand}(hx:zch x=true):zaq σ ρ (ev x t) (a.eval x):=by
 cases x with
 |tmp k=>show zaq σ ρ (t.getD k undef) (a.tmps.getD k undef);rw[zaw];exact ht.at_ k
 |const v=>exact zaF (σ:=σ) ρ hx
 |global g=>have hg:=hR.glob g (by simpa [zch] using hx);have:=zaq.ptr (σ:=σ) (o:=0) hg;simpa [ev,Act.eval] using this
 |func f=>exact .func (λl=>by simp) (λn=>by simp) rfl (λi hi=>absurd hi (by simp)) rfl (λi hi=>absurd hi (by simp))
theorem zne{ρ:Rho}{t:List Value}{a:Act}(ht:zat σ ρ t a.tmps.toList){v v':Value}(hv:zaq σ ρ v v')(d:Option Tmp):zat σ ρ (zdP d v t) (a.put d v').tmps.toList:=by
 cases d with
 |none=>exact ht
 |some k=>show zat σ ρ (t.set k v) (a.tmps.setIfInBounds k v').toList;rw[Array.toList_setIfInBounds];exact ht.set hv k
@[simp] theorem zfT (a:Act) (d:Option Tmp) (v:Value):(a.put d v).defers=a.defers:=by cases d<;>rfl
structure zi4(ops:Array Oper)(o':Oper)(o:SOp):Prop where
 op:o'.op=o.op
 type:o'.type=o.type
 dst:o'.dst=o.dst
 plain:∀x∈o.op.operands.toList,zch x=true
 guard:(o'.guard=none∧o.guard=none)∨(∃j b t,o'.guard=some (j,b)∧o.guard=some (t,b)∧(ops[j]?).bind (·.dst)=some t)
theorem zvd{ops:Array Oper}{o':Oper}{o:SOp}(h:zmm ops o'=some o):zi4 ops o' o:=by
 unfold zmm at h;split at h
 ·rename_i hp;have hp':∀x∈o'.op.operands.toList,zch x=true:=List.all_eq_true.1 hp;split at h
  ·rename_i hg;simp only[sI] at h;subst h;exact⟨rfl,rfl,rfl,hp', .inl ⟨hg,rfl⟩⟩
  ·rename_i j b hg;split at h
   ·rename_i t ht;simp only[sI] at h;subst h;exact⟨rfl,rfl,rfl,hp', .inr ⟨j,b,t,hg,rfl,ht⟩⟩
   ·cases h
 ·cases h
theorem zfg{ops:Array Oper}:∀{l:List Oper} {sl:List SOp},zcR ops l=some sl->sl.length=l.length∧∀(i:Nat) (o:Oper),l[i]? =some o->∃s,sl[i]? =some s∧zi4 ops o s
 |[],sl,h=>by simp only[zcR,sI] at h;subst h;exact⟨rfl,λi o hi=>by simp at hi⟩
 |o::l,sl,h=>by
  simp only[zcR] at h;split at h
  ·rename_i x xs h1 h2;simp only[sI] at h;subst h;obtain⟨g1,g2⟩:=zfg h2;refine⟨by simp[g1],λi o' hi=>?_⟩;cases i with
   |zero=>simp only[List.getElem?_cons_zero,sI] at hi;subst hi;exact⟨x,rfl,zvd h1⟩
   |succ i=>simpa using g2 i o' (by simpa using hi)
  ·cases h
theorem zg6{ρ:Rho}{t:List Value}{a:Act}{ops:Array Oper}{o':Oper}{o:SOp}(hs:zi4 ops o' o)(hok:gOk o.guard t=true)(hg:∀k b,o.guard=some (k,b)->zaq σ ρ (t.getD k undef) (a.tmps.getD k undef)):
  Region.wanted o' (yielded ops a.tmps)=wanted o.guard t:=by
 rcases hs.guard with⟨h1,h2⟩|⟨j,b,k,h1,h2,h3⟩
 ·simp[Region.wanted,h1,h2,wanted]
 ·rw[h2] at hok;simp only[gOk] at hok;simp only[Region.wanted,h1,h2,wanted,yielded,h3,Option.bind_some];have hk:=hg k b h2;rw[Array.getD_eq_getD_getElem?] at hk;generalize hu:t.getD k undef=u at hk hok;cases hc:a.tmps[k]? with
  |none=>rw[hc] at hk;cases hk<;>first|rfl|(cases hok;done)|simp
  |some c=>rw[hc] at hk;cases hk<;>first|(cases hok;done)|(simp[Option.getD] at*;done)|(simp[Option.getD] at*;simp_all)
theorem zpw{ρ:Rho}{t:List Value}{a:Act}(ht:zat σ ρ t a.tmps.toList){ops:Array Oper}{o':Oper}{o:SOp}(hs:zi4 ops o' o)(hok:gOk o.guard t=true):
  Region.wanted o' (yielded ops a.tmps)=wanted o.guard t:=
 zg6 hs hok λk _ _=>by rw[zaw];exact ht.at_ k
theorem zjx{l:Option Nat}{o':Oper}{r':Operand->Value}(h:∀c,o'.op≠ .defer c):o'.semAt (Fr l).round r'=execOp r' o':=Oper.semAt_eq _ _ _ h
def zgT(σ:Sig)(E:Env):Prop:=∀o r v,E.sym o r=some v->∀(o':Oper) (r':Operand->Value) ρ m w,o'.op=o.op->o'.type=o.type->Rel σ ρ m w->(∀x∈o.op.operands.toList,zaq σ ρ (r x) (r' x))->zdq σ E.P ρ o' r' w v
theorem zl1{E:Env}(hE:E.P=P)(hS:zgT σ E){o':Oper}{o:SOp}(h1:o'.op=o.op)(h2:o'.type=o.type)(hc:cls o.op= .pure){r r':Operand->Value}{ρ:Rho}{m:Mem}{w:World}
  (hr:∀x∈o.op.operands.toList,zaq σ ρ (r x) (r' x)) (hR:Rel σ ρ m w) {v:Value} (h:zl5 E o r=some v):zdq σ P ρ o' r' w v:=by
 subst hE;unfold zl5 at h;split at h
 ·rename_i u hu;cases h;exact zol h1 h2 hc hr hu w
 ·exact hS _ _ _ h o' r' ρ m w h1 h2 hR hr
theorem zlN{E:Env}(hE:E.P=P)(hS:zgT σ E){o':Oper}{o:SOp}(h1:o'.op=o.op)(h2:o'.type=o.type){r r':Operand->Value}{ρ:Rho}{m:Mem}{w:World}
  (hr:∀x∈o.op.operands.toList,zaq σ ρ (r x) (r' x)) (hR:Rel σ ρ m w) {v:Value} (h:zck E o r m=some v):zdq σ P ρ o' r' w v:=by
 subst hE;unfold zck at h;split at h
 ·rename_i u hu;cases h;exact zpb h1 hr hR hu
 ·exact hS _ _ _ h o' r' ρ m w h1 h2 hR hr
theorem zjr{E:Env}{self:zdv}{id:Nat}{o:SOp}{t:List Value}{m:Mem}{q:Value×Mem}(h:opA E self id o t m=some q):∀c,o.op≠ .defer c:=by intro c hc;simp[opA,cls,hc,zeZ] at h
theorem zvG{E:Env}{self:zdv}(hE:E.P=P)(hS:zgT σ E)(hs:zdh σ P self){ops:Array Oper}{o':Oper}{o:SOp}(ho:zi4 ops o' o){ρ:Rho}{m m':Mem}{w:World}{a:Act}{t:List Value}{id:Nat}{v:Value}{l:Option Nat}
  (hR:Rel σ ρ m w) (hr:∀x∈o.op.operands.toList,zaq σ ρ (ev x t) (a.eval x)) (hid:ρ id=none) (hlt:id<m.next) (h:opA E self id o t m=some (v,m'))
  {next:Act->World->Prop} {Q:Exit->Act->World->Prop} (hn:∀v' w' ρ',zaq σ ρ' v v'->zaN σ ρ m w ρ' m' w'->zeU m.next id ρ ρ'->next (a.put o'.dst v') w'):o'.wpIn (Fr l) 0 P a w next Q:=by
 have hnd:=zjr h;refine⟨λ_ _=>trivial,?_⟩;rw[zjx (by rw[ho.op];exact hnd)];have fin:zmU σ P ρ m w o' a.eval id v m'->o'.uponIn (Fr l) 0 P a next Q ((execOp a.eval o').run P w):=by
  rintro⟨x,v',w',ρ',g1,g2,g3,g4,g5⟩;rw[g1];rcases g2 with rfl|⟨rfl,rfl⟩
  ·exact hn _ _ _ g3 g4 g5
  ·exact hn _ _ _ g3 g4 g5
 have fin0:m'=m->zdq σ P ρ o' a.eval w v->o'.uponIn (Fr l) 0 P a next Q ((execOp a.eval o').run P w):=by rintro rfl ⟨v',g1,g2⟩;exact fin ⟨_,v',w,ρ,g2, .inl rfl,g1,zaN.refl hR,λ_ _ _ e=>e⟩
 unfold opA at h;split at h
 ·rename_i hc;split at h
  ·rename_i u hu;simp only[sI,pI] at h;obtain⟨rfl,rfl⟩:=h;exact fin0 rfl (zl1 hE hS ho.op ho.type hc hr hR hu)
  ·cases h
 ·split at h
  ·rename_i u hu;simp only[sI,pI] at h;obtain⟨rfl,rfl⟩:=h;exact fin0 rfl (zlN hE hS ho.op ho.type hr hR hu)
  ·cases h
 ·split at h
  ·rename_i ob mk hu;simp only[sI,pI] at h;obtain⟨rfl,rfl⟩:=h;exact fin (zou ho.op hr hR hid hlt (hE▸hu))
  ·cases h
 ·split at h
  ·rename_i u m2 hu;simp only[sI,pI] at h;obtain⟨rfl,rfl⟩:=h;exact fin (zhR (P:=P) (q:= .val _) ho.op hr hR hid hlt (hE▸hu))
  ·rename_i f args m2 hu;obtain⟨rfl,_,args',g2,g3⟩:=zhR (P:=P) ho.op hr hR hid hlt (hE▸hu);split at h
   ·rename_i u m3 hcall;simp only[sI,pI] at h;obtain⟨rfl,rfl⟩:=h;rw[g3];refine⟨λhd=>by simp[Fence.wide] at hd,CallsIn.mono (zdh.call hs _ _ _ _ _ hcall ρ w args' hR g2) ?_⟩;rintro e w' ⟨v',ρ',rfl,k1,k2,k3⟩;exact hn _ _ _ k1 k2 k3.but
   ·cases h
  ·rename_i l0 args m2 hu;obtain⟨rfl,l',off,sl,args',g1,g2,g3⟩:=zhR (P:=P) ho.op hr hR hid hlt (hE▸hu);split at h
   ·rename_i u m3 hcall;simp only[sI,pI] at h;obtain⟨rfl,rfl⟩:=h;obtain⟨fn,tmps,asg,bd,k0,kk⟩:=zdh.round hs _ _ _ _ _ hcall ρ w args' l' off sl hR g1 g2;rw[g3,k0];refine⟨λhd=>by simp[Fence.wide] at hd,RoundIn.mono kk ?_⟩;rintro e w' ⟨v',ρ',rfl,k1,k2,k3⟩;exact hn _ _ _ k1 k2 k3.but
   ·cases h
  ·cases h
theorem zFT{E:Env}{self:zdv}(hE:E.P=P)(hS:zgT σ E)(hs:zdh σ P self){ops:Array Oper}{o':Oper}{o:SOp}(ho:zi4 ops o' o){ρ:Rho}{m m':Mem}{w:World}{a:Act}{t:List Value}{id:Nat}{v:Value}{l:Option Nat}
  (hR:Rel σ ρ m w) (ht:zat σ ρ t a.tmps.toList) (hid:ρ id=none) (hlt:id<m.next) (h:opA E self id o t m=some (v,m'))
  {next:Act->World->Prop} {Q:Exit->Act->World->Prop} (hn:∀v' w' ρ',zaq σ ρ' v v'->zaN σ ρ m w ρ' m' w'->zeU m.next id ρ ρ'->next (a.put o'.dst v') w'):o'.wpIn (Fr l) 0 P a w next Q:=
 zvG hE hS hs ho hR (λx hx=>zkt hR ht (ho.plain x hx)) hid hlt h hn
theorem zqD{E:Env}{self:zdv}(hE:E.P=P)(hS:zgT σ E)(hs:zdh σ P self){ops:Array Oper}{l:Option Nat}{Q:Exit->Act->World->Prop}:∀(sl:List SOp) (i id:Nat),
  (∀j s,sl[j]? =some s->∃o',ops[i+j]? =some o'∧zi4 ops o' s)->∀{ρ:Rho} {m m':Mem} {w:World} {a:Act} {t t':List Value},
  Rel σ ρ m w->zat σ ρ t a.tmps.toList->(∀b,id<=b->b<id+sl.length->ρ b=none)->id+sl.length<=m.next->zea E self id sl t m=some (t',m')->
  (∀a' w' ρ',zat σ ρ' t' a'.tmps.toList->a'.defers=a.defers->zaN σ ρ m w ρ' m' w'->(∀b,b<m.next->(b<id∨id+sl.length<=b)->ρ b=none->ρ' b=none)->Q .normal a' w')->
  wpOpsIn (Fr l) 0 P ops Q (List.range' i sl.length) a w
 |[],i,id,hops,ρ,m,m',w,a,t,t',hR,ht,hfree,hnext,h,hQ=>by simp only[zea,sI,pI] at h;obtain⟨rfl,rfl⟩:=h;exact hQ a w ρ ht rfl (zaN.refl hR) λ_ _ _ e=>e
 |s::sl,i,id,hops,ρ,m,m',w,a,t,t',hR,ht,hfree,hnext,h,hQ=>by
  simp only[List.length_cons] at hnext hfree hQ;obtain⟨o',ho,hst⟩:=hops 0 s rfl;simp only[Nat.add_zero] at ho;have hops':∀j s',sl[j]? =some s'->∃o',ops[i+1+j]? =some o'∧zi4 ops o' s':=λj s' hj=>by have:=hops (j+1) s' (by simpa using hj);rwa[show i+1+j=i+(j+1) from by omega]
  simp only[zea] at h;simp only[List.length_cons,List.range'_succ];simp only[wpOpsIn,ho];unfold zbz at h;by_cases hgk:gOk s.guard t=false
  ·simp only[hgk,if_true] at h;cases h
  rw[if_neg hgk] at h;rw[zpw ht hst (by simpa using hgk)];by_cases hw:wanted s.guard t=true
  ·simp only[hw,if_true] at h⊢;split at h
   ·rename_i t1 m1 h1;split at h1
    ·rename_i v1 m2 h2;simp only[sI,pI] at h1;obtain⟨rfl,rfl⟩:=h1;refine zFT hE hS hs hst hR ht (hfree id (lR' _) (by omega)) (by omega) h2 λv' w' ρ' g1 g2 g3=>?_;have hnn:=g2.next;refine zqD hE hS hs sl (i+1) (id+1) hops' g2.rel (hst.dst▸zne (ht.mono g2.ext) g1 o'.dst) (λb h3 h4=>g3 b (by omega) (by omega) (hfree b (by omega) (by omega))) (by omega) h
      λa' w'' ρ'' k1 k2 k3 k4=>?_
     refine hQ a' w'' ρ'' k1 (k2.trans (zfT _ _ _)) (g2.trans k3) λb h3 h4 h5=>?_;exact k4 b (by omega) (by omega) (g3 b h3 (by omega) h5)
    ·cases h1
   ·cases h
  ·have hw':wanted s.guard t=false:=by simpa using hw
   simp only[hw',if_false,bF] at h⊢;refine⟨λ_ _=>trivial,?_⟩;refine zqD hE hS hs sl (i+1) (id+1) hops' hR (hst.dst▸zne ht (zaq.undef ρ) o'.dst) (λb h3 h4=>hfree b (by omega) (by omega)) (by omega) h
      λa' w'' ρ'' k1 k2 k3 k4=>?_
   exact hQ a' w'' ρ'' k1 (k2.trans (zfT _ _ _)) k3 λb h3 h4 h5=>k4 b h3 (by omega) h5
theorem zv9{E:Env}{self:zdv}(hE:E.P=P)(hS:zgT σ E)(hs:zdh σ P self){ops:Array Oper}{n:Nat}{sl:List SOp}(hst:zcR ops ops.toList=some sl){rd:Option Nat}{l:Option Nat}{lo:Nat}{ρ:Rho}{m m':Mem}{w:World}{a:Act}{t t':List Value}
  (hR:Rel σ ρ m w) (ht:zat σ ρ t a.tmps.toList) (hm:zbQ lo w a.defers) (h:zao E self rd (.reg sl) t m=some (.exit .normal t',m')):
  (Code.region n ops false).wpIn (Fr l) 0 P (ze4 σ ρ m w lo .normal t' m') a w:=by
 apply wpIn_region;obtain⟨h1,h2⟩:=zfg hst;simp only[zao] at h;split at h
 ·rename_i t1 m1 hseq;simp only[sI,pI,Out.exit.injEq,true_and] at h;obtain⟨rfl,rfl⟩:=h;have hlen:ops.size=sl.length:=by simpa using h1.symm
  rw[hlen,List.range_eq_range'];refine zqD hE hS hs sl 0 m.next (λj s hj=>?_) (hR.bump sl.length) ht (λb hb _=>hR.dom b hb) (lR' _) hseq λa' w' ρ' g1 g2 g3 g4=>?_
  ·have hj':j<ops.toList.length:=by have:=(List.getElem?_eq_some_iff.1 hj).1;omega
   obtain⟨s',k1,k2⟩:=h2 j _ (gE' hj');rw[hj] at k1;cases k1;exact⟨_,by rw[Nat.zero_add,<-Array.getElem?_toList];exact gE' hj',k2⟩
  ·exact⟨rfl,rfl,ρ',g1,g2▸hm.post hR ((zaN.bump hR _).trans g3),(zaN.bump hR _).trans g3,λb hb e=>g4 b (by simp;omega) (.inl hb) e⟩
 ·cases h
end
section
variable{σ:Sig}
theorem zkm{pr:List (List Nat)}:∀{l seen:List Nat},zEk pr seen l=true->∀(k i:Nat),l[k]? =some i->∀p∈pr.getD i [],p∈seen∨∃k':Nat,k'<k∧l[k']? =some p
 |[],_,_,k,i,hk,_,_=>by simp at hk
 |x::l,seen,h,k,i,hk,p,hp=>by
  simp only[zEk,bT,List.all_eq_true] at h;cases k with
  |zero=>simp only[List.getElem?_cons_zero,sI] at hk;subst hk;exact .inl (by simpa using h.1 p hp)
  |succ k=>
   rcases zkm h.2 k i (by simpa using hk) p hp with h1|⟨k',h1,h2⟩
   ·rcases List.mem_cons.1 h1 with rfl|h1
    ·exact .inr ⟨0,by omega,rfl⟩
    ·exact .inl h1
   ·exact .inr ⟨k'+1,by omega,by simpa using h2⟩
theorem zkY{an:List Nat}{ops:List SOp}:∀{l seen:List Nat},zD2 an ops seen l=true->∀(k i:Nat),l[k]? =some i->zeP ops i=true->
  (∀c∈seen,(an.getD i 0).testBit c=true)∧∀(k' c:Nat),k'<k->l[k']? =some c->(an.getD i 0).testBit c=true
 |[],_,_,k,i,hk,_=>by simp at hk
 |x::l,seen,h,k,i,hk,he=>by
  simp only[zD2,bT] at h;cases k with
  |zero=>simp only[List.getElem?_cons_zero,sI] at hk;subst hk;have h1:=h.1;rw[he] at h1;simp only[Bool.not_true,Bool.false_or,List.all_eq_true] at h1;exact⟨h1,λk' c hk'=>by omega⟩
  |succ k=>
   obtain⟨h1,h2⟩:=zkY h.2 k i (by simpa using hk) he;refine⟨λc hc=>h1 c (by simp[hc]),λk' c hk' hc=>?_⟩;cases k' with
   |zero=>simp only[List.getElem?_cons_zero,sI] at hc;subst hc;exact h1 _ (by simp)
   |succ k'=>exact h2 k' c (by omega) (by simpa using hc)
theorem ziB{an:List Nat}{ops:List SOp}:∀{l:List (Nat×List Nat)} {seen:List Nat},zua an ops seen l=true->∀(k i:Nat) (re:List Nat),l[k]? =some (i,re)->zi3 ops i= .read->
  (∀e∈seen,zeP ops e=true->(an.getD i 0).testBit e=true∨e∈re)∧∀(k' e:Nat) (re':List Nat),k'<k->l[k']? =some (e,re')->zeP ops e=true->(an.getD i 0).testBit e=true∨e∈re
 |[],_,_,k,i,re,hk,_=>by simp at hk
 |(x,rx)::l,seen,h,k,i,re,hk,he=>by
  simp only[zua,bT] at h;cases k with
  |zero=>
   simp only[List.getElem?_cons_zero,sI,pI] at hk;obtain⟨rfl,rfl⟩:=hk;have h1:=h.1;rw[he] at h1;simp only[bne_self_eq_false,Bool.false_or,List.all_eq_true,Bool.or_eq_true,Bool.not_eq_true'] at h1;refine⟨λe hs hE=>?_,λk' c _ hk'=>by omega⟩;rcases h1 e hs with(h2|h2)|h2
   ·rw[hE] at h2;cases h2
   ·exact .inl h2
   ·exact .inr (by simpa using h2)
  |succ k=>
   obtain⟨h1,h2⟩:=ziB h.2 k i re (by simpa using hk) he;refine⟨λc hc=>h1 c (by simp[hc]),λk' c rc hk' hc=>?_⟩;cases k' with
   |zero=>simp only[List.getElem?_cons_zero,sI,pI] at hc;obtain⟨rfl,_⟩:=hc;exact h1 _ (by simp)
   |succ k'=>exact h2 k' c rc (by omega) (by simpa using hc)
theorem zgX:∀{l:List Nat},zm5 l=true->∀(k k' i:Nat),l[k]? =some i->l[k']? =some i->k=k'
 |[],_,k,k',i,hk,_=>by simp at hk
 |x::l,h,k,k',i,hk,hk'=>by
  simp only[zm5,bT,Bool.not_eq_true'] at h;have hx:∀j:Nat,l[j]? =some x->False:=λj hj=>by
   have:l.contains x=true:=by simpa using List.mem_of_getElem? hj
   rw[this] at h;exact absurd h.1 (by simp)
  cases k with
  |zero=>cases k' with
   |zero=>rfl
   |succ k'=>simp only[List.getElem?_cons_zero,sI] at hk;subst hk;exact(hx k' (by simpa using hk')).elim
  |succ k=>cases k' with
   |zero=>simp only[List.getElem?_cons_zero,sI] at hk';subst hk';exact(hx k (by simpa using hk)).elim
   |succ k'=>rw[zgX h.2 k k' i (by simpa using hk) (by simpa using hk')]
theorem zhA{ops0:List SOp}:∀{l:List SOp},zD9 ops0 l=true->∀(j j':Nat) (o o':SOp) (d:Tmp),j<j'->l[j]? =some o->l[j']? =some o'->o.dst=some d->o'.dst=some d->False
 |[],_,j,_,_,_,_,_,hj,_,_,_=>by simp at hj
 |x::l,h,j,j',o,o',d,hlt,hj,hj',ho,ho'=>by
  simp only[zD9,bT] at h;cases j' with
  |zero=>omega
  |succ j'=>
   have hj2:l[j']? =some o':=by simpa using hj'
   cases j with
   |zero=>simp only[List.getElem?_cons_zero,sI] at hj;subst hj;have h1:=h.1;rw[ho] at h1;simp only[Bool.not_eq_true',List.any_eq_false] at h1;exact h1 o' (List.mem_of_getElem? hj2) (by simp[ho'])
   |succ j=>exact zhA h.2 j j' o o' d (by omega) (by simpa using hj) hj2 ho ho'
theorem zkH{acc:List Nat}:∀{ps:List Nat} {j:Nat},(zkU acc ps).testBit j=true->∃p∈ps,j=p∨(acc.getD p 0).testBit j=true
 |[],j,h=>by simp[zkU] at h
 |p::ps,j,h=>by
  simp only[zkU,Nat.testBit_or,Bool.or_eq_true,Nat.testBit_two_pow,decide_eq_true_eq] at h;rcases h with(h|h)|h
  ·exact⟨p,by simp, .inl h.symm⟩
  ·exact⟨p,by simp, .inr h⟩
  ·obtain⟨q,h1,h2⟩:=zkH h;exact⟨q,by simp[h1],h2⟩
theorem zka:∀(l:List Oper) (acc:List Nat),(∀i:Nat,i<acc.length->(zjA acc l)[i]? =acc[i]?)∧
  ∀(i:Nat) (o:Oper),l[i]? =some o->(zjA acc l)[acc.length+i]? =some (zkU ((zjA acc l).take (acc.length+i)) (zeo o))
 |[],acc=>⟨λ_ _=>rfl,λi o h=>by simp at h⟩
 |x::l,acc=>by
  obtain⟨h1,h2⟩:=zka l (acc++ [zkU acc (zeo x)]);simp only[zjA];refine⟨λi hi=>?_,λi o hi=>?_⟩
  ·rw[h1 i (by simp;omega),aB' hi]
  ·cases i with
   |zero=>
    simp only[List.getElem?_cons_zero,sI] at hi;subst hi;rw[Nat.add_zero,h1 _ (by simp)];have:(zjA (acc++ [zkU acc (zeo x)]) l).take acc.length=acc:=by
     apply List.ext_getElem?;intro j;rw[List.getElem?_take];split
     ·rename_i hj;rw[h1 j (by simp;omega),aB' hj]
     ·rename_i hj;rw[List.getElem?_eq_none (by omega)]
    rw[this];simp
   |succ i=>have:=h2 i o (by simpa using hi);simp only[aL,List.length_singleton] at this;rw[show acc.length+(i+1)=acc.length+1+i from by omega];exact this
theorem zgY:∀(l:List Oper) (acc:List Nat),(zjA acc l).length=acc.length+l.length
 |[],acc=>rfl
 |x::l,acc=>by simp[zjA,zgY l];omega
theorem zyd{l:List Oper}{i j:Nat}(h:((zjA [] l).getD i 0).testBit j=true):∃p∈(l.map zeo).getD i [],j=p∨(p<i∧((zjA [] l).getD p 0).testBit j=true):=by
 have hlen:(zjA [] l).length=l.length:=by simp[zgY]
 by_cases hi:i<l.length
 ·have h2:=(zka l []).2 i _ (gE' hi);simp only[List.length_nil,Nat.zero_add] at h2;rw[gD',h2] at h;obtain⟨p,h3,h4⟩:=zkH h;refine⟨p,by simpa [gD',hi] using h3,h4.imp id λh5=>?_⟩;rw[gD',List.getElem?_take] at h5;split at h5
  ·rename_i hp;exact⟨hp,by rw[gD'];exact h5⟩
  ·simp at h5
 ·rw[gD',List.getElem?_eq_none (by omega)] at h;simp at h
def zky(l:List Oper)(S:Nat->Prop):Prop:=∀i,S i->∀p∈(l.map zeo).getD i [],S p
theorem zcW{l:List Oper}{S:Nat->Prop}(hS:zky l S):∀(i j:Nat),(∀p∈(l.map zeo).getD i [],S p)->((zjA [] l).getD i 0).testBit j=true->S j:=by
 intro i
 induction i using Nat.strongRecOn with
 |_ i ih=>
  intro j hp h;obtain⟨p,h1,h2⟩:=zyd h;rcases h2 with rfl|⟨h2,h3⟩
  ·exact hp _ h1
  ·exact ih p h2 j (hS p (hp p h1)) h3
structure Chk(ops:List Oper)(sl:List SOp)(ord:List (Nat×List Nat)):Prop where
 len:sl.length=ops.length
 olen:ord.length=ops.length
 lt:∀(k i:Nat) re,ord[k]? =some (i,re)->i<ops.length
 all:∀i,i<ops.length->∃(k:Nat) (re:List Nat),ord[k]? =some (i,re)
 uniq:∀(k k' i:Nat) re re',ord[k]? =some (i,re)->ord[k']? =some (i,re')->k=k'
 lin:∀(k i:Nat) re,ord[k]? =some (i,re)->∀p∈(ops.map zeo).getD i [],∃(k':Nat) (re':List Nat),k'<k∧ord[k']? =some (p,re')
 eff:∀(k i:Nat) re (k' c:Nat) re',ord[k]? =some (i,re)->zeP sl i=true->k'<k->ord[k']? =some (c,re')->((zjA [] ops).getD i 0).testBit c=true
 read:∀(k i:Nat) re (k' e:Nat) re',ord[k]? =some (i,re)->zi3 sl i= .read->k'<k->ord[k']? =some (e,re')->zeP sl e=true->((zjA [] ops).getD i 0).testBit e=true∨e∈re
 ssa:∀(j j':Nat) (o o':SOp) (d:Tmp),sl[j]? =some o->sl[j']? =some o'->o.dst=some d->o'.dst=some d->j=j'
 tmp:∀(i:Nat) (o:SOp),sl[i]? =some o->∀t∈looks o,∀(j:Nat) (o':SOp),sl[j]? =some o'->o'.dst=some t->i=j∨((zjA [] ops).getD i 0).testBit j=true∨((zjA [] ops).getD j 0).testBit i=true
 pred_lt:∀(i p:Nat),p∈(ops.map zeo).getD i []->p<i
theorem zih{ord:List (Nat×List Nat)}{k i:Nat}{re:List Nat}(h:ord[k]? =some (i,re)):(ord.map (·.1))[k]? =some i:=by simp[h]
theorem zv0{ord:List (Nat×List Nat)}{k i:Nat}(h:(ord.map (·.1))[k]? =some i):∃re,ord[k]? =some (i,re):=by rw[gM',mE] at h;obtain⟨⟨x,re⟩,h1,rfl⟩:=h;exact⟨re,h1⟩
theorem zAn{ops:Array Oper}{sl:List SOp}{ord:List (Nat×List Nat)}(h:zg3 ops sl=some ord):Chk ops.toList sl ord:=by
 unfold zg3 at h;simp only at h;split at h
 ·rename_i hc;simp only[sI] at h;subst h;generalize zqt (zjA [] ops.toList) sl [] (zBL (zjA [] ops.toList) sl ops.size)=ord at hc;unfold zH0 at hc;simp only[bT] at hc;obtain⟨⟨⟨⟨⟨⟨⟨⟨⟨⟨⟨h1,h2⟩,h3⟩,h4⟩,h5⟩,h6⟩,h7⟩,h8⟩,h9⟩,h10⟩,h11⟩,h12⟩:=hc;have e1:sl.length=ops.toList.length:=by simpa using h1
  have e3:ord.length=ops.toList.length:=by simpa using h3
  have hn:ops.size=ops.toList.length:=by simp
  refine⟨e1,e3,λk i re hk=>?_,λi hi=>?_,λk k' i re re' hk hk'=>zgX h4 k k' i (zih hk) (zih hk'),λk i re hk p hp=>?_,
   λk i re k' c re' hk he hlt hk'=>(zkY h8 k i (zih hk) he).2 k' c hlt (zih hk'),λk i re k' e re' hk hr hlt hk' he=>(ziB h9 k i re hk hr).2 k' e re' hlt hk' he,
   λj j' o o' d hj hj' ho ho'=>?_,λi o hi t ht j o' hj hd=>?_,λi p hp=>?_⟩
  ·have:=List.all_eq_true.1 h5 i (List.mem_of_getElem? (zih hk));simpa using this
  ·have:=List.all_eq_true.1 h6 i (by simpa using hi);obtain⟨k,hk⟩:=List.mem_iff_getElem?.1 (by simpa using this:i∈ord.map (·.1));obtain⟨re,h⟩:=zv0 hk;exact⟨k,re,h⟩
  ·rcases zkm h7 k i (zih hk) p hp with h|⟨k',h,h'⟩
   ·cases h
   ·obtain⟨re',h''⟩:=zv0 h';exact⟨k',re',h,h''⟩
  ·rcases Nat.lt_trichotomy j j' with h|h|h
   ·exact(zhA h10 j j' o o' d h hj hj' ho ho').elim
   ·exact h
   ·exact(zhA h10 j' j o' o d h hj' hj ho' ho).elim
  ·have hil:i<ops.size:=by have:=(List.getElem?_eq_some_iff.1 hi).1;omega
   have hjl:j<ops.size:=by have:=(List.getElem?_eq_some_iff.1 hj).1;omega
   have:=List.all_eq_true.1 h11 i (by simpa using hil);rw[hi] at this;have:=List.all_eq_true.1 this t ht;have:=List.all_eq_true.1 this j (by simpa using hjl);have hw:zrA sl j t=true:=by simp[zrA,hj,hd]
   rw[hw] at this;simp only[Bool.not_true,Bool.false_or,Bool.or_eq_true,beq_iff_eq] at this;rcases this with(h|h)|h
   ·exact .inl h
   ·exact .inr (.inl h)
   ·exact .inr (.inr h)
  ·by_cases hi:i<ops.size
   ·have:=List.all_eq_true.1 h12 i (by simpa using hi);have:=List.all_eq_true.1 this p hp;simpa using this
   ·rw[gD',List.getElem?_eq_none (by simp;omega)] at hp;cases hp
 ·cases h
end
end Go.Ab
