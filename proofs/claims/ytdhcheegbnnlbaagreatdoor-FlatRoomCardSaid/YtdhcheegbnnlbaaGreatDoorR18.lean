/- Part. -/
import Derived.Test.YtdhcheegbnnlbaaGreatDoorR17
set_option linter.all false
open List renaming getD_eq_getElem?_getD → gD', getElem?_eq_getElem → gE', length_append → aL, append_assoc → aA, getElem?_append_left → aB', getElem?_append_right → aC', mem_append_right → aD', getElem?_map → gM', length_map → lM, length_set → sL
open Nat renaming lt_of_lt_of_le → lL, le_refl → lR', le_trans → lT
open Bool renaming and_eq_true → bT
namespace Go.Ab
open Go.Proofs
noncomputable section
set_option maxRecDepth 10000
section
variable{α β:Type}
theorem zlg{f f':Nat->List α}{i:Nat}{g:α}:∀{n:Nat},i<n->(∀j,j≠i->f' j=f j)->(f' i).Perm (g::f i)->((List.range n).flatMap f').Perm (g::(List.range n).flatMap f)
 |n+1,hi,ho,hp=>by
  rw[List.range_succ,List.flatMap_append,List.flatMap_append];have e1:∀h:Nat->List α,[n].flatMap h=h n:=λh=>by simp
  rw[e1,e1];by_cases e:i=n
  ·subst e;have h2:(List.range i).flatMap f'=(List.range i).flatMap f:=by rw[List.flatMap_def,List.flatMap_def];congr 1;exact List.map_congr_left λj hj=>ho j (by have:=List.mem_range.1 hj;omega)
   rw[h2];exact(List.Perm.append_left _ hp).trans List.perm_middle
  ·rw[ho n (λh=>e h.symm)];exact(List.Perm.append_right _ (zlg (n:=n) (by omega) ho hp))
theorem zdm{f f':Nat->List α}{n:Nat}(h:∀j,j<n->f' j=f j):(List.range n).flatMap f'=(List.range n).flatMap f:=by rw[List.flatMap_def,List.flatMap_def];congr 1;exact List.map_congr_left λj hj=>h j (List.mem_range.1 hj)
theorem zwn{l:List (Option Nat)}{k g:Nat}(hk:k<l.length)(h:l.getD k none=none):((l.set k (some g)).filterMap id).Perm (g::l.filterMap id):=by
 induction l generalizing k with
 |nil=>cases hk
 |cons a l ih=>
  cases k with
  |zero=>have:a=none:=h;subst this;exact List.Perm.refl _
  |succ k=>
   have:=ih (k:=k) (by simpa using hk) h;cases a with
   |none=>exact this
   |some b=>exact(List.Perm.cons b this).trans (List.Perm.swap g b _)
theorem zv7{l:List (Option Nat)}{k g:Nat}(h:l.getD k none=some g):(l.filterMap id).Perm (g::(l.set k none).filterMap id):=by
 induction l generalizing k with
 |nil=>cases h
 |cons a l ih=>
  cases k with
  |zero=>have:a=some g:=h;subst this;exact List.Perm.refl _
  |succ k=>
   have:=ih (k:=k) h;cases a with
   |none=>exact this
   |some b=>exact(List.Perm.cons b this).trans (List.Perm.swap g b _)
theorem cpc{p:α->Bool}{a:α}{l:List α}:(a::l).countP p=l.countP p+(p a).toNat:=by rw[List.countP_cons];cases p a<;>rfl
theorem bt{p:Prop} [Decidable p](h:p):(decide p).toNat=1:=by rw[decide_eq_true h];rfl
theorem bf{p:Prop} [Decidable p](h:¬p):(decide p).toNat=0:=by rw[decide_eq_false h];rfl
theorem zht{p:α->Bool}{l:List α}{i:Nat}{x d:α}(hi:i<l.length):(l.set i x).countP p+(p (l.getD i d)).toNat=l.countP p+(p x).toNat:=by
 induction l generalizing i with
 |nil=>cases hi
 |cons a l ih=>
  cases i with
  |zero=>show(x::l).countP p+(p a).toNat=_;rw[cpc,cpc];omega
  |succ i=>have:=ih (i:=i) (by simpa using hi);show(a::l.set i x).countP p+(p (l.getD i d)).toNat=_;rw[cpc,cpc];omega
theorem zi2{p:α->Bool}{l:List α}{i:Nat}{x d:α}(hi:i<l.length)(h:p x=p (l.getD i d)):(l.set i x).countP p=l.countP p:=by have:=zht (p:=p) (x:=x) (d:=d) hi;rw[h] at this;omega
end
structure PgI(S GC:List Nat)(CR:List Int)(n:Int):Prop where
 nd:S.Nodup
 lt:∀g∈S,g<GC.length
 gc:∀g,g<GC.length->GC.getD g 0<CR.length
 rf:∀c,c<CR.length->CR.getD c 0=((S.countP λg=>decide (GC.getD g 0=c):Nat):Int)
 ct:n=((CR.countP λr=>decide (0<r):Nat):Int)
section
variable{S S' GC:List Nat}{CR:List Int}{n:Int}{g c:Nat}
theorem PgI.perm(h:PgI S GC CR n)(p:S.Perm S'):PgI S' GC CR n:=
 ⟨p.nodup_iff.1 h.nd,λg hg=>h.lt g (p.mem_iff.2 hg),h.gc,λc hc=>by rw[h.rf c hc,p.countP_eq],h.ct⟩
theorem zgW{l:List Int}{c:Nat}{x:Int}(hc:c<l.length):(l.set c x).getD c 0=x:=by rw[gD',List.getElem?_set_self hc];rfl
theorem zbJ{α:Type}{l:List α}{c j:Nat}{x d:α}(h:c≠j):(l.set c x).getD j d=l.getD j d:=by rw[gD',List.getElem?_set_ne h,gD']
theorem PgI.pos(h:PgI S GC CR n)(hg:g∈S):1<=CR.getD (GC.getD g 0) 0:=by rw[h.rf _ (h.gc g (h.lt g hg))];have:0<S.countP λx=>decide (GC.getD x 0=GC.getD g 0):=List.countP_pos_iff.2 ⟨g,hg,by simp⟩;omega
theorem PgI.del(h:PgI (g::S) GC CR n):PgI S GC (CR.set (GC.getD g 0) (CR.getD (GC.getD g 0) 0-1)) (if CR.getD (GC.getD g 0) 0-1=0 then n-1 else n):=by
 have hc:=h.gc g (h.lt g (.head _));have hp:=h.pos (g:=g) (.head _);refine⟨(List.nodup_cons.1 h.nd).2,λx hx=>h.lt x (.tail _ hx),λx hx=>by rw[sL];exact h.gc x hx,λc hc'=>?_,?_⟩
 ·rw[sL] at hc';have h1:=h.rf c hc';rw[cpc] at h1;by_cases e:GC.getD g 0=c
  ·rw[bt e] at h1;subst e;rw[zgW hc];omega
  ·rw[bf e] at h1;rw[zbJ e,h1];rfl
 ·have h1:=zht (p:=λr:Int=>decide (0<r)) (x:=CR.getD (GC.getD g 0) 0-1) (d:=0) hc;rw[h.ct];simp only[bt (show 0<CR.getD (GC.getD g 0) 0 by omega)] at h1;by_cases e:CR.getD (GC.getD g 0) 0-1=0
  ·simp only[bf (show¬0<CR.getD (GC.getD g 0) 0-1 by omega)] at h1;rw[if_pos e];omega
  ·simp only[bt (show 0<CR.getD (GC.getD g 0) 0-1 by omega)] at h1;rw[if_neg e];omega
theorem zba{α:Type}{l k:List α}{i:Nat}{d:α}(h:i<l.length):(l++k).getD i d=l.getD i d:=by rw[gD',aB' h,gD']
theorem zbk{α:Type}{l:List α}{x d:α}:(l++ [x]).getD l.length d=x:=by rw[gD',aC' (lR' _),Nat.sub_self];rfl
theorem PgI.cnt_new(h:PgI S GC CR n):(S.countP λx=>decide (GC.getD x 0=CR.length))=0:=
 List.countP_eq_zero.2 λx hx e=>by have:=h.gc x (h.lt x hx);have:=of_decide_eq_true e;omega
theorem zjC{α:Type}{p q:α->Bool}{l:List α}(h:∀x∈l,p x=q x):l.countP p=l.countP q:=List.countP_congr λx hx=>by rw[h x hx]
theorem PgI.add(h:PgI S GC CR n):PgI (GC.length::S) (GC++ [CR.length]) (CR++ [1]) (n+1):=by
 have hS:∀x∈S,(GC++ [CR.length]).getD x 0=GC.getD x 0:=λx hx=>zba (h.lt x hx);refine⟨List.nodup_cons.2 ⟨λe=>by have:=h.lt _ e;omega,h.nd⟩,λx hx=>?_,λx hx=>?_,λc hc=>?_,?_⟩
 ·rw[aL,List.length_singleton];rcases List.mem_cons.1 hx with rfl|hx
  ·omega
  ·have:=h.lt x hx;omega
 ·rw[aL,List.length_singleton] at hx⊢;by_cases e:x<GC.length
  ·rw[zba e];have:=h.gc x e;omega
  ·obtain rfl:x=GC.length:=by omega
   rw[zbk];omega
 ·rw[aL,List.length_singleton] at hc;rw[cpc,zbk,zjC (q:=λg=>decide (GC.getD g 0=c)) (λx hx=>by rw[hS x hx])];by_cases e:c<CR.length
  ·rw[zba e,h.rf c e,bf (show¬CR.length=c by omega)];rfl
  ·obtain rfl:c=CR.length:=by omega
   rw[zbk,h.cnt_new,bt rfl];rfl
 ·rw[List.countP_append,h.ct];rfl
theorem ztp{α:Type} [DecidableEq α]{l:List α}{a:α}(h:a∈l):l.Perm (a::l.erase a):=List.perm_cons_erase h
theorem PgI.split(h:PgI S GC CR n)(hg:g∈S)(h1:1<CR.getD (GC.getD g 0) 0):PgI S (GC.set g CR.length) (CR.set (GC.getD g 0) (CR.getD (GC.getD g 0) 0-1)++ [1]) (n+1):=by
 have hgl:=h.lt g hg;have hc:=h.gc g hgl;have hp:=ztp hg;have hh:=h.perm hp;have hn:=(List.nodup_cons.1 hh.nd).1;have hS:∀x∈S.erase g,(GC.set g CR.length).getD x 0=GC.getD x 0:=λx hx=>zbJ λe=>hn (e▸hx);have hd:=hh.del;rw[if_neg (by omega)] at hd;refine PgI.perm (S:=g::S.erase g) ⟨hh.nd,λx hx=>by rw[sL];exact hh.lt x hx,λx hx=>?_,λc hc=>?_,?_⟩ hp.symm
 ·rw[sL] at hx;rw[aL,sL,List.length_singleton];by_cases e:g=x
  ·subst e;rw[gD',List.getElem?_set_self hx];show CR.length<_;omega
  ·rw[zbJ e];have:=h.gc x hx;omega
 ·rw[aL,sL,List.length_singleton] at hc;have e0:(GC.set g CR.length).getD g 0=CR.length:=by rw[gD',List.getElem?_set_self hgl];rfl
  rw[cpc,e0,zjC (q:=λg=>decide (GC.getD g 0=c)) (λx hx=>by rw[hS x hx])];by_cases e:c<CR.length
  ·rw[zba (by rw[sL];exact e),hd.rf c (by rw[sL];exact e),bf (show¬CR.length=c by omega)];rfl
  ·obtain rfl:c=CR.length:=by omega
   have h2:=h.cnt_new;rw[hp.countP_eq,cpc] at h2;have e3:(CR.set (GC.getD g 0) (CR.getD (GC.getD g 0) 0-1)++ [1]).getD CR.length 0=1:=by have:=zbk (l:=CR.set (GC.getD g 0) (CR.getD (GC.getD g 0) 0-1)) (x:=(1:Int)) (d:=0);rwa[sL] at this
   rw[e3,bt rfl];omega
 ·rw[List.countP_append,hd.ct];rfl
theorem PgI.clone(h:PgI S GC CR n)(hg:g∈S):PgI (GC.length::S) (GC++ [GC.getD g 0]) (CR.set (GC.getD g 0) (CR.getD (GC.getD g 0) 0+1)) n:=by
 have hgl:=h.lt g hg;have hc:=h.gc g hgl;have hp:=h.pos hg;have hS:∀x∈S,(GC++ [GC.getD g 0]).getD x 0=GC.getD x 0:=λx hx=>zba (h.lt x hx);refine⟨List.nodup_cons.2 ⟨λe=>by have:=h.lt _ e;omega,h.nd⟩,λx hx=>?_,λx hx=>?_,λc hc'=>?_,?_⟩
 ·rw[aL,List.length_singleton];rcases List.mem_cons.1 hx with rfl|hx
  ·omega
  ·have:=h.lt x hx;omega
 ·rw[aL,List.length_singleton] at hx;rw[sL];by_cases e:x<GC.length
  ·rw[zba e];exact h.gc x e
  ·obtain rfl:x=GC.length:=by omega
   rw[zbk];exact hc
 ·rw[sL] at hc';rw[cpc,zbk,zjC (q:=λg=>decide (GC.getD g 0=c)) (λx hx=>by rw[hS x hx])];by_cases e:GC.getD g 0=c
  ·rw[bt e];subst e;rw[zgW hc,h.rf _ hc];rfl
  ·rw[bf e,zbJ e,h.rf c hc'];rfl
 ·have h1:=zht (p:=λr:Int=>decide (0<r)) (x:=CR.getD (GC.getD g 0) 0+1) (d:=0) hc;simp only[bt (show 0<CR.getD (GC.getD g 0) 0 by omega),bt (show 0<CR.getD (GC.getD g 0) 0+1 by omega)] at h1;rw[h.ct];omega
end
structure FiI(S:List Nat)(F:List zfi)(n:Int):Prop where
 lt:∀x∈S,x<F.length
 rf:∀x,x<F.length->(F.getD x zaE).refs=((S.count x:Nat):Int)
 ct:n=((F.countP λr=>decide (0<r.refs):Nat):Int)
def rdB(q:Nat)(r:zfi):Bool:=decide (0<r.refs)&&(!r.write&&decide (r.p=q))
def wrB(q:Nat)(r:zfi):Bool:=decide (0<r.refs)&&(r.write&&decide (r.p=q))
structure PiI(F:List zfi)(I:List (Int×Int))(n:Int):Prop where
 rd:∀q,q<I.length->(I.getD q (0,0)).1=((F.countP (rdB q):Nat):Int)
 wr:∀q,q<I.length->(I.getD q (0,0)).2=((F.countP (wrB q):Nat):Int)
 ct:n=((I.countP λr=>decide (0<r.1+r.2):Nat):Int)
section
variable{S S':List Nat}{F:List zfi}{I:List (Int×Int)}{n:Int}{x q:Nat}
theorem FiI.perm(h:FiI S F n)(p:S.Perm S'):FiI S' F n:=
 ⟨λx hx=>h.lt x (p.mem_iff.2 hx),λx hx=>by rw[h.rf x hx,p.count_eq],h.ct⟩
theorem zlC{r:zfi}(hx:x<F.length):(F.set x r).getD x zaE=r:=by rw[gD',List.getElem?_set_self hx];rfl
theorem FiI.pos(h:FiI S F n)(hx:x∈S):1<=(F.getD x zaE).refs:=by rw[h.rf x (h.lt x hx)];have:=List.count_pos_iff.2 hx;omega
theorem FiI.less(h:FiI (x::S) F n)(h0:0<(F.getD x zaE).refs-1){r:zfi}(hr:r={F.getD x zaE with refs:=(F.getD x zaE).refs-1}):FiI S (F.set x r) n:=by
 have hx:=h.lt x (.head _);refine⟨λy hy=>by rw[sL];exact h.lt y (.tail _ hy),λy hy=>?_,?_⟩
 ·rw[sL] at hy;have h1:=h.rf y hy;by_cases e:x=y
  ·subst e;rw[zlC hx,hr];rw[List.count_cons_self] at h1;show(F.getD x zaE).refs-1=_;omega
  ·rw[zbJ e,h1,List.count_cons_of_ne e]
 ·rw[h.ct];have:=zi2 (p:=λr:zfi=>decide (0<r.refs)) (x:=r) (d:=zaE) hx (by rw[hr];exact(decide_eq_true h0).trans (decide_eq_true (by omega)).symm);rw[this]
theorem PiI.same(h:PiI F I n)(hx:x<F.length){r:zfi}(h1:decide (0<r.refs)=decide (0<(F.getD x zaE).refs))(h2:r.write=(F.getD x zaE).write)(h3:r.p=(F.getD x zaE).p):PiI (F.set x r) I n:=by
 refine⟨λq hq=>?_,λq hq=>?_,h.ct⟩
 ·rw[h.rd q hq,zi2 (d:=zaE) hx];unfold rdB;rw[h1,h2,h3]
 ·rw[h.wr q hq,zi2 (d:=zaE) hx];unfold wrB;rw[h1,h2,h3]
theorem FiI.last(h:FiI (x::S) F n)(h0:(F.getD x zaE).refs-1=0){r:zfi}(hr:r={F.getD x zaE with refs:=(F.getD x zaE).refs-1}):FiI S (F.set x r) (n-1):=by
 have hx:=h.lt x (.head _);refine⟨λy hy=>by rw[sL];exact h.lt y (.tail _ hy),λy hy=>?_,?_⟩
 ·rw[sL] at hy;have h1:=h.rf y hy;by_cases e:x=y
  ·subst e;rw[zlC hx,hr];rw[List.count_cons_self] at h1;show(F.getD x zaE).refs-1=_;omega
  ·rw[zbJ e,h1,List.count_cons_of_ne e]
 ·rw[h.ct];have:=zht (p:=λr:zfi=>decide (0<r.refs)) (x:=r) (d:=zaE) hx;simp only[bt (show 0<(F.getD x zaE).refs by omega),bf (show¬0<r.refs by rw[hr];show¬0<(F.getD x zaE).refs-1;omega)] at this;omega
def zhZ(I:List (Int×Int))(q:Nat)(w:Bool):List (Int×Int):=I.set q (if w then((I.getD q (0,0)).1,(I.getD q (0,0)).2-1) else((I.getD q (0,0)).1-1,(I.getD q (0,0)).2))
theorem PiI.last(h:PiI F I n)(hx:x<F.length)(h1:0<(F.getD x zaE).refs){r:zfi}(hr:r.refs=0)(hq:(F.getD x zaE).p=q)(hql:q<I.length)(hw:r.write=(F.getD x zaE).write)(hp:r.p=q):
  PiI (F.set x r) (zhZ I q r.write) (if(I.getD q (0,0)).1+(I.getD q (0,0)).2-1=0 then n-1 else n):=by
 have hg:(zhZ I q r.write).getD q (0,0)=if r.write then((I.getD q (0,0)).1,(I.getD q (0,0)).2-1) else((I.getD q (0,0)).1-1,(I.getD q (0,0)).2):=by unfold zhZ;rw[gD',List.getElem?_set_self hql];rfl
 have hgn:∀k,q≠k->(zhZ I q r.write).getD k (0,0)=I.getD k (0,0):=λk e=>zbJ e;have hlen:(zhZ I q r.write).length=I.length:=sL;have h0:¬0<r.refs:=by omega
 have c1:∀k,(F.set x r).countP (rdB k)+(rdB k (F.getD x zaE)).toNat=F.countP (rdB k)+0:=λk=>by have:=zht (p:=rdB k) (x:=r) (d:=zaE) hx;rw[this];unfold rdB;rw[decide_eq_false h0];rfl
 have c2:∀k,(F.set x r).countP (wrB k)+(wrB k (F.getD x zaE)).toNat=F.countP (wrB k)+0:=λk=>by have:=zht (p:=wrB k) (x:=r) (d:=zaE) hx;rw[this];unfold wrB;rw[decide_eq_false h0];rfl
 have p1:∀k,rdB k (F.getD x zaE)=(!r.write&&decide (q=k)):=λk=>by unfold rdB;rw[decide_eq_true h1,hq,hw];rfl
 have p2:∀k,wrB k (F.getD x zaE)=(r.write&&decide (q=k)):=λk=>by unfold wrB;rw[decide_eq_true h1,hq,hw];rfl
 have r0:=h.rd q hql;have w0:=h.wr q hql;have c1q:=c1 q;have c2q:=c2 q;rw[p1,decide_eq_true rfl] at c1q;rw[p2,decide_eq_true rfl] at c2q;refine⟨λk hk=>?_,λk hk=>?_,?_⟩
 ·rw[hlen] at hk;by_cases e:q=k
  ·subst e;rw[hg];cases hwr:r.write with
   |true=>rw[hwr] at c1q;rw[if_pos rfl];simp only[Bool.not_true,Bool.false_and,Bool.toNat_false] at c1q;show(I.getD q (0,0)).1=_;omega
   |false=>rw[hwr] at c1q;rw[if_neg (by simp)];simp only[Bool.not_false,Bool.true_and,Bool.toNat_true] at c1q;show(I.getD q (0,0)).1-1=_;omega
  ·rw[hgn k e,h.rd k hk];have:=c1 k;rw[p1,decide_eq_false e,Bool.and_false,Bool.toNat_false] at this;omega
 ·rw[hlen] at hk;by_cases e:q=k
  ·subst e;rw[hg];cases hwr:r.write with
   |true=>rw[hwr] at c2q;rw[if_pos rfl];simp only[Bool.true_and,Bool.toNat_true] at c2q;show(I.getD q (0,0)).2-1=_;omega
   |false=>rw[hwr] at c2q;rw[if_neg (by simp)];simp only[Bool.false_and,Bool.toNat_false] at c2q;show(I.getD q (0,0)).2=_;omega
  ·rw[hgn k e,h.wr k hk];have:=c2 k;rw[p2,decide_eq_false e,Bool.and_false,Bool.toNat_false] at this;omega
 ·have hs:1<=(I.getD q (0,0)).1+(I.getD q (0,0)).2:=by
   cases hwr:r.write with
   |true=>rw[hwr] at c2q;simp only[Bool.true_and,Bool.toNat_true] at c2q;omega
   |false=>rw[hwr] at c1q;simp only[Bool.not_false,Bool.true_and,Bool.toNat_true] at c1q;omega
  have hv:∀z:Int×Int,z=(if r.write then((I.getD q (0,0)).1,(I.getD q (0,0)).2-1) else((I.getD q (0,0)).1-1,(I.getD q (0,0)).2))->z.1+z.2=(I.getD q (0,0)).1+(I.getD q (0,0)).2-1:=λz hz=>by rw[hz];split<;>simp only<;>omega
  have:=zht (p:=λr:Int×Int=>decide (0<r.1+r.2)) (x:=if r.write then((I.getD q (0,0)).1,(I.getD q (0,0)).2-1) else((I.getD q (0,0)).1-1,(I.getD q (0,0)).2)) (d:=(0,0)) hql;have e1:=hv _ rfl;rw[h.ct];show(if _ then _ else _)=(((zhZ I q r.write).countP _:Nat):Int);unfold zhZ;rw[bt (show 0<(I.getD q (0,0)).1+(I.getD q (0,0)).2 by omega)] at this;by_cases e:(I.getD q (0,0)).1+(I.getD q (0,0)).2-1=0
  ·rw[if_pos e];rw[bf (by rw[e1];omega)] at this;omega
  ·rw[if_neg e];rw[bt (by rw[e1];omega)] at this;omega
theorem FiI.more(h:FiI S F n)(hx:x∈S){r:zfi}(hr:r={F.getD x zaE with refs:=(F.getD x zaE).refs+1}):FiI (x::S) (F.set x r) n:=by
 have hxl:=h.lt x hx;have hp:=h.pos hx;refine⟨λy hy=>by rw[sL];exact(List.mem_cons.1 hy).elim (λe=>e▸hxl) (h.lt y),λy hy=>?_,?_⟩
 ·rw[sL] at hy;have h1:=h.rf y hy;by_cases e:x=y
  ·subst e;rw[zlC hxl,hr,List.count_cons_self];show(F.getD x zaE).refs+1=_;omega
  ·rw[zbJ e,h1,List.count_cons_of_ne e]
 ·rw[h.ct];have:=zi2 (p:=λr:zfi=>decide (0<r.refs)) (x:=r) (d:=zaE) hxl (by rw[hr];exact(decide_eq_true (show 0<(F.getD x zaE).refs+1 by omega)).trans (decide_eq_true (by omega)).symm);rw[this]
theorem FiI.new(h:FiI S F n){r:zfi}(hr:r.refs=1):FiI (F.length::S) (F++ [r]) (n+1):=by
 refine⟨λy hy=>?_,λy hy=>?_,?_⟩
 ·rw[aL,List.length_singleton];rcases List.mem_cons.1 hy with rfl|hy
  ·omega
  ·have:=h.lt y hy;omega
 ·rw[aL,List.length_singleton] at hy;by_cases e:y<F.length
  ·rw[zba e,h.rf y e,List.count_cons_of_ne (by omega)]
  ·obtain rfl:y=F.length:=by omega
   rw[zbk,List.count_cons_self,List.count_eq_zero_of_not_mem (λe=>by have:=h.lt _ e;omega),hr];rfl
 ·rw[List.countP_append,h.ct];show _=((_+List.countP _ [r]:Nat):Int);rw[cpc,bt (show 0<r.refs by omega)];rfl
theorem PiI.new(h:PiI F I n)(hF:∀r∈F,r.p<I.length):PiI ((F++ [⟨I.length,false,1⟩])++ [⟨I.length,true,1⟩]) (I++ [(1,1)]) (n+1):=by
 have z1:F.countP (rdB I.length)=0:=List.countP_eq_zero.2 λr hr e=>by have:=hF r hr;unfold rdB at e;simp only[bT,decide_eq_true_eq] at e;omega
 have z2:F.countP (wrB I.length)=0:=List.countP_eq_zero.2 λr hr e=>by have:=hF r hr;unfold wrB at e;simp only[bT,decide_eq_true_eq] at e;omega
 have one:∀{p:zfi->Bool} {r:zfi},[r].countP p=(p r).toNat:=λ{p r}=>by rw[cpc];simp
 refine⟨λk hk=>?_,λk hk=>?_,?_⟩
 ·rw[aL,List.length_singleton] at hk;rw[List.countP_append,List.countP_append,one,one];by_cases e:k<I.length
  ·rw[zba e,h.rd k e];unfold rdB;simp only[decide_eq_false (show¬I.length=k by omega),Bool.and_false,Bool.toNat_false];omega
  ·obtain rfl:k=I.length:=by omega
   rw[zbk,z1];unfold rdB;simp
 ·rw[aL,List.length_singleton] at hk;rw[List.countP_append,List.countP_append,one,one];by_cases e:k<I.length
  ·rw[zba e,h.wr k e];unfold wrB;simp only[decide_eq_false (show¬I.length=k by omega),Bool.and_false,Bool.toNat_false];omega
  ·obtain rfl:k=I.length:=by omega
   rw[zbk,z2];unfold wrB;simp
 ·rw[List.countP_append,h.ct];rfl
end
def upG(X:St)(i:Nat):List Nat:=(X.p i).pages.filterMap id
def upF(X:St)(i:Nat):List Nat:=(X.p i).fds.filterMap id
def sP(X:St):List Nat:=(List.range X.P.length).flatMap (upG X)
def sF(X:St):List Nat:=(List.range X.P.length).flatMap (upF X)
def rwI(r:zpG):Int×Int:=(r.readers,r.writers)
structure RJ(S:List Nat)(fr pr:Int)(X:St):Prop where
 pg:PgI (sP X) (X.G.map (·.c)) (X.C.map (·.refs)) X.contents
 cf:X.contents<=fr
 fi:FiI S X.F X.files
 sl:S.length<=4194304
 ff:X.files<=64
 pi:PiI X.F (X.I.map rwI) X.pipes
 pp:X.pipes<=16
 xp:∀r∈X.F,r.p<X.I.length
 ln:∀i,(X.p i).pages.length=64∧(X.p i).fds.length=8
 pn:(X.P.length:Int)<X.next
 nx:X.next<=65536
 ef:X.frames=fr∧fr<=256
 ep:X.procs=pr
 pd:(X.l.map λi=>(X.p i).pid).Nodup
 pb:∀i∈X.l,(X.p i).pid<X.next
 lk:∀i∈X.l,i<X.P.length
abbrev RI(fr pr:Int)(X:St):Prop:=RJ (sF X) fr pr X
structure Sm(X Y:St):Prop where
 n:Y.P.length=X.P.length
 e:∀i,(Y.p i).pages=(X.p i).pages∧(Y.p i).fds=(X.p i).fds∧(Y.p i).pid=(X.p i).pid
 g:Y.G.map (·.c)=X.G.map (·.c)
 c:Y.C.map (·.refs)=X.C.map (·.refs)
 f:Y.F=X.F
 i:Y.I.map rwI=X.I.map rwI
 v:Y.contents=X.contents∧Y.frames=X.frames∧Y.files=X.files∧Y.pipes=X.pipes∧Y.next=X.next∧Y.procs=X.procs∧Y.l=X.l
section
variable{S S':List Nat}{fr pr:Int}{X Y Z:St}{i j k n q x:Nat}{pid g c:Int}{v a b:BitVec 32}{r:zb9}
theorem Sm.refl:Sm X X:=⟨rfl,λ_=>⟨rfl,rfl,rfl⟩,rfl,rfl,rfl,rfl,rfl,rfl,rfl,rfl,rfl,rfl,rfl⟩
theorem Sm.trans(h:Sm X Y)(k:Sm Y Z):Sm X Z:=by obtain⟨a1,a2,a3,a4,a5,a6,a7⟩:=h.v;obtain⟨b1,b2,b3,b4,b5,b6,b7⟩:=k.v;exact⟨k.n.trans h.n,λi=>⟨(k.e i).1.trans (h.e i).1,(k.e i).2.1.trans (h.e i).2.1,(k.e i).2.2.trans (h.e i).2.2⟩,k.g.trans h.g,k.c.trans h.c,k.f.trans h.f,k.i.trans h.i,b1.trans a1,b2.trans a2,b3.trans a3,b4.trans a4,b5.trans a5,b6.trans a6,b7.trans a7⟩
theorem Sm.of(a:Y.P=X.P:=by rfl)(b:Y.G=X.G:=by rfl)(c:Y.C=X.C:=by rfl)(d:Y.F=X.F:=by rfl)(e:Y.I=X.I:=by rfl)(v:Y.contents=X.contents∧Y.frames=X.frames∧Y.files=X.files∧Y.pipes=X.pipes∧Y.next=X.next∧Y.procs=X.procs∧Y.l=X.l:=by exact⟨rfl,rfl,rfl,rfl,rfl,rfl,rfl⟩):Sm X Y:=
 ⟨by rw[a],λi=>by unfold St.p;rw[a];exact⟨rfl,rfl,rfl⟩,by rw[b],by rw[c],d,by rw[e],v⟩
theorem zi1:(X.P.set i r).getD j zbh=if i=j∧i<X.P.length then r else X.P.getD j zbh:=by
 by_cases e:i=j
 ·subst e;by_cases h:i<X.P.length
  ·rw[if_pos ⟨rfl,h⟩];exact zah h
  ·rw[if_neg (λe=>h e.2),List.set_eq_of_length_le (by omega)]
 ·rw[if_neg (λh=>e h.1)];exact zav e
theorem Sm.setP(h:r.pages=(X.p i).pages∧r.fds=(X.p i).fds∧r.pid=(X.p i).pid):Sm X {X with P:=X.P.set i r}:=
 ⟨sL,λj=>by
  show((X.P.set i r).getD j zbh).pages=_∧((X.P.set i r).getD j zbh).fds=_∧((X.P.set i r).getD j zbh).pid=_;rw[zi1];split
  ·rename_i e;obtain⟨rfl,_⟩:=e;exact h
  ·exact⟨rfl,rfl,rfl⟩,rfl,rfl,rfl,rfl,rfl,rfl,rfl,rfl,rfl,rfl,rfl⟩
theorem Sm.sP(h:Sm X Y):sP Y=sP X:=by unfold Go.Ab.sP;rw[h.n];exact zdm λj _=>by unfold upG;rw[(h.e j).1]
theorem Sm.sF(h:Sm X Y):sF Y=sF X:=by unfold Go.Ab.sF;rw[h.n];exact zdm λj _=>by unfold upF;rw[(h.e j).2.1]
theorem RJ.sm(h:RJ S fr pr X)(s:Sm X Y):RJ S fr pr Y:=by
 obtain⟨v1,v2,v3,v4,v5,v6,v7⟩:=s.v;have hil:Y.I.length=X.I.length:=by have:=congrArg List.length s.i;simpa using this
 refine⟨by rw[s.sP,s.g,s.c,v1];exact h.pg,by rw[v1];exact h.cf,by rw[s.f,v3];exact h.fi,h.sl,by rw[v3];exact h.ff,by rw[s.f,s.i,v4];exact h.pi,by rw[v4];exact h.pp,by rw[s.f,hil];exact h.xp,λi=>by rw[(s.e i).1,(s.e i).2.1];exact h.ln i,by rw[s.n,v5];exact h.pn,by rw[v5];exact h.nx,by rw[v2];exact h.ef,by rw[v6];exact h.ep,?_,λi hi=>?_,λi hi=>by rw[v7] at hi;rw[s.n];exact h.lk i hi⟩
 ·rw[v7,List.map_congr_left (g:=λi=>(X.p i).pid) λi _=>(s.e i).2.2];exact h.pd
 ·rw[v7] at hi;rw[(s.e i).2.2,v5];exact h.pb i hi
theorem RI.sm(h:RI fr pr X)(s:Sm X Y):RI fr pr Y:=by show RJ (Go.Ab.sF Y) fr pr Y;rw[s.sF];exact RJ.sm h s
theorem Sm.see:Sm X (zfR X i g c v):=Sm.of
theorem Sm.answer:Sm X (zar X i v):=Sm.trans (Sm.setP (i:=i) (r:={X.p i with cpu:={(X.p i).cpu with r:=(X.p i).cpu.r.set 0 v,pc:=(X.p i).cpu.pc+4#32}}) ⟨rfl,rfl,rfl⟩) (by unfold zar;exact Sm.see)
theorem Sm.code:Sm X (zaZ X i c):=Sm.answer
theorem Sm.fut{f:List Nat}:Sm X {X with fut:=f}:=Sm.of
theorem Sm.ready:Sm X (zaI X i):=(Sm.setP (r:=zfG (X.p i)) ⟨rfl,rfl,rfl⟩).trans Sm.fut
theorem Sm.ite{p:Prop} [Decidable p](h:p->Sm X Y)(k:¬p->Sm X Z):Sm X (if p then Y else Z):=by
 split
 ·exact h ‹_›
 ·exact k ‹_›
theorem Sm.fold{α:Type}{f:St->α->St}(h:∀X a,Sm X (f X a)):∀{l:List α} {X:St},Sm X (l.foldl f X)
 |[],_=>Sm.refl
 |a::_,X=>(h X a).trans (Sm.fold h)
theorem Sm.wake{w:Int}:Sm X (zcx X w n):=Sm.fold λX i=>Sm.ite (λ_=>Sm.ready) λ_=>Sm.refl
theorem Sm.child:Sm X (zbs X pid):=by
 unfold zbs;cases zbO X pid with
 |none=>exact Sm.refl
 |some i=>exact Sm.ite (λ_=>Sm.ready) λ_=>Sm.refl
theorem Sm.sig{s:Sg}:Sm X {X with P:=X.P.set i {X.p i with sig:=s}}:=Sm.setP ⟨rfl,rfl,rfl⟩
theorem Sm.post:Sm X (zeO X pid g):=by
 unfold zeO;cases zbO X pid with
 |none=>exact Sm.refl
 |some i=>exact Sm.ite (λ_=>(Sm.sig.trans Sm.code).trans Sm.ready) λ_=>Sm.sig
theorem Sm.dead:Sm X (zo4 X i v):=Sm.setP ⟨rfl,rfl,rfl⟩
theorem Sm.orphS{Z:St×Bool}:Sm Z.1 (orphS i Z j).1:=by
 unfold Go.Ab.orphS;split
 ·exact Sm.setP ⟨rfl,rfl,rfl⟩
 ·exact Sm.refl
theorem Sm.orphI:∀{l:List Nat} {Z:St×Bool},Sm Z.1 (orphI i l Z).1
 |[],_=>Sm.refl
 |a::l,Z=>Sm.trans (Sm.orphS (j:=a)) (Sm.orphI (l:=l))
theorem Sm.exitD{Z:St×Bool}:Sm Z.1 (exitD Z i):=(Sm.ite (λ_=>Sm.child) λ_=>Sm.refl).trans Sm.child
theorem Sm.exitB:Sm X (exitB X i):=Sm.ite (λ_=>Sm.of) λ_=>((Sm.orphI (Z:=(X,false))).trans Sm.exitD).trans Sm.post
theorem Sm.hand{s:Sg}:Sm X (zoC X i s g):=Sm.setP ⟨rfl,rfl,rfl⟩
theorem Sm.told:Sm X (zkl X):=Sm.of
theorem Sm.tk:Sm X (zhU X i):=by unfold zhU tick1;have h:Sm X (tk1 X i):=Sm.setP ⟨rfl,rfl,rfl⟩;exact Sm.ite (λ_=>Sm.ite (λ_=>(h.trans Sm.answer).trans Sm.ready) λ_=>h) λ_=>Sm.refl
theorem Sm.tickI{l:List Nat}:Sm X (tickI X l):=Sm.fold λX i=>Sm.tk
theorem Sm.setI{r:zpG}(h:rwI r=rwI (X.i q)):Sm X {X with I:=X.I.set q r}:=by
 refine⟨rfl,λ_=>⟨rfl,rfl,rfl⟩,rfl,rfl,rfl,?_,rfl,rfl,rfl,rfl,rfl,rfl,rfl⟩;show(X.I.set q r).map rwI=_;rw[List.map_set];apply List.ext_getElem?;intro j;rw[List.getElem?_set];split
 ·rename_i e;subst e;split
  ·rename_i hq;rw[h,gM',gE' (by simpa using hq)];show some (rwI (X.I.getD q pipe0))=_;rw[gD',gE' (by simpa using hq)];rfl
  ·rename_i hq;rw[List.getElem?_eq_none (by omega)]
 ·rfl
theorem Sm.futS{w:Fut}{Z:St×BitVec 32}:Sm Z.1 (futS w a Z j).1:=by
 unfold Go.Ab.futS;split
 ·exact Sm.answer.trans Sm.ready
 ·exact Sm.refl
theorem Sm.futI{w:Fut}:∀{l:List Nat} {Z:St×BitVec 32},Sm Z.1 (futI w a l Z).1
 |[],_=>Sm.refl
 |b::l,Z=>Sm.trans (Sm.futS (j:=b)) (Sm.futI (l:=l))
theorem Sm.futW{w:Fut}:Sm X (futW X i w):=(Sm.setP (r:={X.p i with wait:=4,fut:=w}) ⟨rfl,rfl,rfl⟩).trans Sm.fut
theorem Sm.futex{a0 a1:BitVec 32}:Sm X (zhi X i g a0 a1):=by
 unfold zhi zit;cases zet X i a0 with
 |none=>exact Sm.code
 |some w=>exact Sm.ite (λ_=>Sm.ite (λ_=>Sm.futW) λ_=>Sm.code) λ_=>(Sm.futI (Z:=(X,0#32))).trans Sm.answer
theorem Sm.turn{s:Sg}:Sm X (zkq X i v s c):=Sm.ite (λ_=>Sm.sig.trans Sm.answer) λ_=>Sm.code
theorem Sm.sigs{a0 a1:BitVec 32}:Sm X (zpa X i g a0 a1):=
 Sm.ite (λ_=>Sm.ite (λ_=>Sm.code) λ_=>Sm.ite (λ_=>Sm.code) λ_=>Sm.ite (λ_=>Sm.answer.trans Sm.post) λ_=>Sm.answer) λ_=>Sm.ite (λ_=>Sm.turn) λ_=>Sm.ite (λ_=>Sm.turn) λ_=>Sm.ite (λ_=>Sm.setP ⟨rfl,rfl,rfl⟩) λ_=>Sm.code
theorem zrx{f:Nat->List Nat}{z:Nat}(h:∀i,(f i).length<=z):∀{n:Nat},((List.range n).flatMap f).length<=n*z
 |0=>Nat.zero_le _
 |n+1=>by
  rw[List.range_succ,List.flatMap_append,aL,Nat.succ_mul];have h1:=zrx h (n:=n);have h2:=h n;have e1:[n].flatMap f=f n:=by simp
  rw[e1];omega
theorem RJ.lenP(h:RJ S fr pr X):(sP X).length<=4194304:=by have h1:=zrx (f:=upG X) (z:=64) (λi=>lT (List.length_filterMap_le _ _) (by rw[(h.ln i).1];exact lR' _)) (n:=X.P.length);have:=h.pn;have:=h.nx;unfold sP;omega
theorem zwK(g:Nat):(X.G.map (·.c)).getD g 0=(X.g g).c:=by rw[gD',gM'];show _=(X.G.getD g zd2).c;rw[gD'];cases X.G[g]? <;>rfl
theorem zCU(c:Nat):(X.C.map (·.refs)).getD c 0=(X.c c).refs:=by rw[gD',gM'];show _=(X.C.getD c zfa).refs;rw[gD'];cases X.C[c]? <;>rfl
theorem RJ.refs(h:RJ S fr pr X){c:Nat}(hc:c<X.C.length):0<=(X.c c).refs∧(X.c c).refs<=4194304:=by rw[<-zCU,h.pg.rf c (by simpa using hc)];have h1:=List.countP_le_length (p:=λg=>decide ((X.G.map (·.c)).getD g 0=c)) (l:=sP X);have:=h.lenP;omega
theorem RJ.frefs(h:RJ S fr pr X){x:Nat}(hx:x<X.F.length):0<=(X.x x).refs∧(X.x x).refs<=4194304:=by rw[show X.x x=X.F.getD x zaE from rfl,h.fi.rf x hx];have h1:=List.count_le_length (a:=x) (l:=S);have:=h.sl;omega
theorem RJ.cn(h:RJ S fr pr X):0<=X.contents:=by rw[h.pg.ct];omega
theorem RJ.fn(h:RJ S fr pr X):0<=X.files:=by rw[h.fi.ct];omega
theorem RJ.pq(h:RJ S fr pr X):0<=X.pipes:=by rw[h.pi.ct];omega
end
section
variable{S S':List Nat}{fr pr:Int}{X Y Z:St}{i j k n q x g:Nat}{a:BitVec 32}{r:zb9}
theorem zpP{pages:zb9->List (Option Nat)}(h0:∀k,(pages zbh).getD k none=none)(h:(pages (X.p i)).getD k none=some g):i<X.P.length:=by
 rcases Nat.lt_or_ge i X.P.length with hi|hi
 ·exact hi
 ·exfalso;have:X.p i=zbh:=by show X.P.getD i zbh=zbh;rw[gD',List.getElem?_eq_none hi];rfl
  rw[this,h0] at h;cases h
theorem zjj{n k:Nat}:(List.replicate n (none:Option Nat)).getD k none=none:=by rw[gD',List.getElem?_replicate];split<;>rfl
theorem zCw(h:(X.p i).pages.getD k none=some g):i<X.P.length:=zpP (pages:=zb9.pages) (λ_=>zjj) h
theorem zAR(h:(X.p i).fds.getD k none=some g):i<X.P.length:=zpP (pages:=zb9.fds) (λ_=>zjj) h
theorem zA6{l:List (Option Nat)}(h:l.getD k none=some g):k<l.length:=by
 rcases Nat.lt_or_ge k l.length with hk|hk
 ·exact hk
 ·rw[gD',List.getElem?_eq_none hk] at h;cases h
theorem zlt{l:List (Option Nat)}(h:l.getD k none=some g):g∈l.filterMap id:=by have hk:=zA6 h;rw[gD',gE' hk] at h;exact List.mem_filterMap.2 ⟨some g,by rw[<-(show l[k]=some g from h)];exact List.getElem_mem hk,rfl⟩
theorem zp5(h:(X.p i).pages.getD k none=some g):g∈sP X:=
 List.mem_flatMap.2 ⟨i,List.mem_range.2 (zCw h),zlt h⟩
theorem zCV(h:(X.p i).fds.getD k none=some g):g∈sF X:=
 List.mem_flatMap.2 ⟨i,List.mem_range.2 (zAR h),zlt h⟩
theorem zfr(hi:i<X.P.length):({X with P:=X.P.set i r}:St).p i=r:=zah hi
theorem zm9(h:j≠i):({X with P:=X.P.set i r}:St).p j=X.p j:=zav λe=>h e.symm
theorem zAr(h:(X.p i).pages.getD k none=some g)(hr:r.pages=(X.p i).pages.set k none):(sP X).Perm (g::sP {X with P:=X.P.set i r}):=by have hi:=zCw h;unfold sP;rw[show({X with P:=X.P.set i r}:St).P.length=X.P.length from sL];refine zlg hi (λj hj=>by unfold upG;rw[zm9 hj]) ?_;unfold upG;rw[zfr hi,hr];exact zv7 h
theorem zv5(hi:i<X.P.length)(hk:k<(X.p i).pages.length)(h:(X.p i).pages.getD k none=none)(hr:r.pages=(X.p i).pages.set k (some g)):(sP {X with P:=X.P.set i r}).Perm (g::sP X):=by unfold sP;rw[show({X with P:=X.P.set i r}:St).P.length=X.P.length from sL];refine zlg hi (λj hj=>by unfold upG;rw[zm9 hj]) ?_;unfold upG;rw[zfr hi,hr];exact zwn hk h
theorem zDV(h:(X.p i).fds.getD k none=some g)(hr:r.fds=(X.p i).fds.set k none):(sF X).Perm (g::sF {X with P:=X.P.set i r}):=by have hi:=zAR h;unfold sF;rw[show({X with P:=X.P.set i r}:St).P.length=X.P.length from sL];refine zlg hi (λj hj=>by unfold upF;rw[zm9 hj]) ?_;unfold upF;rw[zfr hi,hr];exact zv7 h
theorem zsZ(hi:i<X.P.length)(hk:k<(X.p i).fds.length)(h:(X.p i).fds.getD k none=none)(hr:r.fds=(X.p i).fds.set k (some g)):(sF {X with P:=X.P.set i r}).Perm (g::sF X):=by unfold sF;rw[show({X with P:=X.P.set i r}:St).P.length=X.P.length from sL];refine zlg hi (λj hj=>by unfold upF;rw[zm9 hj]) ?_;unfold upF;rw[zfr hi,hr];exact zwn hk h
theorem zsb(hr:r.fds=(X.p i).fds):sF {X with P:=X.P.set i r}=sF X:=by
 unfold sF;rw[show({X with P:=X.P.set i r}:St).P.length=X.P.length from sL];refine zdm λj _=>?_;unfold upF;show((X.P.set i r).getD j zbh).fds.filterMap id=_;rw[zi1];split
 ·rename_i e;rw[hr,e.1]
 ·rfl
theorem zzl(hr:r.pages=(X.p i).pages):sP {X with P:=X.P.set i r}=sP X:=by
 unfold sP;rw[show({X with P:=X.P.set i r}:St).P.length=X.P.length from sL];refine zdm λj _=>?_;unfold upG;show((X.P.set i r).getD j zbh).pages.filterMap id=_;rw[zi1];split
 ·rename_i e;rw[hr,e.1]
 ·rfl
theorem RJ.pgs(h:RJ S fr pr X)(hf:r.fds=(X.p i).fds)(hp:r.pid=(X.p i).pid)(hl:r.pages.length=64){G:List zk0}{C:List znq}{n:Int}(hg:PgI (sP {X with P:=X.P.set i r}) (G.map (·.c)) (C.map (·.refs)) n)(hc:n<=fr):
  RJ S fr pr {X with P:=X.P.set i r,G:=G,C:=C,contents:=n}:=by
 have hpid:∀j,(({X with P:=X.P.set i r}:St).p j).pid=(X.p j).pid:=λj=>by
  show((X.P.set i r).getD j zbh).pid=_;rw[zi1];split
  ·rename_i e;rw[hp,e.1]
  ·rfl
 refine⟨hg,hc,h.fi,h.sl,h.ff,h.pi,h.pp,h.xp,λj=>?_,by show((X.P.set i r).length:Int)<_;rw[sL];exact h.pn,h.nx,h.ef,h.ep,?_,λj hj=>?_,λj hj=>by show j<(X.P.set i r).length;rw[sL];exact h.lk j hj⟩
 ·show((X.P.set i r).getD j zbh).pages.length=64∧((X.P.set i r).getD j zbh).fds.length=8;rw[zi1];split
  ·rename_i e;exact⟨hl,by rw[hf];exact(h.ln i).2⟩
  ·exact h.ln j
 ·show(X.l.map λi_1=>(({X with P:=X.P.set i r}:St).p i_1).pid).Nodup;rw[List.map_congr_left (g:=λi=>(X.p i).pid) λj _=>hpid j];exact h.pd
 ·show(({X with P:=X.P.set i r}:St).p j).pid<_;rw[hpid];exact h.pb j hj
theorem RJ.gcs(h:RJ S fr pr X){G:List zk0}{C:List znq}{n:Int}(hg:PgI (sP X) (G.map (·.c)) (C.map (·.refs)) n)(hc:n<=fr):RJ S fr pr {X with G:=G,C:=C,contents:=n}:=
 ⟨hg,hc,h.fi,h.sl,h.ff,h.pi,h.pp,h.xp,h.ln,h.pn,h.nx,h.ef,h.ep,h.pd,h.pb,h.lk⟩
theorem RJ.unmap(h:RJ S fr pr X):RJ S fr pr (zbi X i k):=by
 unfold zbi;cases hg:(X.p i).pages.getD k none with
 |none=>exact h
 |some g=>
  simp only[];have hgl:=h.pg.lt g (zp5 hg);have hcl:(X.g g).c<X.C.length:=by have:=h.pg.gc g hgl;rw[zwK] at this;simpa using this
  have hr:=h.refs hcl;have hw:IntKind.i64.wrap ((X.c (X.g g).c).refs-1)=(X.c (X.g g).c).refs-1:=zae (by omega) (by omega);have hcn:=h.cn;have hcf:=h.cf;have hef:=h.ef.2;have hw2:IntKind.i64.wrap (X.contents-1)=X.contents-1:=zae (by omega) (by omega);rw[hw,hw2];have hd:=(h.pg.perm (zAr (r:={X.p i with pages:=(X.p i).pages.set k none}) hg rfl)).del;rw[zwK,zCU] at hd;have hl:((X.p i).pages.set k none).length=64:=by rw[sL];exact(h.ln i).1
  have hfr:(if(X.c (X.g g).c).refs-1=0 then X.contents-1 else X.contents)<=fr:=by split<;>omega
  refine h.pgs (i:=i) (r:={X.p i with pages:=(X.p i).pages.set k none}) rfl rfl hl ?_ hfr;rw[List.map_set];exact hd
theorem RJ.unmaps(h:RJ S fr pr X){l:List Nat}:RJ S fr pr (zaY X i l):=by
 induction l generalizing X with
 |nil=>exact h
 |cons a l ih=>exact ih h.unmap
theorem RJ.map(h:RJ S fr pr X)(hi:i<X.P.length)(hk:k<64)(h0:(X.p i).pages.getD k none=none)(hc:X.contents+1<=fr){w s:Bool}:RJ S fr pr (zkN X i k w s):=by
 unfold zkN;have hcn:=h.cn;have hef:=h.ef.2;have hw:IntKind.i64.wrap (X.contents+1)=X.contents+1:=zae (by omega) (by omega);rw[hw];have hp:=zv5 (r:={X.p i with pages:=(X.p i).pages.set k (some X.G.length)}) hi (by rw[(h.ln i).1];exact hk) h0 rfl;have hl:((X.p i).pages.set k (some X.G.length)).length=64:=by rw[sL];exact(h.ln i).1
 refine h.pgs (i:=i) (r:={X.p i with pages:=(X.p i).pages.set k (some X.G.length)}) rfl rfl hl ?_ hc;rw[List.map_append,List.map_append];have:=h.pg.add;rw[lM,lM] at this;exact this.perm hp.symm
end
section
variable{S S':List Nat}{fr pr:Int}{X Y Z:St}{i j k n q x g:Nat}{a b f:BitVec 32}{r:zb9}{l:List (BitVec 8)}
theorem zjS{α β:Type}{l:List α}{h:α->β}{x d:α}{i:Nat}(e:h x=h (l.getD i d)):(l.set i x).map h=l.map h:=by
 rw[List.map_set];apply List.ext_getElem?;intro j;rw[List.getElem?_set];split
 ·rename_i ej;subst ej;split
  ·rename_i hi;have hi':i<l.length:=by simpa using hi
   rw[e,gM',gE' hi',gD',gE' hi'];rfl
  ·rename_i hi;rw[List.getElem?_eq_none (by omega)]
 ·rfl
theorem Sm.putG{o:Nat}{y:BitVec 8}:Sm X (putG X g o y):=
 ⟨rfl,λ_=>⟨rfl,rfl,rfl⟩,zjS (d:=zd2) rfl,zjS (d:=zfa) rfl,rfl,rfl,rfl,rfl,rfl,rfl,rfl,rfl,rfl⟩
theorem RJ.split(h:RJ S fr pr X)(hg:g∈sP X)(h1:1<(X.c (X.g g).c).refs)(hc:X.contents+1<=fr):RJ S fr pr (zeS X g):=by
 unfold zeS;have hgl:=h.pg.lt g hg;have hcl:(X.g g).c<X.C.length:=by have:=h.pg.gc g hgl;rw[zwK] at this;simpa using this
 have hr:=h.refs hcl;have hcn:=h.cn;have hef:=h.ef.2;have hw:IntKind.i64.wrap ((X.c (X.g g).c).refs-1)=(X.c (X.g g).c).refs-1:=zae (by omega) (by omega);have hw2:IntKind.i64.wrap (X.contents+1)=X.contents+1:=zae (by omega) (by omega);rw[hw,hw2];have hs:=h.pg.split hg (by rw[zwK,zCU];exact h1);rw[zwK,zCU,lM] at hs;refine h.gcs ?_ hc;rw[List.map_append,List.map_set,List.map_set];exact hs
abbrev bpg(X:St)(i:Nat)(a:BitVec 32)(j:Nat):Option Nat:=atX (X.p i) (a+BitVec.ofNat 32 j)
theorem zsV(h:bpg X i a j=some g):g∈sP X:=by
 unfold bpg atX at h;split at h
 ·cases h
 ·exact zp5 h
theorem zqB:∀{k:Nat} {p:Nat×Int},zcI X i a k=some p->p.2=if k=0 then-1 else(pgN a (k-1):Int)
 |0,p,h=>by cases h;rfl
 |k+1,p,h=>by
  unfold zcI at h;split at h
  ·cases h
  ·split at h
   ·cases h
   ·split at h
    ·cases h
    ·cases h;rw[if_neg (Nat.succ_ne_zero k)];rfl
theorem zj3:∀{n k:Nat} {p p':Nat×Int},zcI X i a k=some p->zcI X i a n=some p'->k<=n->p.1<=p'.1
 |0,k,p,p',h,h',hk=>by
  obtain rfl:k=0:=by omega
  rw[h] at h';cases h';exact lR' _
 |n+1,k,p,p',h,h',hk=>by
  by_cases e:k=n+1
  ·subst e;rw[h] at h';cases h';exact lR' _
  ·unfold zcI at h';split at h'
   ·cases h'
   ·rename_i q hq;have:=zj3 h hq (by omega);split at h'
    ·cases h'
    ·split at h'
     ·cases h'
     ·cases h';refine lT this ?_;simp only;split
      ·exact lR' _
      ·split
       ·exact Nat.le_succ _
       ·exact lR' _
structure Wr(S:List Nat)(fr pr:Int)(X:St)(i:Nat)(a:BitVec 32)(k c:Nat)(Y:St):Prop where
 ri:RJ S fr pr Y
 p:Y.P=X.P
 t:∀j g,j<k->bpg X i a j=some g->(Y.g g).cow=false
 u:∀g,(∀j,j<k->bpg X i a j≠some g)->Y.g g=X.g g
 cl:X.C.length<=Y.C.length
 rf:∀c,c<X.C.length->(Y.c c).refs<=(X.c c).refs
 ct:Y.contents<=X.contents+c
theorem zzZ{P:List zk0}{r:zk0}{g:Nat}(h:g<P.length):(P.set g r).getD g zd2=r:=zah h
theorem zp7(h:RJ S fr pr X){p:Nat×Int}(hn:zcI X i a l.length=some p)(hf:X.contents+p.1<=fr):∀{k:Nat} {pk:Nat×Int},k<=l.length->zcI X i a k=some pk->Wr S fr pr X i a k pk.1 (zcJ X i a l k)
 |0,pk,_,hk=>by cases hk;exact⟨h,rfl,λj g hj=>absurd hj (by omega),λ_ _=>rfl,lR' _,λ_ _=>Int.le_refl _,by show X.contents<=X.contents+0;omega⟩
 |k+1,pk,hkl,hk=>by
  have hmono:=zj3 hk hn hkl;unfold zcI at hk;split at hk
  ·cases hk
  ·rename_i p0 hp0;split at hk
   ·cases hk
   ·rename_i g hg;split at hk
    ·cases hk
    ·cases hk;have ih:=zp7 h hn hf (k:=k) (by omega) hp0;have hbg:bpg X i a k=some g:=hg;show Wr S fr pr X i a (k+1) _ (putB (zcJ X i a l k) i a k (l.getD k 0#8));generalize zcJ X i a l k=Y at ih;have hY:atX (Y.p i) (a+BitVec.ofNat 32 k)=some g:=by show atX (Y.P.getD i zbh) _=_;rw[ih.p];exact hg
     have hgY:g∈sP Y:=zsV (X:=Y) hY;have hgl:g<Y.G.length:=by have:=ih.ri.pg.lt g hgY;simpa using this
     unfold putB;rw[hY];simp only[];have fin:∀(Z:St) (c:Nat),RJ S fr pr Z->Z.P=X.P->g<Z.G.length->(∀j g',j<k->g'≠g->bpg X i a j=some g'->(Z.g g').cow=false)->(∀g',g'≠g->(∀j,j<k->bpg X i a j≠some g')->Z.g g'=X.g g')->X.C.length<=Z.C.length->(∀c,c<X.C.length->(Z.c c).refs<=(X.c c).refs)->Z.contents<=X.contents+c->Wr S fr pr X i a (k+1) c (putG Z g ((a+BitVec.ofNat 32 k).toNat % 64) (l.getD k 0#8)):=λZ c z1 z2 z3 z4 z5 z6 z7 z8=>by
      have hgg:∀g',((putG Z g ((a+BitVec.ofNat 32 k).toNat % 64) (l.getD k 0#8)).g g')=if g'=g then{Z.g g with cow:=false} else Z.g g':=λg'=>by
       show(Z.G.set g _).getD g' zd2=_;by_cases e:g'=g
       ·subst e;rw[if_pos rfl];exact zzZ z3
       ·rw[if_neg e];exact zav λe'=>e e'.symm
      refine⟨z1.sm Sm.putG,z2,λj g' hj hb=>?_,λg' hb=>?_,by show X.C.length<=(Z.C.set _ _).length;rw[sL];exact z6,λc hc=>?_,z8⟩
      ·rw[hgg];split
       ·rfl
       ·rename_i e;by_cases ej:j=k
        ·subst ej;rw[hbg] at hb;cases hb;exact absurd rfl e
        ·exact z4 j g' (by omega) e hb
      ·have e:g'≠g:=λe=>hb k (by omega) (e▸hbg);rw[hgg,if_neg e];exact z5 g' e λj hj=>hb j (by omega)
      ·have:=z7 c hc;show((Z.C.set _ _).getD c zfa).refs<=_;by_cases e:(Z.g g).c=c
       ·subst e;by_cases hl:(Z.g g).c<Z.C.length
        ·rw[zah hl];exact this
        ·rw[List.set_eq_of_length_le (by omega)];exact this
       ·rw[zav e];exact this
     by_cases hs:zhB Y g=true
     ·rw[if_pos hs];have hs':=hs;unfold zhB at hs;rw[bT] at hs;obtain⟨s1,s2⟩:=hs;have s2:=of_decide_eq_true s2;have nt:∀j,j<k->bpg X i a j≠some g:=λj hj e=>by rw[ih.t j g hj e] at s1;cases s1
      have e1:=ih.u g nt;have hcX:(X.g g).c<X.C.length:=by have:=h.pg.gc g (h.pg.lt g (zsV hbg));rw[zwK] at this;simpa using this
      have sX:zhB X g=true:=by unfold zhB;rw[<-e1,s1,Bool.true_and];have:=ih.rf _ hcX;rw[<-e1] at this;exact decide_eq_true (by omega)
      have np:¬((pgN a k:Nat):Int)=p0.2:=λe=>by
       have hl:=zqB hp0;rw[hl] at e;split at e
       ·omega
       ·rename_i hk0;refine nt (k-1) (by omega) ?_;have e2:pgN a k=pgN a (k-1):=by omega
        unfold pgN at e2;have e3:bpg X i a k=some g:=hbg;unfold bpg atX at e3⊢;have ha:(a+BitVec.ofNat 32 k).toNat<4096:=by
         split at e3
         ·cases e3
         ·omega
        rw[if_neg (by omega)] at e3;rw[if_neg (by omega),<-e2];exact e3
      rw[if_neg np,if_pos sX] at hmono⊢;have hct:=ih.ct;have hcl:(Y.g g).c<Y.C.length:=by rw[e1];exact lL hcX ih.cl
      have hsp:=ih.ri.split hgY s2 (by omega);have hr:=ih.ri.refs hcl;have hw:IntKind.i64.wrap ((Y.c (Y.g g).c).refs-1)=(Y.c (Y.g g).c).refs-1:=zae (by omega) (by omega);have hcn:=ih.ri.cn;have hef:=h.ef.2;have hw2:IntKind.i64.wrap (Y.contents+1)=Y.contents+1:=zae (by omega) (by omega);refine fin (zeS Y g) _ hsp ih.p (by show g<(Y.G.set _ _).length;rw[sL];exact hgl) (λj g' hj e hb=>?_) (λg' e hb=>?_) ?_ (λc hc=>?_) ?_
      ·show((Y.G.set g _).getD g' zd2).cow=false;rw[zav λe'=>e e'.symm];exact ih.t j g' hj hb
      ·show(Y.G.set g _).getD g' zd2=_;rw[zav λe'=>e e'.symm];exact ih.u g' hb
      ·show X.C.length<=(Y.C.set _ _++_).length;rw[aL,sL];have:=ih.cl;omega
      ·have h1:=ih.rf c hc;have h2:=ih.cl;show((Y.C.set _ _++ [_]).getD c zfa).refs<=_;rw[zba (by rw[sL];omega)];by_cases e:(Y.g g).c=c
       ·subst e;rw[zah hcl];show IntKind.i64.wrap _<=_;rw[hw];omega
       ·rw[zav e];exact h1
      ·show IntKind.i64.wrap (Y.contents+1)<=_;rw[hw2];omega
     ·rw[if_neg hs];have hct:=ih.ct;refine fin Y _ ih.ri ih.p hgl (λj g' hj _ hb=>ih.t j g' hj hb) (λg' _ hb=>ih.u g' hb) ih.cl ih.rf ?_;split
      ·exact hct
      ·split<;>omega
theorem RJ.write(h:RJ S fr pr X):RJ S fr pr (zau X i a l).1∧(zau X i a l).1.P=X.P:=by
 unfold zau;cases hn:zcI X i a l.length with
 |none=>exact⟨h,rfl⟩
 |some p=>
  simp only[];have hcn:=h.cn;have hcf:=h.cf;have hef:=h.ef;have hw:IntKind.i64.wrap (X.frames-X.contents)=X.frames-X.contents:=zae (by omega) (by omega);rw[hw];split
  ·exact⟨h,rfl⟩
  ·have:=zp7 h hn (by omega) (lR' _) hn;exact⟨this.ri,this.p⟩
end
section
variable{S S':List Nat}{fr pr:Int}{X Y Z:St}{i j k n q x g:Nat}{a b f:BitVec 32}{r:zb9}
theorem zlM{t:Bool}{p:zb9}{a n:Nat}(h:zbZ p a n t=true):a+n<=64∧∀m,m<n->(p.pages.getD (a+m) none).isSome=t:=by
 unfold zbZ at h;split at h
 ·cases h
 ·refine⟨by omega,λm hm=>?_⟩;have:=List.all_eq_true.1 h m (List.mem_range.2 hm);exact eq_of_beq this
theorem RJ.maps(h:RJ S fr pr X)(hi:i<X.P.length){a:Nat}{w s:Bool}:∀{n:Nat},a+n<=64->(∀m,m<n->(X.p i).pages.getD (a+m) none=none)->X.contents+n<=fr->
  RJ S fr pr (zdC X i w s ((List.range n).map (a+·)))∧(zdC X i w s ((List.range n).map (a+·))).contents=X.contents+n∧(zdC X i w s ((List.range n).map (a+·))).P.length=X.P.length∧∀k,a+n<=k->((zdC X i w s ((List.range n).map (a+·))).p i).pages.getD k none=(X.p i).pages.getD k none
 |0,_,_,_=>⟨h,by show X.contents=X.contents+0;omega,rfl,λ_ _=>rfl⟩
 |n+1,hn,h0,hc=>by
  obtain⟨i1,i2,i3,i4⟩:=RJ.maps h hi (n:=n) (a:=a) (w:=w) (s:=s) (by omega) (λm hm=>h0 m (by omega)) (by omega);have e:zdC X i w s ((List.range (n+1)).map (a+·))=zkN (zdC X i w s ((List.range n).map (a+·))) i (a+n) w s:=by unfold zdC;rw[List.range_succ,List.map_append,List.foldl_append];rfl
  rw[e];generalize zdC X i w s ((List.range n).map (a+·))=Y at i1 i2 i3 i4;have hw:IntKind.i64.wrap (Y.contents+1)=Y.contents+1:=by have:=i1.cn;have:=i1.cf;have:=i1.ef.2;exact zae (by omega) (by omega)
  refine⟨i1.map (by omega) (by omega) ((i4 _ (lR' _)).trans (h0 n (by omega))) (by omega),by show IntKind.i64.wrap (Y.contents+1)=_;rw[hw];omega,by show(Y.P.set _ _).length=_;rw[sL];exact i3,λk hk=>?_⟩;show((Y.P.set i _).getD i zbh).pages.getD k none=_;rw[zah (by omega)];show((Y.p i).pages.set (a+n) _).getD k none=_;rw[zav (by omega)];exact i4 k (by omega)
theorem RJ.mapPages(h:RJ S fr pr X)(hi:i<X.P.length):RJ S fr pr (zaz X i a b f).1:=by
 unfold zaz;split
 ·exact h
 ·rename_i hs;have hcn:=h.cn;have hcf:=h.cf;have hef:=h.ef;have hw:IntKind.i64.wrap (X.frames-X.contents)=X.frames-X.contents:=zae (by omega) (by omega);rw[hw];split
  ·exact h
  ·have hst:zbZ (X.p i) a.toNat b.toNat false=true:=by
    cases e:zbZ (X.p i) a.toNat b.toNat false with
    |true=>rfl
    |false=>exact absurd (.inr e) hs
   obtain⟨h1,h2⟩:=zlM hst;exact(h.maps hi h1 (λm hm=>by have:=h2 m hm;cases e:(X.p i).pages.getD (a.toNat+m) none with|none=>rfl|some g=>rw[e] at this;cases this) (by omega)).1
theorem RJ.clone1(h:RJ S fr pr X)(hj:j<X.P.length)(hk:k<64)(h0:(X.p j).pages.getD k none=none)(hg:g∈sP X):RJ S fr pr (clone1 X j k g):=by
 unfold Go.Ab.clone1;have hgl:=h.pg.lt g hg;have hcl:(X.g g).c<X.C.length:=by have:=h.pg.gc g hgl;rw[zwK] at this;simpa using this
 have hr:=h.refs hcl;have hw:IntKind.i64.wrap ((X.c (X.g g).c).refs+1)=(X.c (X.g g).c).refs+1:=zae (by omega) (by omega);rw[hw];have hp:=zv5 (r:={X.p j with pages:=(X.p j).pages.set k (some X.G.length)}) hj (by rw[(h.ln j).1];exact hk) h0 rfl;have hl:((X.p j).pages.set k (some X.G.length)).length=64:=by rw[sL];exact(h.ln j).1
 refine h.pgs (i:=j) (r:={X.p j with pages:=(X.p j).pages.set k (some X.G.length)}) (n:=X.contents) rfl rfl hl ?_ h.cf;have hc:=h.pg.clone hg;rw[zwK,zCU,lM] at hc;have e1:(X.G.set g {X.g g with cow:=cwB (X.g g)}).map (·.c)=X.G.map (·.c):=zjS (d:=zd2) rfl;rw[List.map_append,e1,List.map_set];exact hc.perm hp.symm
theorem RJ.cloneI(h:RJ S fr pr X)(hj:j<X.P.length)(hij:i≠j)(h0:∀k,(X.p j).pages.getD k none=none):∀{n:Nat},n<=64->
  RJ S fr pr (cloneI X j (X.p i).pages (List.range n))∧(cloneI X j (X.p i).pages (List.range n)).P.length=X.P.length∧(∀k,n<=k->((cloneI X j (X.p i).pages (List.range n)).p j).pages.getD k none=none)∧
  (∀m,m≠j->(cloneI X j (X.p i).pages (List.range n)).p m=X.p m)∧(∀m,((cloneI X j (X.p i).pages (List.range n)).p m).pid=(X.p m).pid∧((cloneI X j (X.p i).pages (List.range n)).p m).fds=(X.p m).fds)∧(cloneI X j (X.p i).pages (List.range n)).l=X.l∧(cloneI X j (X.p i).pages (List.range n)).next=X.next
 |0,_=>⟨h,rfl,λk _=>h0 k,λ_ _=>rfl,λ_=>⟨rfl,rfl⟩,rfl,rfl⟩
 |n+1,hn=>by
  obtain⟨i1,i2,i3,i4,i5,i6,i7⟩:=RJ.cloneI h hj hij h0 (n:=n) (by omega);have e:Go.Ab.cloneI X j (X.p i).pages (List.range (n+1))=zhz (Go.Ab.cloneI X j (X.p i).pages (List.range n)) j n ((X.p i).pages.getD n none):=by unfold Go.Ab.cloneI;rw[List.range_succ,List.foldl_append];rfl
  rw[e];generalize Go.Ab.cloneI X j (X.p i).pages (List.range n)=Y at i1 i2 i3 i4 i5 i6 i7;cases hg:(X.p i).pages.getD n none with
  |none=>exact⟨i1,i2,λk hk=>i3 k (by omega),i4,i5,i6,i7⟩
  |some g=>
   have hgY:g∈sP Y:=zp5 (i:=i) (k:=n) (by rw[i4 i hij];exact hg);have hjY:j<Y.P.length:=by omega
   have key:∀m,(Go.Ab.clone1 Y j n g).p m=if m=j then{Y.p j with pages:=(Y.p j).pages.set n (some Y.G.length)} else Y.p m:=λm=>by
    show(Y.P.set j _).getD m zbh=_;by_cases e:m=j
    ·subst e;rw[if_pos rfl];exact zah hjY
    ·rw[if_neg e];exact zav λe'=>e e'.symm
   refine⟨i1.clone1 hjY (by omega) (i3 n (lR' _)) hgY,by show(Y.P.set _ _).length=_;rw[sL];exact i2,λk hk=>?_,λm hm=>?_,λm=>?_,i6,i7⟩
   ·show((Go.Ab.clone1 Y j n g).p j).pages.getD k none=none;rw[key,if_pos rfl];show((Y.p j).pages.set n _).getD k none=none;rw[zav (by omega)];exact i3 k (by omega)
   ·show(Go.Ab.clone1 Y j n g).p m=_;rw[key,if_neg hm];exact i4 m hm
   ·show((Go.Ab.clone1 Y j n g).p m).pid=_∧((Go.Ab.clone1 Y j n g).p m).fds=_;rw[key];split
    ·rename_i e;subst e;exact i5 m
    ·exact i5 m
theorem RJ.perm(h:RJ S fr pr X)(p:S.Perm S'):RJ S' fr pr X:=⟨h.pg,h.cf,h.fi.perm p,by rw[<-p.length_eq];exact h.sl,h.ff,h.pi,h.pp,h.xp,h.ln,h.pn,h.nx,h.ef,h.ep,h.pd,h.pb,h.lk⟩
theorem RJ.fds(h:RJ S fr pr X)(hf:r.pages=(X.p i).pages)(hp:r.pid=(X.p i).pid)(hl:r.fds.length=8):RJ S fr pr {X with P:=X.P.set i r}:=by
 have hpid:∀j,(({X with P:=X.P.set i r}:St).p j).pid=(X.p j).pid:=λj=>by
  show((X.P.set i r).getD j zbh).pid=_;rw[zi1];split
  ·rename_i e;rw[hp,e.1]
  ·rfl
 refine⟨by rw[zzl hf];exact h.pg,h.cf,h.fi,h.sl,h.ff,h.pi,h.pp,h.xp,λj=>?_,by show((X.P.set i r).length:Int)<_;rw[sL];exact h.pn,h.nx,h.ef,h.ep,?_,λj hj=>?_,λj hj=>by show j<(X.P.set i r).length;rw[sL];exact h.lk j hj⟩
 ·show((X.P.set i r).getD j zbh).pages.length=64∧((X.P.set i r).getD j zbh).fds.length=8;rw[zi1];split
  ·rename_i e;exact⟨by rw[hf];exact(h.ln i).1,hl⟩
  ·exact h.ln j
 ·show(X.l.map λi_1=>(({X with P:=X.P.set i r}:St).p i_1).pid).Nodup;rw[List.map_congr_left (g:=λi=>(X.p i).pid) λj _=>hpid j];exact h.pd
 ·show(({X with P:=X.P.set i r}:St).p j).pid<_;rw[hpid];exact h.pb j hj
theorem zAj(q:Nat):(X.I.map rwI).getD q (0,0)=rwI (X.i q):=by rw[gD',gM'];show _=rwI (X.I.getD q pipe0);rw[gD'];cases X.I[q]? <;>rfl
theorem Sm.pipes{n:Int}(h:Sm X Y):Sm {X with pipes:=n} {Y with pipes:=n}:=by obtain⟨v1,v2,v3,v4,v5,v6,v7⟩:=h.v;exact⟨h.n,h.e,h.g,h.c,h.f,h.i,v1,v2,v3,rfl,v5,v6,v7⟩
theorem RJ.dropE{B W:St}{s:Int}(hB:RJ S fr pr {B with pipes:=if s=0 then B.pipes-1 else B.pipes})(hs:Sm B W)(hq:(B.i q).readers+(B.i q).writers=s)(h1:0<=B.pipes∧B.pipes<=16)(h2:0<=s∧s<=128):RJ S fr pr (dropC W q):=by
 have e:rwI (W.i q)=rwI (B.i q):=by rw[<-zAj,<-zAj,hs.i]
 have e1:(W.i q).readers=(B.i q).readers:=congrArg Prod.fst e;have e2:(W.i q).writers=(B.i q).writers:=congrArg Prod.snd e;have e3:=hs.v.2.2.2.1;unfold dropC;rw[e1,e2,hq,zae (show-9223372036854775808<=s by omega) (by omega),e3,zae (show-9223372036854775808<=B.pipes-1 by omega) (by omega)];split
 ·rename_i h0;rw[if_pos h0] at hB;exact hB.sm (Sm.pipes hs)
 ·rename_i h0;rw[if_neg h0] at hB;exact hB.sm (show Sm {B with pipes:=B.pipes} W from hs)
theorem zC0{α:Type}{p q:α->Bool}{l:List α}(h:∀x,p x=true->q x=true):l.countP p<=l.countP q:=List.countP_mono_left λx _=>h x
theorem znt{F:List zfi}{r:zfi}{n:Nat}(h:∀r∈F,r.p<n)(hr:r.p<n):∀y∈F.set x r,y.p<n:=λy hy=>(List.mem_or_eq_of_mem_set hy).elim (h y) λe=>e▸hr
theorem RJ.drop(h:RJ (x::S) fr pr X):RJ S fr pr (zcu X x):=by
 have hx:=h.fi.lt x (.head _);have hr:=h.frefs hx;have hps:=h.fi.pos (x:=x) (.head _);have hsl:S.length<=4194304:=by have:=h.sl;rw[List.length_cons] at this;omega
 have hw:IntKind.i64.wrap ((X.x x).refs-1)=(X.x x).refs-1:=zae (by omega) (by omega);have hxp:(X.x x).p<X.I.length:=by refine h.xp _ ?_;show X.F.getD x zaE∈X.F;rw[gD',gE' hx];exact List.getElem_mem hx
 unfold zcu;rw[hw];split
 ·rename_i h0;exact⟨h.pg,h.cf,h.fi.less h0 rfl,hsl,h.ff,h.pi.same hx (by exact(decide_eq_true h0).trans (decide_eq_true (show 0<(X.F.getD x zaE).refs by omega)).symm) rfl rfl,h.pp,znt h.xp hxp,h.ln,h.pn,h.nx,h.ef,h.ep,h.pd,h.pb,h.lk⟩
 ·rename_i h0;have h0':(X.F.getD x zaE).refs-1=0:=by show(X.x x).refs-1=0;have:1<=(X.x x).refs:=hps;omega
  have hfn:=h.fn;have hff:=h.ff;have hwf:IntKind.i64.wrap (X.files-1)=X.files-1:=zae (by omega) (by omega);have hF:=h.fi.last h0' rfl;have hfp:1<=X.files:=by rw[h.fi.ct];have:0<X.F.countP λr=>decide (0<r.refs):=List.countP_pos_iff.2 ⟨X.F.getD x zaE,by rw[gD',gE' hx];exact List.getElem_mem hx,decide_eq_true (show 0<(X.F.getD x zaE).refs by omega)⟩;omega
  have hP:=h.pi.last hx (show 0<(X.F.getD x zaE).refs by omega) (r:={X.x x with refs:=(X.x x).refs-1}) h0' rfl (by simpa using hxp) rfl rfl;rw[show(X.F.getD x zaE).p=(X.x x).p from rfl,zAj] at hP;have hrd:=h.pi.rd (X.x x).p (by simpa using hxp);have hwr:=h.pi.wr (X.x x).p (by simpa using hxp);rw[zAj] at hrd hwr;have hrd:(X.i (X.x x).p).readers=((X.F.countP (rdB (X.x x).p):Nat):Int):=hrd;have hwr:(X.i (X.x x).p).writers=((X.F.countP (wrB (X.x x).p):Nat):Int):=hwr;have hle1:X.F.countP (rdB (X.x x).p)<=X.F.countP λr=>decide (0<r.refs):=zC0 λr hr=>by unfold rdB at hr;rw[bT] at hr;exact hr.1
  have hle2:X.F.countP (wrB (X.x x).p)<=X.F.countP λr=>decide (0<r.refs):=zC0 λr hr=>by unfold wrB at hr;rw[bT] at hr;exact hr.1
  have hct:=h.fi.ct;have hpp:=h.pp;have hpq:=h.pq;have hmem:X.F.getD x zaE∈X.F:=by rw[gD',gE' hx];exact List.getElem_mem hx
  have hp16:∀s:Int,(if s=0 then X.pipes-1 else X.pipes)<=16:=λs=>by split<;>omega
  have fin:∀{r' w':Int},(X.I.set (X.x x).p {X.i (X.x x).p with readers:=r',writers:=w'}).map rwI=zhZ (X.I.map rwI) (X.x x).p (X.x x).write->r'+w'=(X.i (X.x x).p).readers+(X.i (X.x x).p).writers-1->
    RJ S fr pr {X with F:=X.F.set x {X.x x with refs:=(X.x x).refs-1},files:=X.files-1,I:=X.I.set (X.x x).p {X.i (X.x x).p with readers:=r',writers:=w'},pipes:=if r'+w'=0 then X.pipes-1 else X.pipes}:=λ{r' w'} e1 e2=>
   ⟨h.pg,h.cf,hF,hsl,by show X.files-1<=64;omega,by show PiI _ ((X.I.set _ _).map rwI) _;rw[e1,e2];exact hP,hp16 _,by show∀r∈X.F.set x _,r.p<(X.I.set _ _).length;rw[sL];exact znt h.xp hxp,h.ln,h.pn,h.nx,h.ef,h.ep,h.pd,h.pb,h.lk⟩
  have hBi:∀{r' w':Int},((X.I.set (X.x x).p {X.i (X.x x).p with readers:=r',writers:=w'}).getD (X.x x).p pipe0)={X.i (X.x x).p with readers:=r',writers:=w'}:=zah hxp;rw[hwf];cases hwr':(X.x x).write with
  |true=>
   rw[if_pos rfl];have hpos:1<=(X.i (X.x x).p).writers:=by rw[hwr];have:0<X.F.countP (wrB (X.x x).p):=List.countP_pos_iff.2 ⟨X.F.getD x zaE,hmem,by unfold wrB;rw[decide_eq_true (show 0<(X.F.getD x zaE).refs by omega),show(X.F.getD x zaE).write=true from hwr'];exact decide_eq_true rfl⟩;omega
   have hww:IntKind.i64.wrap ((X.i (X.x x).p).writers-1)=(X.i (X.x x).p).writers-1:=zae (by omega) (by omega);rw[hww];refine RJ.dropE (s:=(X.i (X.x x).p).readers+((X.i (X.x x).p).writers-1)) (fin (r':=(X.i (X.x x).p).readers) (w':=(X.i (X.x x).p).writers-1) ?_ (by omega)) (Sm.ite (λ_=>Sm.wake) λ_=>Sm.refl) ?_ ⟨hpq,hpp⟩ (by omega)
   ·rw[hwr',List.map_set];unfold zhZ;rw[if_pos rfl,zAj];rfl
   ·show((X.I.set _ _).getD _ pipe0).readers+((X.I.set _ _).getD _ pipe0).writers=_;rw[zah hxp]
  |false=>
   rw[if_neg (by simp)];have hpos:1<=(X.i (X.x x).p).readers:=by rw[hrd];have:0<X.F.countP (rdB (X.x x).p):=List.countP_pos_iff.2 ⟨X.F.getD x zaE,hmem,by unfold rdB;rw[decide_eq_true (show 0<(X.F.getD x zaE).refs by omega),show(X.F.getD x zaE).write=false from hwr'];exact decide_eq_true rfl⟩;omega
   have hww:IntKind.i64.wrap ((X.i (X.x x).p).readers-1)=(X.i (X.x x).p).readers-1:=zae (by omega) (by omega);rw[hww];refine RJ.dropE (s:=(X.i (X.x x).p).readers-1+(X.i (X.x x).p).writers) (fin (r':=(X.i (X.x x).p).readers-1) (w':=(X.i (X.x x).p).writers) ?_ (by omega)) (Sm.ite (λ_=>Sm.wake) λ_=>Sm.refl) ?_ ⟨hpq,hpp⟩ (by omega)
   ·rw[hwr',List.map_set];unfold zhZ;rw[if_neg (by simp),zAj];rfl
   ·show((X.I.set _ _).getD _ pipe0).readers+((X.I.set _ _).getD _ pipe0).writers=_;rw[zah hxp]
end
section
variable{S S':List Nat}{fr pr:Int}{X Y Z:St}{i j k n q x g:Nat}{a b f v:BitVec 32}{r:zb9}{c pid:Int}
theorem zHA(h:Y.P=X.P):sF Y=sF X:=by unfold sF upF St.p;rw[h]
theorem RI.of(h:RJ (sF X) fr pr Y)(e:sF Y=sF X):RI fr pr Y:=by show RJ (sF Y) fr pr Y;rw[e];exact h
theorem zzL:sF (zbi X i k)=sF X:=by
 unfold zbi;cases(X.p i).pages.getD k none with
 |none=>rfl
 |some g=>exact zsb (X:=X) (i:=i) (r:={X.p i with pages:=(X.p i).pages.set k none}) rfl
theorem zmN:∀{l:List Nat} {X:St},sF (zaY X i l)=sF X
 |[],_=>rfl
 |a::l,X=>(zmN (l:=l) (X:=zbi X i a)).trans zzL
theorem RI.unmaps(h:RI fr pr X){l:List Nat}:RI fr pr (zaY X i l):=RI.of (RJ.unmaps h) zmN
theorem zHa{w s:Bool}:sF (zkN X i k w s)=sF X:=zsb (X:=X) (i:=i) (r:={X.p i with pages:=(X.p i).pages.set k (some X.G.length)}) rfl
theorem zvI{w s:Bool}:∀{l:List Nat} {X:St},sF (zdC X i w s l)=sF X
 |[],_=>rfl
 |a::l,X=>(zvI (l:=l) (X:=zkN X i a w s)).trans zHa
theorem RI.mapPages(h:RI fr pr X)(hi:i<X.P.length):RI fr pr (zaz X i a b f).1:=RI.of (RJ.mapPages h hi) (by
 unfold zaz;split
 ·rfl
 ·split
  ·rfl
  ·exact zvI)
theorem RI.unmapPages(h:RI fr pr X){a n:Nat}:RI fr pr (zaX X i a n).1:=by
 unfold zaX;split
 ·exact RI.unmaps h
 ·exact h
theorem zwb{l:List (BitVec 8)}:∀{k:Nat},∃G C n,zcJ X i a l k={X with G:=G,C:=C,contents:=n}
 |0=>⟨X.G,X.C,X.contents,rfl⟩
 |k+1=>by
  obtain⟨G,C,n,e⟩:=zwb (k:=k);show∃G C n,putB (zcJ X i a l k) i a k (l.getD k 0#8)=_;rw[e];unfold putB;cases atX _ _ with
  |none=>exact⟨G,C,n,rfl⟩
  |some g=>
   simp only[];split
   ·exact⟨_,_,_,rfl⟩
   ·exact⟨_,_,_,rfl⟩
theorem zqw{l:List (BitVec 8)}:∃G C n,(zau X i a l).1={X with G:=G,C:=C,contents:=n}:=by
 unfold zau;cases zcI X i a l.length with
 |none=>exact⟨X.G,X.C,X.contents,rfl⟩
 |some p=>
  simp only[];split
  ·exact⟨X.G,X.C,X.contents,rfl⟩
  ·exact zwb
theorem RI.write(h:RI fr pr X){l:List (BitVec 8)}:RI fr pr (zau X i a l).1:=RI.of (RJ.write h).1 (zHA (RJ.write h).2)
theorem zuo{l:List (Option Nat)}(h:l.getD k none=none):l.set k none=l:=by
 apply List.ext_getElem?;intro m;rw[List.getElem?_set];split
 ·rename_i e;subst e;split
  ·rename_i hk;rw[gD',gE' hk] at h;rw[gE' hk];exact congrArg some h.symm
  ·rename_i hk;rw[List.getElem?_eq_none (by omega)]
 ·rfl
theorem zvS:∀m,((zcu X x).p m).fds=(X.p m).fds:=λm=>by
 have hd:∀(W:St) (q:Nat),(dropC W q).p m=W.p m:=λW q=>by unfold dropC;split<;>rfl
 have hw:∀(B:St) (p:Prop) [Decidable p] (w:Int) (q:Nat),((if p then zcx B w q else B).p m).fds=(B.p m).fds:=λB p _ w q=>((Sm.ite (λ_=>Sm.wake) λ_=>Sm.refl:Sm B (if p then zcx B w q else B)).e m).2.1;unfold zcu;split
 ·rfl
 ·split
  ·rw[hd,hw]
  ·rw[hd,hw]
theorem zDl:(zcu X x).P.length=X.P.length:=by
 have hd:∀(W:St) (q:Nat),(dropC W q).P=W.P:=λW q=>by unfold dropC;split<;>rfl
 have hw:∀(B:St) (p:Prop) [Decidable p] (w:Int) (q:Nat),(if p then zcx B w q else B).P.length=B.P.length:=λB p _ w q=>(Sm.ite (λ_=>Sm.wake) λ_=>Sm.refl:Sm B (if p then zcx B w q else B)).n;unfold zcu;split
 ·rfl
 ·split
  ·rw[hd,hw]
  ·rw[hd,hw]
theorem zwt:sF (zcu X x)=sF X:=by unfold sF;rw[zDl];exact zdm λm _=>by unfold upF;rw[zvS]
theorem RI.fdNone(h:RI fr pr X)(hx:(X.p i).fds.getD k none=some x):RJ (x::sF {X with P:=X.P.set i {X.p i with fds:=(X.p i).fds.set k none}}) fr pr {X with P:=X.P.set i {X.p i with fds:=(X.p i).fds.set k none}}:=by
 have hl:((X.p i).fds.set k none).length=8:=by rw[sL];exact(h.ln i).2
 exact(RJ.fds h (i:=i) (r:={X.p i with fds:=(X.p i).fds.set k none}) rfl rfl hl).perm (zDV hx rfl)
theorem znL{o:Option Nat}{m:Nat}(hm:m≠k):(({X with P:=X.P.set i {X.p i with fds:=(X.p i).fds.set k o}}:St).p i).fds.getD m none=(X.p i).fds.getD m none:=by
 show(((X.P.set i _).getD i zbh).fds).getD m none=_;rw[zi1];split
 ·exact zav λe=>hm e.symm
 ·rfl
theorem RI.close(h:RI fr pr X){o:Option Nat}(hx:(X.p i).fds.getD k none=o):RI fr pr (zeT X i k o)∧∀m,m≠k->((zeT X i k o).p i).fds.getD m none=(X.p i).fds.getD m none:=by
 cases o with
 |none=>exact⟨h.sm (Sm.setP (r:={X.p i with fds:=(X.p i).fds.set k none}) ⟨rfl,zuo hx,rfl⟩),λm hm=>znL hm⟩
 |some x=>have h1:=(RI.fdNone h hx).drop;exact⟨by show RJ (sF (zcu _ x)) fr pr _;rw[zwt];exact h1,λm hm=>by show((zcu _ x).p i).fds.getD m none=_;rw[zvS];exact znL hm⟩
theorem RI.closes(h:RI fr pr X):∀{n:Nat},RI fr pr (zaO X i (X.p i).fds (List.range n))∧∀m,n<=m->((zaO X i (X.p i).fds (List.range n)).p i).fds.getD m none=(X.p i).fds.getD m none
 |0=>⟨h,λ_ _=>rfl⟩
 |n+1=>by
  obtain⟨i1,i2⟩:=RI.closes h (n:=n);have e:zaO X i (X.p i).fds (List.range (n+1))=zeT (zaO X i (X.p i).fds (List.range n)) i n ((X.p i).fds.getD n none):=by unfold zaO;rw[List.range_succ,List.foldl_append];rfl
  rw[e];obtain⟨k1,k2⟩:=i1.close (i:=i) (k:=n) (i2 n (lR' _));exact⟨k1,λm hm=>(k2 m (by omega)).trans (i2 m (by omega))⟩
theorem RI.exit(h:RI fr pr X):RI fr pr (zjR X i v):=by have hA:RI fr pr (exitA X i v):=RI.unmaps (((h.sm Sm.see).sm Sm.ready).sm Sm.dead);exact RI.sm (RI.closes hA (i:=i) (n:=8)).1 Sm.exitB
theorem zss:∀{n:Nat} {F:List (Option Nat)},RJ S fr pr X->(∀x∈F.filterMap id,x∈S)->S.length+8<=4194304->n<=8->∃S',RJ S' fr pr (sharesX X F (List.range n))∧S'.Perm (((List.range n).filterMap λk=>F.getD k none)++S)∧(sharesX X F (List.range n)).P=X.P∧(sharesX X F (List.range n)).l=X.l
 |0,_,h,_,_,_=>⟨S,h,List.Perm.refl _,rfl,rfl⟩
 |n+1,F,h,hF,hs,hn=>by
  obtain⟨S1,i1,i2,i3,i4⟩:=zss (n:=n) h hF hs (by omega);have e:sharesX X F (List.range (n+1))=shareS (sharesX X F (List.range n)) (F.getD n none):=by unfold sharesX;rw[List.range_succ,List.foldl_append];rfl
  rw[e,List.range_succ,List.filterMap_append];have e1:∀o,F.getD n none=o-> [n].filterMap (λk=>F.getD k none)=o.toList:=λo ho=>by simp only[List.filterMap_cons,ho];cases o<;>rfl
  rw[e1 _ rfl];generalize sharesX X F (List.range n)=Y at i1 i3 i4;cases hg:F.getD n none with
  |none=>exact⟨S1,i1,by rw[show(none:Option Nat).toList=[] from rfl,List.append_nil];exact i2,i3,i4⟩
  |some x=>
   have hx:x∈S1:=i2.mem_iff.2 (aD' _ (hF x (zlt hg)));have hxl:=i1.fi.lt x hx;have hr:=i1.frefs hxl;have hw:IntKind.i64.wrap ((Y.x x).refs+1)=(Y.x x).refs+1:=zae (by omega) (by omega);have hlen:S1.length<=n+S.length:=by rw[i2.length_eq,aL];have:=List.length_filterMap_le (λk=>F.getD k none) (List.range n);rw[List.length_range] at this;omega
   have hxm:Y.x x∈Y.F:=by show Y.F.getD x zaE∈_;rw[gD',gE' hxl];exact List.getElem_mem hxl
   have hpos:1<=(Y.F.getD x zaE).refs:=i1.fi.pos hx;refine⟨x::S1,?_,?_,i3,i4⟩
   ·show RJ (x::S1) fr pr {Y with F:=Y.F.set x {Y.x x with refs:=IntKind.i64.wrap ((Y.x x).refs+1)}};rw[hw];exact⟨i1.pg,i1.cf,i1.fi.more hx rfl,by rw[List.length_cons];omega,i1.ff,i1.pi.same hxl (by exact(decide_eq_true (show 0<(Y.x x).refs+1 by omega)).trans (decide_eq_true (show 0<(Y.F.getD x zaE).refs by omega)).symm) rfl rfl,i1.pp,znt i1.xp (show(Y.x x).p<_ from i1.xp _ hxm),i1.ln,i1.pn,i1.nx,i1.ef,i1.ep,i1.pd,i1.pb,i1.lk⟩
   ·rw[show(some x).toList=[x] from rfl,aA];exact(List.Perm.cons x i2).trans (List.perm_middle (l₁:=(List.range n).filterMap λk=>F.getD k none)).symm
end
section
variable{S S':List Nat}{fr pr:Int}{X Y Z:St}{i j k n q x g:Nat}{a b f v:BitVec 32}{r:zb9}{c pid:Int}
theorem zG5{r:zb9}:({X with P:=X.P++ [r],next:=c}:St).p i=if i=X.P.length then r else X.p i:=by
 show(X.P++ [r]).getD i zbh=_;split
 ·rename_i e;subst e;exact zbk
 ·rename_i e;rcases Nat.lt_or_ge i X.P.length with h|h
  ·exact zba h
  ·show _=X.P.getD i zbh;rw[gD',List.getElem?_eq_none (by rw[aL,List.length_singleton];omega),gD',List.getElem?_eq_none h]
theorem zcK:(forkA X i).p j=if j=X.P.length then zfL X i else X.p j:=zG5
theorem zrw{n:Nat}:(List.replicate n (none:Option Nat)).filterMap id=[]:=by
 induction n with
 |zero=>rfl
 |succ n ih=>rw[List.replicate_succ,List.filterMap_cons];exact ih
theorem zxr:sP (forkA X i)=sP X:=by
 unfold sP;show(List.range (X.P++ [zfL X i]).length).flatMap _=_;rw[aL,List.length_singleton,List.range_succ,List.flatMap_append];have e1:[X.P.length].flatMap (upG (forkA X i))=[]:=by
  have:upG (forkA X i) X.P.length=[]:=by unfold upG;rw[zcK,if_pos rfl];exact zrw
  simp[this]
 rw[e1,List.append_nil];exact zdm λm hm=>by unfold upG;rw[zcK,if_neg (by omega)]
theorem zw8:sF (forkA X i)=sF X++upF X i:=by
 unfold sF;show(List.range (X.P++ [zfL X i]).length).flatMap _=_;rw[aL,List.length_singleton,List.range_succ,List.flatMap_append];have e1:[X.P.length].flatMap (upF (forkA X i))=upF X i:=by
  have:upF (forkA X i) X.P.length=upF X i:=by unfold upF;rw[zcK,if_pos rfl];rfl
  simp[this]
 rw[e1];congr 1;exact zdm λm hm=>by unfold upF;rw[zcK,if_neg (by omega)]
theorem ztI{l:List (Option Nat)}:(List.range l.length).filterMap (λk=>l.getD k none)=l.filterMap id:=by
 have e:(List.range l.length).map (λk=>l.getD k none)=l:=by apply List.ext_getElem (by simp);intro k h1 h2;rw[List.getElem_map,List.getElem_range,gD',gE' h2];rfl
 have e2:(List.range l.length).filterMap (λk=>l.getD k none)=((List.range l.length).map λk=>l.getD k none).filterMap id:=by rw[List.filterMap_map];rfl
 rw[e2,e]
set_option maxHeartbeats 2000000 in
theorem RI.fork(h:RI fr pr X)(hi:i<X.P.length):RI fr pr (zhT X i):=by
 unfold zhT;split
 ·exact h.sm Sm.code
 ·rename_i hg;have hnx:=h.nx;have hpn:=h.pn;have hw:IntKind.i64.wrap (X.next+1)=X.next+1:=zae (by omega) (by omega);have hlF:(sF X).length<=524280:=by have h1:=zrx (f:=upF X) (z:=8) (λi=>lT (List.length_filterMap_le _ _) (by rw[(h.ln i).2];exact lR' _)) (n:=X.P.length);unfold sF;omega
  have hA:RJ (sF X) fr pr (forkA X i):=by
   refine⟨by rw[zxr];exact h.pg,h.cf,h.fi,h.sl,h.ff,h.pi,h.pp,h.xp,λm=>?_,?_,?_,h.ef,h.ep,?_,λm hm=>?_,λm hm=>?_⟩
   ·rw[zcK];split
    ·exact⟨List.length_replicate,(h.ln i).2⟩
    ·exact h.ln m
   ·show((X.P++ [_]).length:Int)<IntKind.i64.wrap (X.next+1);rw[hw,aL,List.length_singleton];omega
   ·show IntKind.i64.wrap (X.next+1)<=_;rw[hw];omega
   ·show(X.l.map λm=>((forkA X i).p m).pid).Nodup;rw[List.map_congr_left (g:=λm=>(X.p m).pid) λm hm=>by rw[zcK,if_neg (by have:=h.lk m hm;omega)]];exact h.pd
   ·show((forkA X i).p m).pid<IntKind.i64.wrap (X.next+1);have hm:m∈X.l:=hm;rw[zcK,if_neg (by have:=h.lk m hm;omega),hw];have:=h.pb m hm;omega
   ·show m<(X.P++ [_]).length;rw[aL];have:=h.lk m hm;omega
  have hj:X.P.length<(forkA X i).P.length:=by show _<(X.P++ [_]).length;rw[aL,List.length_singleton];omega
  obtain⟨c1,c2,_,c4,c5,c6,c7⟩:=hA.cloneI (i:=i) hj (by omega) (λk=>by rw[zcK,if_pos rfl];exact zjj) (lR' 64);rw[show cloneI (forkA X i) X.P.length ((forkA X i).p i).pages (List.range 64)=zbq X i from rfl] at c1 c2 c4 c5 c6 c7;have hfds:((zbq X i).p X.P.length).fds=(X.p i).fds:=by rw[(c5 _).2,zcK,if_pos rfl];rfl
  obtain⟨S',s1,s2,s3,s4⟩:=zss (n:=8) (F:=((zbq X i).p X.P.length).fds) c1 (λx hx=>by rw[hfds] at hx;exact List.mem_flatMap.2 ⟨i,List.mem_range.2 hi,hx⟩) (by omega) (lR' 8);rw[show sharesX (zbq X i) ((zbq X i).p X.P.length).fds (List.range 8)=zcQ (zbq X i) X.P.length from rfl] at s1 s3 s4;have hSF:S'.Perm (sF (zcQ (zbq X i) X.P.length)):=by
   refine s2.trans ?_;have e1:sF (zcQ (zbq X i) X.P.length)=sF X++upF X i:=by rw[zHA s3,<-zw8];unfold sF;rw[c2];exact zdm λm _=>by unfold upF;rw[(c5 m).2]
   have e2:((List.range 8).filterMap λk=>((zbq X i).p X.P.length).fds.getD k none)=upF X i:=by rw[hfds];have:=ztI (l:=(X.p i).fds);rw[(h.ln i).2] at this;exact this
   rw[e1,e2];exact List.perm_append_comm
  have hC:RI fr pr (zcQ (zbq X i) X.P.length):=RJ.perm s1 hSF;have hD:RI fr pr (zcC (zcQ (zbq X i) X.P.length) X.P.length):=RI.sm hC (Sm.setP ⟨rfl,rfl,rfl⟩);have pidD:∀m,((zcC (zcQ (zbq X i) X.P.length) X.P.length).p m).pid=((forkA X i).p m).pid:=λm=>by have e1:Sm (zcQ (zbq X i) X.P.length) (zcC (zcQ (zbq X i) X.P.length) X.P.length):=Sm.setP ⟨rfl,rfl,rfl⟩;rw[(e1.e m).2.2];show((zcQ (zbq X i) X.P.length).P.getD m zbh).pid=_;rw[s3];exact(c5 m).1
  have lD:(zcC (zcQ (zbq X i) X.P.length) X.P.length).l=X.l:=s4.trans c6;have nD:(zcC (zcQ (zbq X i) X.P.length) X.P.length).P.length=X.P.length+1:=by show((zcQ (zbq X i) X.P.length).P.set _ _).length=_;rw[sL,s3,c2];show(X.P++ [_]).length=_;rw[aL];rfl
  have xD:X.next<(zcC (zcQ (zbq X i) X.P.length) X.P.length).next:=by
   have:∀{l:List Nat} {F:List (Option Nat)} {Y:St},(sharesX Y F l).next=Y.next:=λ{l}=>by
    induction l with
    |nil=>intro F Y;rfl
    |cons a l ih=>intro F Y;show(sharesX (shareS Y (F.getD a none)) F l).next=_;rw[ih];cases F.getD a none<;>rfl
   have e0:∀(V:St) (j:Nat),(zcC V j).next=V.next:=λ_ _=>rfl;have e1:∀(V:St) (j:Nat),(zcQ V j).next=V.next:=λV j=>by unfold zcQ;exact this
   have e2:(forkA X i).next=IntKind.i64.wrap (X.next+1):=rfl;rw[e0,e1,c7,e2,hw];omega
  generalize zcC (zcQ (zbq X i) X.P.length) X.P.length=W at hD pidD lD nD xD;have hE:RI fr pr (zlv W X.P.length):=by
   refine⟨hD.pg,hD.cf,hD.fi,hD.sl,hD.ff,hD.pi,hD.pp,hD.xp,hD.ln,hD.pn,hD.nx,hD.ef,hD.ep,?_,λm hm=>?_,λm hm=>?_⟩
   ·show((W.l++ [X.P.length]).map λm=>(W.p m).pid).Nodup;rw[List.map_append,List.nodup_append];refine⟨hD.pd,by simp,λy hy z hz e=>?_⟩;obtain⟨m,hm,rfl⟩:=List.mem_map.1 hy;simp only[List.map_cons,List.map_nil,List.mem_singleton] at hz;subst hz;rw[lD] at hm;rw[pidD,pidD,zcK,zcK,if_pos rfl,if_neg (by have:=h.lk m hm;omega)] at e;have:=h.pb m hm;have e2:(zfL X i).pid=X.next:=rfl;omega
   ·have hm:m∈W.l++ [X.P.length]:=hm;rcases List.mem_append.1 hm with hm|hm
    ·exact hD.pb m hm
    ·rw[List.mem_singleton.1 hm];show(W.p X.P.length).pid<W.next;rw[pidD,zcK,if_pos rfl];exact xD
   ·have hm:m∈W.l++ [X.P.length]:=hm;show m<W.P.length;rcases List.mem_append.1 hm with hm|hm
    ·exact hD.lk m hm
    ·rw[List.mem_singleton.1 hm];omega
  exact RI.sm hE Sm.answer
theorem RI.cut(h:RI fr pr X):RI fr pr {X with l:=X.l.take k++X.l.drop (k+1)}:=by
 have hs:(X.l.take k++X.l.drop (k+1)).Sublist X.l:=by
  have h1:(X.l.drop (k+1)).Sublist (X.l.drop k):=by rw[<-List.drop_drop];exact List.drop_sublist 1 _
  have:=List.Sublist.append (List.Sublist.refl (X.l.take k)) h1;rwa[List.take_append_drop] at this
 exact⟨h.pg,h.cf,h.fi,h.sl,h.ff,h.pi,h.pp,h.xp,h.ln,h.pn,h.nx,h.ef,h.ep,(hs.map _).nodup h.pd,λm hm=>h.pb m (hs.subset hm),λm hm=>h.lk m (hs.subset hm)⟩
theorem RI.waitB{W:St×Int}(h:RI fr pr W.1):RI fr pr (waitB W i k):=by
 unfold Go.Ab.waitB;split
 ·exact RI.sm (RI.cut h) Sm.answer
 ·exact h.sm Sm.code
theorem RI.wait(h:RI fr pr X):RI fr pr (zgy X i a):=by
 unfold zgy;split
 ·exact h.sm Sm.code
 ·split
  ·exact h.sm (Sm.setP ⟨rfl,rfl,rfl⟩)
  ·refine RI.waitB ?_;split
   ·exact h
   ·exact h.write
theorem zjk{F:List (Option Nat)}{m:Nat}(h:m∈zc0 F k):m<k∧F.getD m none=none:=by
 unfold zc0 at h;obtain⟨h1,h2⟩:=List.mem_filter.1 h;refine⟨List.mem_range.1 h1,?_⟩;cases e:F.getD m none with
 |none=>rfl
 |some x=>rw[e] at h2;cases h2
theorem zyD{F:List (Option Nat)}:(zc0 F k).Nodup:=List.Sublist.nodup List.filter_sublist List.nodup_range
theorem zhF{l:List Nat}{m:Nat}(h:m<l.length):l.getD m 0∈l:=by rw[gD',gE' h];exact List.getElem_mem h
theorem zz4{l:List Nat}(hd:l.Nodup)(h:2<=l.length):l.getD 0 0≠l.getD 1 0:=by
 match l,h with
 |a::b::l,_=>have:=(List.nodup_cons.1 hd).1;exact λe=>this (by rw[show a=b from e];exact List.mem_cons_self)
theorem RI.pipe(h:RI fr pr X)(hi:i<X.P.length){F:List Nat}(hF:F=zc0 (X.p i).fds 8):RI fr pr (zkC X i a F):=by
 unfold zkC;split
 ·exact h.sm Sm.code
 ·rename_i h2;split
  ·exact h.sm Sm.code
  ·rename_i h3;have hw:=h.write (i:=i) (a:=a) (l:=zf4 F);obtain⟨G,C,n,eW⟩:=zqw (X:=X) (i:=i) (a:=a) (l:=zf4 F);unfold zlO;split
   ·rw[eW] at hw⊢;refine RI.sm (X:=pipeA _ i (F.getD 0 0) (F.getD 1 0)) ?_ Sm.answer;generalize hY:({X with G:=G,C:=C,contents:=n}:St)=Y at hw⊢;have yp:Y.P=X.P:=by rw[<-hY]
    have yf:Y.files=X.files:=by rw[<-hY]
    have yq:Y.pipes=X.pipes:=by rw[<-hY]
    have hfn:=h.fn;have hpq:=h.pq;have hpp:=h.pp;have q0:F.getD 0 0∈zc0 (X.p i).fds 8:=by rw[<-hF];exact zhF (by omega)
    have q1:F.getD 1 0∈zc0 (X.p i).fds 8:=by rw[<-hF];exact zhF (by omega)
    have m0:=zjk q0;have m1:=zjk q1;clear q0 q1;have ne:F.getD 0 0≠F.getD 1 0:=zz4 (hF▸zyD) (by omega);generalize F.getD 0 0=a0 at m0 ne;generalize F.getD 1 0=a1 at m1 ne;have yi:Y.p i=X.p i:=by show Y.P.getD i zbh=_;rw[yp]
    have hiY:i<Y.P.length:=by rw[yp];exact hi
    have l8:=(hw.ln i).2;have w1:IntKind.i64.wrap (Y.pipes+1)=Y.pipes+1:=zae (by omega) (by omega);have w2:IntKind.i64.wrap (Y.files+2)=Y.files+2:=zae (by omega) (by omega);have eA:pipeA Y i a0 a1={Y with pipes:=Y.pipes+1,files:=Y.files+2,I:=Y.I++ [⟨[],1,1⟩],F:=(Y.F++ [⟨Y.I.length,false,1⟩])++ [⟨Y.I.length,true,1⟩],P:=(Y.P.set i {Y.p i with fds:=(Y.p i).fds.set a0 (some Y.F.length)}).set i {Y.p i with fds:=((Y.p i).fds.set a0 (some Y.F.length)).set a1 (some (Y.F.length+1))}}:=by unfold pipeA addF zdj;rw[w1,w2];have e1:((Y.P.set i {Y.p i with fds:=(Y.p i).fds.set a0 (some Y.F.length)}).getD i zbh)={Y.p i with fds:=(Y.p i).fds.set a0 (some Y.F.length)}:=zah hiY;simp only[St.p] at e1⊢;rw[e1,aL,List.length_singleton]
    rw[eA];have h0:(Y.p i).fds.getD a0 none=none:=by rw[yi];exact m0.2
    have h1:((Y.p i).fds.set a0 (some Y.F.length)).getD a1 none=none:=by rw[zav ne,yi];exact m1.2
    have p1:=zsZ (X:=Y) (i:=i) (k:=a0) (g:=Y.F.length) (r:={Y.p i with fds:=(Y.p i).fds.set a0 (some Y.F.length)}) hiY (by omega) h0 rfl;have p2:=zsZ (X:={Y with P:=Y.P.set i {Y.p i with fds:=(Y.p i).fds.set a0 (some Y.F.length)}}) (i:=i) (k:=a1) (g:=Y.F.length+1) (r:={Y.p i with fds:=((Y.p i).fds.set a0 (some Y.F.length)).set a1 (some (Y.F.length+1))}) (by show i<(Y.P.set _ _).length;rw[sL];exact hiY) (by rw[zfr hiY];show a1<((Y.p i).fds.set _ _).length;rw[sL];omega) (by rw[zfr hiY];exact h1) (by rw[zfr hiY]);have hS:=p2.trans (List.Perm.cons _ p1);have f1:=hw.fi.new (r:=⟨Y.I.length,false,1⟩) rfl;have f2:=f1.new (r:=⟨Y.I.length,true,1⟩) rfl;rw[aL,List.length_singleton] at f2;have hl1:(sF Y).length<=4194304:=hw.sl;have rj1:RJ (sF Y) fr pr {Y with P:=Y.P.set i {Y.p i with fds:=(Y.p i).fds.set a0 (some Y.F.length)}}:=RJ.fds hw (i:=i) (r:={Y.p i with fds:=(Y.p i).fds.set a0 (some Y.F.length)}) rfl rfl (by show((Y.p i).fds.set _ _).length=8;rw[sL];exact l8);have rj2:=RJ.fds rj1 (i:=i) (r:={Y.p i with fds:=((Y.p i).fds.set a0 (some Y.F.length)).set a1 (some (Y.F.length+1))}) (by rw[zfr hiY]) (by rw[zfr hiY]) (by show(((Y.p i).fds.set _ _).set _ _).length=8;rw[sL,sL];exact l8);have pn:=hw.pi.new (λr hr=>by rw[lM];exact hw.xp r hr);rw[lM] at pn;have key:RJ ((Y.F.length+1)::Y.F.length::sF Y) fr pr {Y with pipes:=Y.pipes+1,files:=Y.files+2,I:=Y.I++ [⟨[],1,1⟩],F:=(Y.F++ [⟨Y.I.length,false,1⟩])++ [⟨Y.I.length,true,1⟩],P:=(Y.P.set i {Y.p i with fds:=(Y.p i).fds.set a0 (some Y.F.length)}).set i {Y.p i with fds:=((Y.p i).fds.set a0 (some Y.F.length)).set a1 (some (Y.F.length+1))}}:=by
     refine⟨rj2.pg,rj2.cf,by show FiI _ _ (Y.files+2);rw[show Y.files+2=Y.files+1+1 by omega];exact f2,?_,by show Y.files+2<=64;omega,by show PiI _ ((Y.I++ [_]).map rwI) _;rw[List.map_append];exact pn,by show Y.pipes+1<=16;omega,λr hr=>?_,rj2.ln,rj2.pn,rj2.nx,rj2.ef,rj2.ep,rj2.pd,rj2.pb,rj2.lk⟩
     ·have hlen:=zrx (f:=upF Y) (z:=8) (λi=>lT (List.length_filterMap_le _ _) (by rw[(hw.ln i).2];exact lR' _)) (n:=Y.P.length);have:=hw.pn;have:=hw.nx;have:(sF Y).length<=524280:=by unfold sF;omega
      rw[List.length_cons,List.length_cons];omega
     ·show r.p<(Y.I++ [_]).length;rw[aL,List.length_singleton];rcases List.mem_append.1 hr with hr|hr
      ·rcases List.mem_append.1 hr with hr|hr
       ·have:=hw.xp r hr;omega
       ·rw[List.mem_singleton.1 hr];show Y.I.length<_;omega
      ·rw[List.mem_singleton.1 hr];show Y.I.length<_;omega
    exact key.perm hS.symm
   ·exact hw.sm Sm.code
theorem Sm.setB{bb:List (BitVec 8)}:Sm X {X with I:=X.I.set q {X.i q with b:=bb}}:=Sm.setI rfl
theorem RI.read(h:RI fr pr X):RI fr pr (zgl X i q a b):=by
 unfold zgl;split
 ·exact h.sm Sm.code
 ·split
  ·exact h.sm (Sm.setP ⟨rfl,rfl,rfl⟩)
  ·unfold zlS;split
   ·refine RI.sm (RI.write h (i:=i) (a:=a) (l:=(X.i q).b.take (rdK X q b))) (Sm.trans ?_ Sm.answer);unfold zld;exact Sm.ite (λ_=>Sm.trans Sm.setB Sm.wake) λ_=>Sm.refl
   ·exact RI.sm (RI.write h (i:=i) (a:=a) (l:=(X.i q).b.take (rdK X q b))) Sm.code
theorem RI.writeP(h:RI fr pr X):RI fr pr (zel X i q a b):=by
 unfold zel;split
 ·exact h.sm Sm.code
 ·split
  ·exact h.sm Sm.code
  ·split
   ·exact h.sm (Sm.setP ⟨rfl,rfl,rfl⟩)
   ·cases zdE X i a (min b.toNat (wrR X q)) with
    |none=>exact h.sm Sm.code
    |some l=>refine h.sm (Sm.trans ?_ Sm.answer);unfold wrY;exact Sm.ite (λ_=>Sm.trans Sm.setB Sm.wake) λ_=>Sm.refl
theorem RI.closeF(h:RI fr pr X)(hx:(X.p i).fds.getD k none=some x):RI fr pr (closeF X i k x):=by
 have h1:=((RI.fdNone h hx).sm (Sm.answer (i:=i) (v:=0#32))).drop;have e:sF (Go.Ab.closeF X i k x)=sF {X with P:=X.P.set i {X.p i with fds:=(X.p i).fds.set k none}}:=by unfold Go.Ab.closeF;rw[zwt,Sm.sF Sm.answer];rfl
 show RJ (sF (Go.Ab.closeF X i k x)) fr pr _;rw[e];exact h1
theorem RI.dup(h:RI fr pr X)(hi:i<X.P.length)(hx:x∈sF X)(hk:k<8)(h0:(X.p i).fds.getD k none=none):RI fr pr (zEn X i x k):=by
 have hxl:=h.fi.lt x hx;have hr:=h.frefs hxl;have hw:IntKind.i64.wrap ((X.x x).refs+1)=(X.x x).refs+1:=zae (by omega) (by omega);have hxm:X.x x∈X.F:=by show X.F.getD x zaE∈_;rw[gD',gE' hxl];exact List.getElem_mem hxl
 have hpos:1<=(X.F.getD x zaE).refs:=h.fi.pos hx;have l8:=(h.ln i).2;have hA:RJ (x::sF X) fr pr (zo3 X x):=by
  unfold zo3;rw[hw];refine⟨h.pg,h.cf,h.fi.more hx rfl,?_,h.ff,h.pi.same hxl (by exact(decide_eq_true (show 0<(X.x x).refs+1 by omega)).trans (decide_eq_true (show 0<(X.F.getD x zaE).refs by omega)).symm) rfl rfl,h.pp,znt h.xp (show(X.x x).p<_ from h.xp _ hxm),h.ln,h.pn,h.nx,h.ef,h.ep,h.pd,h.pb,h.lk⟩;have hlen:=zrx (f:=upF X) (z:=8) (λi=>lT (List.length_filterMap_le _ _) (by rw[(h.ln i).2];exact lR' _)) (n:=X.P.length);have:=h.pn;have:=h.nx;have:(sF X).length<=524280:=by unfold sF;omega
  rw[List.length_cons];omega
 have hB:=RJ.fds hA (i:=i) (r:={X.p i with fds:=(X.p i).fds.set k (some x)}) rfl rfl (by show((X.p i).fds.set _ _).length=8;rw[sL];exact l8);have p1:=zsZ (X:=zo3 X x) (i:=i) (k:=k) (g:=x) (r:={X.p i with fds:=(X.p i).fds.set k (some x)}) hi (by show k<(X.p i).fds.length;omega) h0 rfl;have hC:RI fr pr (fdS (zo3 X x) i k (some x)):=RJ.perm hB (show(x::sF X).Perm (sF (fdS (zo3 X x) i k (some x))) from p1.symm);exact RI.sm hC Sm.answer
theorem RI.files(h:RI fr pr X)(hi:i<X.P.length){a0 a1 a2:BitVec 32}:RI fr pr (zhg X i c a0 a1 a2):=by
 unfold zhg zbI;split
 ·exact h.pipe hi rfl
 ·cases he:zwy X i a0 with
  |none=>exact h.sm Sm.code
  |some x=>
   have hx:(X.p i).fds.getD a0.toNat none=some x:=by
    unfold zwy at he;split at he
    ·cases he
    ·exact he
   simp only[];split
   ·exact h.read
   ·split
    ·exact h.writeP
    ·split
     ·exact RI.closeF h hx
     ·split
      ·exact h.sm Sm.code
      ·split
       ·exact h.sm Sm.code
       ·rename_i hF;have m0:=zjk (zhF (l:=zc0 (X.p i).fds 8) (m:=0) (by omega));exact h.dup hi (zCV hx) m0.1 m0.2
theorem Sm.sleep:Sm X (zvU X i a):=Sm.setP ⟨rfl,rfl,rfl⟩
theorem Sm.aff:Sm X (zDY X i a):=Sm.ite (λ_=>Sm.code) λ_=>Sm.trans (Sm.setP (i:=i) (r:={X.p i with aff:=a}) ⟨rfl,rfl,rfl⟩) Sm.answer
theorem Sm.print:Sm X (znG X i a):=Sm.see.trans (Sm.setP ⟨rfl,rfl,rfl⟩)
theorem RI.others(h:RI fr pr X)(hi:i<X.P.length){a0 a1 a2:BitVec 32}:RI fr pr (zeX X i c a0 a1 a2):=by
 unfold zeX;split
 ·exact h.exit
 split
 ·exact h.fork hi
 split
 ·exact h.wait
 split
 ·exact h.sm Sm.answer
 split
 ·exact h.sm Sm.answer
 split
 ·split
  ·exact h.sm Sm.answer
  ·exact h.sm Sm.sleep
 split
 ·exact h.sm Sm.answer
 split
 ·exact RI.sm (h.mapPages hi) Sm.code
 split
 ·exact RI.sm h.unmapPages Sm.code
 split
 ·exact h.sm Sm.aff
 split
 ·exact h.sm Sm.print
 ·exact h
theorem RI.call(h:RI fr pr X)(hi:i<X.P.length):RI fr pr (zmw X i):=by
 unfold zmw;split
 ·unfold zu4;split
  ·exact h.files hi
  ·split
   ·exact h.sm Sm.sigs
   ·split
    ·exact h.sm Sm.futex
    ·exact h.others hi
 ·exact h.sm Sm.code
theorem RI.core(h:RI fr pr X):RI fr pr (zdJ X i).X∧(zdJ X i).X.P=X.P:=by
 have hw:∀(a:BitVec 32) (l:List (BitVec 8)),RI fr pr (zau X i a l).1∧(zau X i a l).1.P=X.P:=λa l=>⟨h.write,(RJ.write h).2⟩;have hn:RI fr pr X∧X.P=X.P:=⟨h,rfl⟩;unfold zdJ;split
 ·unfold zoH;simp only
  repeat' split
  all_goals first|exact hn|exact hw _ _
 ·exact hn
theorem RI.step(h:RI fr pr X)(hi:i<X.P.length):RI fr pr (ziT X i):=by
 unfold ziT zul;have hs:∀s,Sm X (ziP X i s):=λs=>Sm.sig;split
 ·exact RI.exit (h.sm (hs _))
 ·split
  ·exact RI.sm (h.sm Sm.hand) Sm.see
  ·have h1:=RI.core (i:=i) (h.sm (hs (zbd (X.p i).sig).2.2));unfold zvx;split
   ·exact RI.call h1.1 (by rw[h1.2];show i<(X.P.set _ _).length;rw[sL];exact hi)
   ·split
    ·exact RI.exit h1.1
    ·split
     ·exact RI.exit h1.1
     ·exact RI.sm h1.1 (Sm.setP ⟨rfl,rfl,rfl⟩)
theorem RI.run(h:RI fr pr X):RI fr pr (ztT X pid).X:=by
 unfold ztT;split
 ·exact h
 ·cases hl:zbO X pid with
  |none=>exact h
  |some i=>
   rw[zmM];split
   ·exact RI.sm (h.step (h.lk i (zgz hl))) Sm.told
   ·exact h
theorem RI.op(h:RI fr pr X){o:OpR}:RI fr pr (opX X o):=by
 unfold opX;split
 ·exact h.run
 split
 ·unfold zmz;split
  ·exact h
  ·exact RI.sm (h.sm Sm.tickI) Sm.told
 split
 ·unfold zzF;split
  ·exact h
  ·split
   ·exact h
   ·exact RI.sm (h.sm Sm.post) Sm.told
 ·exact h
theorem RI.wrds(h:RI fr pr X){l:List (BitVec 32)}:∀{n:Nat},RI fr pr (wrds X l n)
 |0=>h
 |n+1=>by
  have e:Go.Ab.wrds X l (n+1)=(zau (Go.Ab.wrds X l n) 0 (BitVec.ofNat 32 (n*4)) (zb4 (l.getD n 0#32))).1:=by unfold Go.Ab.wrds;rw[List.range_succ,List.foldl_append];rfl
  rw[e];exact(RI.wrds h (n:=n)).write
theorem RI.new0{b:zff}(hb:zzz b):RI b.frames b.procs (new0 b):=by
 obtain⟨⟨h1,h2,h3,h4⟩,_⟩:=hb;have p0:∀i,((Go.Ab.new0 b).p i).pages=List.replicate 64 none∧((Go.Ab.new0 b).p i).fds=List.replicate 8 none:=λi=>by
  show(([zg0 b]:List zb9).getD i zbh).pages=_∧(([zg0 b]:List zb9).getD i zbh).fds=_;cases i with
  |zero=>exact⟨rfl,rfl⟩
  |succ i=>exact⟨rfl,rfl⟩
 have eP:sP (Go.Ab.new0 b)=[]:=by unfold sP;refine List.flatMap_eq_nil_iff.2 λi _=>?_;unfold upG;rw[(p0 i).1];exact zrw
 have eF:sF (Go.Ab.new0 b)=[]:=by unfold sF;refine List.flatMap_eq_nil_iff.2 λi _=>?_;unfold upF;rw[(p0 i).2];exact zrw
 refine⟨by rw[eP];exact⟨List.nodup_nil,λg hg=>(by cases hg),λg hg=>(by cases hg),λc hc=>(by cases hc),rfl⟩,by show(0:Int)<=_;omega,by rw[eF];exact⟨λx hx=>(by cases hx),λx hx=>(by cases hx),rfl⟩,by rw[eF];exact Nat.zero_le _,by show(0:Int)<=64;decide,⟨λq hq=>(by cases hq),λq hq=>(by cases hq),rfl⟩,by show(0:Int)<=16;decide,λr hr=>(by cases hr),λi=>by rw[(p0 i).1,(p0 i).2];exact⟨rfl,rfl⟩,by show(1:Int)<2;decide,by show(2:Int)<=65536;decide,⟨rfl,by omega⟩,rfl,List.nodup_nil,λi hi=>(by cases hi),λi hi=>(by cases hi)⟩
structure Kp(X Y:St):Prop where
 n:Y.P.length=X.P.length
 p:∀m,(Y.p m).pid=(X.p m).pid
 x:Y.next=X.next
theorem Kp.trans(h:Kp X Y)(k:Kp Y Z):Kp X Z:=⟨k.n.trans h.n,λm=>(k.p m).trans (h.p m),k.x.trans h.x⟩
theorem Kp.map{w s:Bool}:Kp X (zkN X i k w s):=⟨sL,λm=>by
 show((X.P.set i _).getD m zbh).pid=_;rw[zi1];split
 ·rename_i e;rw[<-e.1]
 ·rfl,rfl⟩
theorem Kp.maps{w s:Bool}:∀{l:List Nat} {X:St},Kp X (zdC X i w s l)
 |[],_=>⟨rfl,λ_=>rfl,rfl⟩
 |a::l,X=>Kp.trans (Kp.map (k:=a)) (Kp.maps (l:=l))
theorem Kp.mapPages:Kp X (zaz X i a b f).1:=by
 unfold zaz;split
 ·exact⟨rfl,λ_=>rfl,rfl⟩
 ·split
  ·exact⟨rfl,λ_=>rfl,rfl⟩
  ·exact Kp.maps
theorem Kp.write{l:List (BitVec 8)}:Kp X (zau X i a l).1:=by obtain⟨G,C,n,e⟩:=zqw (X:=X) (i:=i) (a:=a) (l:=l);rw[e];exact⟨rfl,λ_=>rfl,rfl⟩
theorem Kp.wrds{l:List (BitVec 32)}:∀{n:Nat},Kp X (wrds X l n)
 |0=>⟨rfl,λ_=>rfl,rfl⟩
 |n+1=>by
  have e:Go.Ab.wrds X l (n+1)=(zau (Go.Ab.wrds X l n) 0 (BitVec.ofNat 32 (n*4)) (zb4 (l.getD n 0#32))).1:=by unfold Go.Ab.wrds;rw[List.range_succ,List.foldl_append];rfl
  rw[e];exact(Kp.wrds (n:=n)).trans Kp.write
theorem RI.new{b:zff}(hb:zzz b):RI b.frames b.procs (zy5 b):=by
 have h:=RI.wrds (RI.mapPages (RI.new0 hb) (i:=0) (a:=0#32) (b:=BitVec.ofNat 32 (zjW b.prog.length)) (f:=1#32) (by show 0<1;decide)) (l:=b.prog) (n:=b.prog.length);have hK:Kp (Go.Ab.new0 b) (Go.Ab.wrds (zaz (Go.Ab.new0 b) 0 0#32 (BitVec.ofNat 32 (zjW b.prog.length)) 1#32).1 b.prog b.prog.length):=Kp.mapPages.trans Kp.wrds;show RI _ _ {Go.Ab.wrds (zaz (Go.Ab.new0 b) 0 0#32 (BitVec.ofNat 32 (zjW b.prog.length)) 1#32).1 b.prog b.prog.length with l:=[0]};generalize Go.Ab.wrds (zaz (Go.Ab.new0 b) 0 0#32 (BitVec.ofNat 32 (zjW b.prog.length)) 1#32).1 b.prog b.prog.length=W at h hK;exact⟨h.pg,h.cf,h.fi,h.sl,h.ff,h.pi,h.pp,h.xp,h.ln,h.pn,h.nx,h.ef,h.ep,by show([0].map _).Nodup;simp,λm hm=>by
  rw[show m=0 from List.mem_singleton.1 hm];show(W.p 0).pid<W.next;rw[hK.p,hK.x];show(1:Int)<2;decide,λm hm=>by
  rw[show m=0 from List.mem_singleton.1 hm];show 0<W.P.length;rw[hK.n];show 0<1;decide⟩
end
end
end Go.Ab
