/- Part. -/
import Derived.Test.YtdhcheegbnnlbaaGreatDoorR11
set_option linter.all false
open Go.Ab.Mem renaming next_bump → bN, next_put → nP, get_bump → gB, get_put → gP
open Nat renaming le_of_ble_eq_true → bA, le_add_right_of_le → lA, lt_of_lt_of_le → lL, le_refl → lR', le_trans → lT
open List renaming getD_eq_getElem?_getD → gD', getElem?_eq_getElem → gE', length_append → aL, append_assoc → aA, getElem?_append_left → aB', getElem?_append_right → aC', getElem?_map → gM', length_map → lM, length_set → sL
open Bool renaming and_eq_true → bT, false_eq_true → bF
open Go.Ab.CallI renaming ex2 → cX, con0 → cZ
open Go.Ab.Cells renaming ofList → ofL
open Go.Ab.View renaming temps → vT
open Go.Ab.Be renaming trans → bE
open Nat renaming reduceLT → yA, reduceEqDiff → yB, reduceAdd → yC, reduceMul → yD, reduceSub → yE, reducePow → yF, reduceLeDiff → yG
open Int renaming reduceEq → yH, reduceLT → yI, reduceLE → yJ
namespace Go.Ab
open Go.Proofs
noncomputable section
set_option maxHeartbeats 4000000
set_option maxRecDepth 10000
section
variable{m m' M mr:Mem}{n:Nat}{L L' L1 L2:Loc}{X X' X1 X2 Y:St}{v:Value}{fl:List Value}{pid:Int}
theorem zpX{α:Type}{a b c d:List α}(h:a.Perm b)(e1:a=c)(e2:b=d):c.Perm d:=by rw[<-e1,<-e2];exact h
theorem za8{α:Type}{l k:List α}{i:Nat}{d:α}(h:i<l.length):(l++k).getD i d=l.getD i d:=by rw[gD',gD',aB' h]
theorem zaA{α:Type}{l:List α}{a d:α}:(l++ [a]).getD l.length d=a:=by rw[gD',aC' (lR' _),Nat.sub_self];rfl
theorem FAt.add_p(h:FAt m L X)(hg:GX X){b:Nat}(hb:¬L.D b)(hlt:b<m.next)(h64:64<=b){cs:Cells}{r:zb9}(hr:PC L r cs)(hx:PX X r):FAt (m.put b (.cells cs true 0)) {L with P:=L.P++ [b],D:=λy=>L.D y∨y=b} {X with P:=X.P++ [r]}:=by
 have hid:b∉L.ids:=λe=>hb (h.dm _ e);have hne:∀y∈L.ids,¬y=b:=λy hy e=>hid (e▸hy);have hlP:=h.lP;have hk:∀j,j<X.P.length->(L.P++ [b]).getD j 0=L.P.getD j 0:=λj hj=>zce (by omega);have hperm:({L with P:=L.P++ [b],D:=λy=>L.D y∨y=b}:Loc).ids.Perm (b::L.ids):=by
  unfold Loc.ids;show List.Perm (L.f::((L.P++ [b])++(L.G++(L.C++(L.I++(L.F)))))) (b::(L.f::(L.P++(L.G++(L.C++(L.I++(L.F)))))))
  try simp only[aA,List.singleton_append]
  exact zpX (List.perm_middle (l₁:=L.f::(L.P)) (l₂:=L.G++(L.C++(L.I++(L.F)))) (a:=b)) (by simp[aA]) (by simp[aA])
 have hsd:∀{z n:Nat} {v:Value} {fl:List Value},SlV m z v n fl->(∀y,slB v=some y->L.D y)->SlV (m.put b (.cells cs true 0)) z v n fl:=λ{z n v fl} hv hd=>hv.keep λy o hy ho=>by rw[gP,if_neg (λe:y=b=>hb (by rw[<-e];exact hd y hy))];exact ho
 refine⟨?_,λj hj=>?_,λj hj=>?_,λj hj=>?_,λj hj=>?_,λj hj=>?_,by simp[hlP],h.lG,h.lC,h.lI,h.lF,h.lb,hperm.nodup_iff.2 (List.nodup_cons.2 ⟨hid,h.nd⟩),λy hy=>?_,by have:=hsd h.ls h.dl;rw[List.map_congr_left (g:=λi=>PT (L.p i)) λj hj=>congrArg PT (hk j (h.pi j hj))];exact this,by have:=hsd h.fs h.df;rw[List.map_congr_left (g:=λi=>PT (L.p i)) λj hj=>congrArg PT (hk j (h.pf j hj))];exact this,hsd h.ss h.ds,λj hj=>hsd (h.bs j hj) λy=>h.db j y hj,λy hy=> .inl (h.dl y hy),λy hy=> .inl (h.df y hy),λy hy=> .inl (h.ds y hy),λj y hj hy=> .inl (h.db j y hj hy),h.sep,λy hy=>?_,λy hy=>?_,λj hj=>by have:=h.pi j hj;show j<(X.P++ [r]).length;rw[aL];omega,λj hj=>by have:=h.pf j hj;show j<(X.P++ [r]).length;rw[aL];omega⟩
 ·obtain⟨c1,a1,a2⟩:=h.fl;exact⟨c1,by rw[gP,if_neg (hne _ h.mf)];exact a1,⟨a2.n,a2.cores,a2.frames,a2.procs,a2.cap,a2.prog,a2.lv,a2.fv,a2.contents,a2.files,a2.pipes,a2.next,a2.halted,a2.sv⟩⟩
 ·have hj':j<X.P.length+1:=by simpa using hj
  by_cases e:j<X.P.length
  ·have hj:=e;obtain⟨c1,a1,a2⟩:=h.pr j e;refine⟨c1,?_,?_⟩
   ·show(m.put b _).get ((L.P++ [b]).getD j 0)=_;rw[hk j e,gP,if_neg (hne _ (h.mp e))];exact a1
   ·show PC _ ((X.P++ [r]).getD j zbh) c1;rw[za8 e];exact a2.move rfl (λ_ _=>rfl) (λ_ _ _=>rfl) (λ_ _ _=>rfl) (λ_ _=>rfl) (λq hq=>hk q (hg.fp j hj q hq))
  ·obtain rfl:j=X.P.length:=by omega
   refine⟨cs,?_,?_⟩
   ·show(m.put b _).get ((L.P++ [b]).getD X.P.length 0)=_;rw[<-hlP,zaA,gP,if_pos rfl]
   ·show PC _ ((X.P++ [r]).getD X.P.length zbh) cs;rw[zaA];exact hr.move rfl (λ_ _=>rfl) (λ_ _ _=>rfl) (λ_ _ _=>rfl) (λ_ _=>rfl) (λq hq=>hk q (hx.fp q hq))
 ·obtain⟨c1,a1,a2⟩:=h.pg j hj;exact⟨c1,by rw[gP,if_neg (hne _ (h.mg hj))];exact a1,a2.move (rfl)⟩
 ·obtain⟨c1,a1,a2⟩:=h.ct j hj;exact⟨c1,by rw[gP,if_neg (hne _ (h.mc hj))];exact a1,a2.move⟩
 ·obtain⟨c1,a1,a2⟩:=h.ip j hj;exact⟨c1,by rw[gP,if_neg (hne _ (h.mi hj))];exact a1,a2⟩
 ·obtain⟨c1,a1,a2⟩:=h.xs j hj;exact⟨c1,by rw[gP,if_neg (hne _ (h.mx hj))];exact a1,a2.move (rfl)⟩
 ·rcases List.mem_cons.1 (hperm.mem_iff.1 hy) with e|e
  ·exact .inr e
  ·exact .inl (h.dm _ e)
 ·rcases hy with hy|rfl
  ·rw[nP];exact h.lt y hy
  ·rw[nP];exact hlt
 ·rcases hy with hy|rfl
  ·exact h.d64 y hy
  ·exact h64
theorem FAt.add_g(h:FAt m L X)(hg:GX X){b:Nat}(hb:¬L.D b)(hlt:b<m.next)(h64:64<=b){cs:Cells}{r:zk0}(hr:GC L r cs)(hx:r.c<X.C.length):FAt (m.put b (.cells cs true 0)) {L with G:=L.G++ [b],D:=λy=>L.D y∨y=b} {X with G:=X.G++ [r]}:=by
 have hid:b∉L.ids:=λe=>hb (h.dm _ e);have hne:∀y∈L.ids,¬y=b:=λy hy e=>hid (e▸hy);have hlG:=h.lG;have hk:∀j,j<X.G.length->(L.G++ [b]).getD j 0=L.G.getD j 0:=λj hj=>zce (by omega);have hperm:({L with G:=L.G++ [b],D:=λy=>L.D y∨y=b}:Loc).ids.Perm (b::L.ids):=by
  unfold Loc.ids;show List.Perm (L.f::(L.P++((L.G++ [b])++(L.C++(L.I++(L.F)))))) (b::(L.f::(L.P++(L.G++(L.C++(L.I++(L.F)))))))
  try simp only[aA,List.singleton_append]
  exact zpX (List.perm_middle (l₁:=L.f::(L.P++L.G)) (l₂:=L.C++(L.I++(L.F))) (a:=b)) (by simp[aA]) (by simp[aA])
 have hsd:∀{z n:Nat} {v:Value} {fl:List Value},SlV m z v n fl->(∀y,slB v=some y->L.D y)->SlV (m.put b (.cells cs true 0)) z v n fl:=λ{z n v fl} hv hd=>hv.keep λy o hy ho=>by rw[gP,if_neg (λe:y=b=>hb (by rw[<-e];exact hd y hy))];exact ho
 refine⟨?_,λj hj=>?_,λj hj=>?_,λj hj=>?_,λj hj=>?_,λj hj=>?_,h.lP,by simp[hlG],h.lC,h.lI,h.lF,h.lb,hperm.nodup_iff.2 (List.nodup_cons.2 ⟨hid,h.nd⟩),λy hy=>?_,hsd h.ls h.dl,hsd h.fs h.df,hsd h.ss h.ds,λj hj=>hsd (h.bs j hj) λy=>h.db j y hj,λy hy=> .inl (h.dl y hy),λy hy=> .inl (h.df y hy),λy hy=> .inl (h.ds y hy),λj y hj hy=> .inl (h.db j y hj hy),h.sep,λy hy=>?_,λy hy=>?_,h.pi,h.pf⟩
 ·obtain⟨c1,a1,a2⟩:=h.fl;exact⟨c1,by rw[gP,if_neg (hne _ h.mf)];exact a1,⟨a2.n,a2.cores,a2.frames,a2.procs,a2.cap,a2.prog,a2.lv,a2.fv,a2.contents,a2.files,a2.pipes,a2.next,a2.halted,a2.sv⟩⟩
 ·obtain⟨c1,a1,a2⟩:=h.pr j hj;exact⟨c1,by rw[gP,if_neg (hne _ (h.mp hj))];exact a1,a2.move rfl (λ_ _=>rfl) (λ_ _ _=>rfl) (λk x hx=>hk x ((hg.pg j hj).2 k x hx)) (λ_ _=>rfl) (λ_ _=>rfl)⟩
 ·have hj':j<X.G.length+1:=by simpa using hj
  by_cases e:j<X.G.length
  ·have hj:=e;obtain⟨c1,a1,a2⟩:=h.pg j e;refine⟨c1,?_,?_⟩
   ·show(m.put b _).get ((L.G++ [b]).getD j 0)=_;rw[hk j e,gP,if_neg (hne _ (h.mg e))];exact a1
   ·show GC _ ((X.G++ [r]).getD j zd2) c1;rw[za8 e];exact a2.move (rfl)
  ·obtain rfl:j=X.G.length:=by omega
   refine⟨cs,?_,?_⟩
   ·show(m.put b _).get ((L.G++ [b]).getD X.G.length 0)=_;rw[<-hlG,zaA,gP,if_pos rfl]
   ·show GC _ ((X.G++ [r]).getD X.G.length zd2) cs;rw[zaA];exact hr.move rfl
 ·obtain⟨c1,a1,a2⟩:=h.ct j hj;exact⟨c1,by rw[gP,if_neg (hne _ (h.mc hj))];exact a1,a2.move⟩
 ·obtain⟨c1,a1,a2⟩:=h.ip j hj;exact⟨c1,by rw[gP,if_neg (hne _ (h.mi hj))];exact a1,a2⟩
 ·obtain⟨c1,a1,a2⟩:=h.xs j hj;exact⟨c1,by rw[gP,if_neg (hne _ (h.mx hj))];exact a1,a2.move (rfl)⟩
 ·rcases List.mem_cons.1 (hperm.mem_iff.1 hy) with e|e
  ·exact .inr e
  ·exact .inl (h.dm _ e)
 ·rcases hy with hy|rfl
  ·rw[nP];exact h.lt y hy
  ·rw[nP];exact hlt
 ·rcases hy with hy|rfl
  ·exact h.d64 y hy
  ·exact h64
theorem FAt.add_c(h:FAt m L X)(hg:GX X){b:Nat}(hb:¬L.D b)(hlt:b<m.next)(h64:64<=b){cs:Cells}{r:znq}(hr:CC L r cs):FAt (m.put b (.cells cs true 0)) {L with C:=L.C++ [b],D:=λy=>L.D y∨y=b} {X with C:=X.C++ [r]}:=by
 have hid:b∉L.ids:=λe=>hb (h.dm _ e);have hne:∀y∈L.ids,¬y=b:=λy hy e=>hid (e▸hy);have hlC:=h.lC;have hk:∀j,j<X.C.length->(L.C++ [b]).getD j 0=L.C.getD j 0:=λj hj=>zce (by omega);have hperm:({L with C:=L.C++ [b],D:=λy=>L.D y∨y=b}:Loc).ids.Perm (b::L.ids):=by
  unfold Loc.ids;show List.Perm (L.f::(L.P++(L.G++((L.C++ [b])++(L.I++(L.F)))))) (b::(L.f::(L.P++(L.G++(L.C++(L.I++(L.F)))))))
  try simp only[aA,List.singleton_append]
  exact zpX (List.perm_middle (l₁:=L.f::(L.P++L.G++L.C)) (l₂:=L.I++(L.F)) (a:=b)) (by simp[aA]) (by simp[aA])
 have hsd:∀{z n:Nat} {v:Value} {fl:List Value},SlV m z v n fl->(∀y,slB v=some y->L.D y)->SlV (m.put b (.cells cs true 0)) z v n fl:=λ{z n v fl} hv hd=>hv.keep λy o hy ho=>by rw[gP,if_neg (λe:y=b=>hb (by rw[<-e];exact hd y hy))];exact ho
 refine⟨?_,λj hj=>?_,λj hj=>?_,λj hj=>?_,λj hj=>?_,λj hj=>?_,h.lP,h.lG,by simp[hlC],h.lI,h.lF,h.lb,hperm.nodup_iff.2 (List.nodup_cons.2 ⟨hid,h.nd⟩),λy hy=>?_,hsd h.ls h.dl,hsd h.fs h.df,hsd h.ss h.ds,λj hj=>hsd (h.bs j hj) λy=>h.db j y hj,λy hy=> .inl (h.dl y hy),λy hy=> .inl (h.df y hy),λy hy=> .inl (h.ds y hy),λj y hj hy=> .inl (h.db j y hj hy),h.sep,λy hy=>?_,λy hy=>?_,h.pi,h.pf⟩
 ·obtain⟨c1,a1,a2⟩:=h.fl;exact⟨c1,by rw[gP,if_neg (hne _ h.mf)];exact a1,⟨a2.n,a2.cores,a2.frames,a2.procs,a2.cap,a2.prog,a2.lv,a2.fv,a2.contents,a2.files,a2.pipes,a2.next,a2.halted,a2.sv⟩⟩
 ·obtain⟨c1,a1,a2⟩:=h.pr j hj;exact⟨c1,by rw[gP,if_neg (hne _ (h.mp hj))];exact a1,a2.move rfl (λ_ _=>rfl) (λ_ _ _=>rfl) (λ_ _ _=>rfl) (λq hq=>hk q (hg.fc j hj q hq)) (λ_ _=>rfl)⟩
 ·obtain⟨c1,a1,a2⟩:=h.pg j hj;exact⟨c1,by rw[gP,if_neg (hne _ (h.mg hj))];exact a1,a2.move (hk _ (hg.gc j hj))⟩
 ·have hj':j<X.C.length+1:=by simpa using hj
  by_cases e:j<X.C.length
  ·have hj:=e;obtain⟨c1,a1,a2⟩:=h.ct j e;refine⟨c1,?_,?_⟩
   ·show(m.put b _).get ((L.C++ [b]).getD j 0)=_;rw[hk j e,gP,if_neg (hne _ (h.mc e))];exact a1
   ·show CC _ ((X.C++ [r]).getD j zfa) c1;rw[za8 e];exact a2.move
  ·obtain rfl:j=X.C.length:=by omega
   refine⟨cs,?_,?_⟩
   ·show(m.put b _).get ((L.C++ [b]).getD X.C.length 0)=_;rw[<-hlC,zaA,gP,if_pos rfl]
   ·show CC _ ((X.C++ [r]).getD X.C.length zfa) cs;rw[zaA];exact hr.move
 ·obtain⟨c1,a1,a2⟩:=h.ip j hj;exact⟨c1,by rw[gP,if_neg (hne _ (h.mi hj))];exact a1,a2⟩
 ·obtain⟨c1,a1,a2⟩:=h.xs j hj;exact⟨c1,by rw[gP,if_neg (hne _ (h.mx hj))];exact a1,a2.move (rfl)⟩
 ·rcases List.mem_cons.1 (hperm.mem_iff.1 hy) with e|e
  ·exact .inr e
  ·exact .inl (h.dm _ e)
 ·rcases hy with hy|rfl
  ·rw[nP];exact h.lt y hy
  ·rw[nP];exact hlt
 ·rcases hy with hy|rfl
  ·exact h.d64 y hy
  ·exact h64
theorem FAt.add_i(h:FAt m L X)(hg:GX X){b:Nat}(hb:¬L.D b)(hlt:b<m.next)(h64:64<=b){cs:Cells}{r:zpG}(hr:IC v r cs)(hsl:SlV m 1 v r.b.length (r.b.map By))(hvn:∀y,slB v≠some y):FAt (m.put b (.cells cs true 0)) {L with I:=L.I++ [b],bv:=L.bv++ [v],D:=λy=>L.D y∨y=b} {X with I:=X.I++ [r]}:=by
 have hid:b∉L.ids:=λe=>hb (h.dm _ e);have hne:∀y∈L.ids,¬y=b:=λy hy e=>hid (e▸hy);have hlI:=h.lI;have hk:∀j,j<X.I.length->(L.I++ [b]).getD j 0=L.I.getD j 0:=λj hj=>zce (by omega);have hperm:({L with I:=L.I++ [b],bv:=L.bv++ [v],D:=λy=>L.D y∨y=b}:Loc).ids.Perm (b::L.ids):=by
  unfold Loc.ids;show List.Perm (L.f::(L.P++(L.G++(L.C++((L.I++ [b])++(L.F)))))) (b::(L.f::(L.P++(L.G++(L.C++(L.I++(L.F)))))))
  try simp only[aA,List.singleton_append]
  exact zpX (List.perm_middle (l₁:=L.f::(L.P++L.G++L.C++L.I)) (l₂:=L.F) (a:=b)) (by simp[aA]) (by simp[aA])
 have hsd:∀{z n:Nat} {v:Value} {fl:List Value},SlV m z v n fl->(∀y,slB v=some y->L.D y)->SlV (m.put b (.cells cs true 0)) z v n fl:=λ{z n v fl} hv hd=>hv.keep λy o hy ho=>by rw[gP,if_neg (λe:y=b=>hb (by rw[<-e];exact hd y hy))];exact ho
 refine⟨?_,λj hj=>?_,λj hj=>?_,λj hj=>?_,λj hj=>?_,λj hj=>?_,h.lP,h.lG,h.lC,by simp[hlI],h.lF,by simp[h.lb],hperm.nodup_iff.2 (List.nodup_cons.2 ⟨hid,h.nd⟩),λy hy=>?_,hsd h.ls h.dl,hsd h.fs h.df,hsd h.ss h.ds,λj hj=>?_,λy hy=> .inl (h.dl y hy),λy hy=> .inl (h.df y hy),λy hy=> .inl (h.ds y hy),λj y hj hy=>?_,λy hy=>⟨(h.sep y hy).1,λj hj=>?_⟩,λy hy=>?_,λy hy=>?_,h.pi,h.pf⟩
 ·obtain⟨c1,a1,a2⟩:=h.fl;exact⟨c1,by rw[gP,if_neg (hne _ h.mf)];exact a1,⟨a2.n,a2.cores,a2.frames,a2.procs,a2.cap,a2.prog,a2.lv,a2.fv,a2.contents,a2.files,a2.pipes,a2.next,a2.halted,a2.sv⟩⟩
 ·obtain⟨c1,a1,a2⟩:=h.pr j hj;exact⟨c1,by rw[gP,if_neg (hne _ (h.mp hj))];exact a1,a2.move rfl (λq hq=>hk q (hg.pp j hj q hq)) (λ_ _ _=>rfl) (λ_ _ _=>rfl) (λ_ _=>rfl) (λ_ _=>rfl)⟩
 ·obtain⟨c1,a1,a2⟩:=h.pg j hj;exact⟨c1,by rw[gP,if_neg (hne _ (h.mg hj))];exact a1,a2.move (rfl)⟩
 ·obtain⟨c1,a1,a2⟩:=h.ct j hj;exact⟨c1,by rw[gP,if_neg (hne _ (h.mc hj))];exact a1,a2.move⟩
 ·have hj':j<X.I.length+1:=by simpa using hj
  by_cases e:j<X.I.length
  ·have hj:=e;obtain⟨c1,a1,a2⟩:=h.ip j e;refine⟨c1,?_,?_⟩
   ·show(m.put b _).get ((L.I++ [b]).getD j 0)=_;rw[hk j e,gP,if_neg (hne _ (h.mi e))];exact a1
   ·show IC ((L.bv++ [v]).getD j (.slice none 0 0)) ((X.I++ [r]).getD j pipe0) c1;rw[za8 (by rw[h.lb];exact e),za8 e];exact a2
  ·obtain rfl:j=X.I.length:=by omega
   refine⟨cs,?_,?_⟩
   ·show(m.put b _).get ((L.I++ [b]).getD X.I.length 0)=_;rw[<-hlI,zaA,gP,if_pos rfl]
   ·show IC ((L.bv++ [v]).getD X.I.length (.slice none 0 0)) ((X.I++ [r]).getD X.I.length pipe0) cs;rw[zaA,<-h.lb,zaA];exact hr
 ·obtain⟨c1,a1,a2⟩:=h.xs j hj;exact⟨c1,by rw[gP,if_neg (hne _ (h.mx hj))];exact a1,a2.move (hk _ (hg.xp j hj))⟩
 ·rcases List.mem_cons.1 (hperm.mem_iff.1 hy) with e|e
  ·exact .inr e
  ·exact .inl (h.dm _ e)
 ·have hj':j<X.I.length+1:=by simpa using hj
  show SlV _ 1 ((L.bv++ [v]).getD j (.slice none 0 0)) ((X.I++ [r]).getD j pipe0).b.length (((X.I++ [r]).getD j pipe0).b.map By);by_cases e:j<X.I.length
  ·rw[za8 (by rw[h.lb];exact e),za8 e];exact hsd (h.bs j e) λy=>h.db j y e
  ·obtain rfl:j=X.I.length:=by omega
   rw[zaA,<-h.lb,zaA];exact hsl.keep λy o hy _=>absurd hy (hvn y)
 ·have hj':j<X.I.length+1:=by simpa using hj
  have hy:slB ((L.bv++ [v]).getD j (.slice none 0 0))=some y:=hy;by_cases e:j<X.I.length
  ·rw[za8 (by rw[h.lb];exact e)] at hy;exact .inl (h.db j y e hy)
  ·obtain rfl:j=X.I.length:=by omega
   rw[<-h.lb,zaA] at hy;exact absurd hy (hvn y)
 ·have hj':j<X.I.length+1:=by simpa using hj
  intro hy2;have hy2:slB ((L.bv++ [v]).getD j (.slice none 0 0))=some y:=hy2;by_cases e:j<X.I.length
  ·rw[za8 (by rw[h.lb];exact e)] at hy2;exact(h.sep y hy).2 j e hy2
  ·obtain rfl:j=X.I.length:=by omega
   rw[<-h.lb,zaA] at hy2;exact absurd hy2 (hvn y)
 ·rcases hy with hy|rfl
  ·rw[nP];exact h.lt y hy
  ·rw[nP];exact hlt
 ·rcases hy with hy|rfl
  ·exact h.d64 y hy
  ·exact h64
theorem FAt.add_x(h:FAt m L X)(hg:GX X){b:Nat}(hb:¬L.D b)(hlt:b<m.next)(h64:64<=b){cs:Cells}{r:zfi}(hr:XC L r cs)(hx:r.p<X.I.length):FAt (m.put b (.cells cs true 0)) {L with F:=L.F++ [b],D:=λy=>L.D y∨y=b} {X with F:=X.F++ [r]}:=by
 have hid:b∉L.ids:=λe=>hb (h.dm _ e);have hne:∀y∈L.ids,¬y=b:=λy hy e=>hid (e▸hy);have hlF:=h.lF;have hk:∀j,j<X.F.length->(L.F++ [b]).getD j 0=L.F.getD j 0:=λj hj=>zce (by omega);have hperm:({L with F:=L.F++ [b],D:=λy=>L.D y∨y=b}:Loc).ids.Perm (b::L.ids):=by
  unfold Loc.ids;show List.Perm (L.f::(L.P++(L.G++(L.C++(L.I++((L.F++ [b]))))))) (b::(L.f::(L.P++(L.G++(L.C++(L.I++(L.F)))))))
  try simp only[aA,List.singleton_append]
  exact zpX (List.perm_middle (l₁:=L.f::(L.P++L.G++L.C++L.I++L.F)) (l₂:=[]) (a:=b)) (by simp[aA]) (by simp[aA])
 have hsd:∀{z n:Nat} {v:Value} {fl:List Value},SlV m z v n fl->(∀y,slB v=some y->L.D y)->SlV (m.put b (.cells cs true 0)) z v n fl:=λ{z n v fl} hv hd=>hv.keep λy o hy ho=>by rw[gP,if_neg (λe:y=b=>hb (by rw[<-e];exact hd y hy))];exact ho
 refine⟨?_,λj hj=>?_,λj hj=>?_,λj hj=>?_,λj hj=>?_,λj hj=>?_,h.lP,h.lG,h.lC,h.lI,by simp[hlF],h.lb,hperm.nodup_iff.2 (List.nodup_cons.2 ⟨hid,h.nd⟩),λy hy=>?_,hsd h.ls h.dl,hsd h.fs h.df,hsd h.ss h.ds,λj hj=>hsd (h.bs j hj) λy=>h.db j y hj,λy hy=> .inl (h.dl y hy),λy hy=> .inl (h.df y hy),λy hy=> .inl (h.ds y hy),λj y hj hy=> .inl (h.db j y hj hy),h.sep,λy hy=>?_,λy hy=>?_,h.pi,h.pf⟩
 ·obtain⟨c1,a1,a2⟩:=h.fl;exact⟨c1,by rw[gP,if_neg (hne _ h.mf)];exact a1,⟨a2.n,a2.cores,a2.frames,a2.procs,a2.cap,a2.prog,a2.lv,a2.fv,a2.contents,a2.files,a2.pipes,a2.next,a2.halted,a2.sv⟩⟩
 ·obtain⟨c1,a1,a2⟩:=h.pr j hj;exact⟨c1,by rw[gP,if_neg (hne _ (h.mp hj))];exact a1,a2.move rfl (λ_ _=>rfl) (λk x hx=>hk x ((hg.fd j hj).2 k x hx)) (λ_ _ _=>rfl) (λ_ _=>rfl) (λ_ _=>rfl)⟩
 ·obtain⟨c1,a1,a2⟩:=h.pg j hj;exact⟨c1,by rw[gP,if_neg (hne _ (h.mg hj))];exact a1,a2.move (rfl)⟩
 ·obtain⟨c1,a1,a2⟩:=h.ct j hj;exact⟨c1,by rw[gP,if_neg (hne _ (h.mc hj))];exact a1,a2.move⟩
 ·obtain⟨c1,a1,a2⟩:=h.ip j hj;exact⟨c1,by rw[gP,if_neg (hne _ (h.mi hj))];exact a1,a2⟩
 ·have hj':j<X.F.length+1:=by simpa using hj
  by_cases e:j<X.F.length
  ·have hj:=e;obtain⟨c1,a1,a2⟩:=h.xs j e;refine⟨c1,?_,?_⟩
   ·show(m.put b _).get ((L.F++ [b]).getD j 0)=_;rw[hk j e,gP,if_neg (hne _ (h.mx e))];exact a1
   ·show XC _ ((X.F++ [r]).getD j zaE) c1;rw[za8 e];exact a2.move (rfl)
  ·obtain rfl:j=X.F.length:=by omega
   refine⟨cs,?_,?_⟩
   ·show(m.put b _).get ((L.F++ [b]).getD X.F.length 0)=_;rw[<-hlF,zaA,gP,if_pos rfl]
   ·show XC _ ((X.F++ [r]).getD X.F.length zaE) cs;rw[zaA];exact hr.move rfl
 ·rcases List.mem_cons.1 (hperm.mem_iff.1 hy) with e|e
  ·exact .inr e
  ·exact .inl (h.dm _ e)
 ·rcases hy with hy|rfl
  ·rw[nP];exact h.lt y hy
  ·rw[nP];exact hlt
 ·rcases hy with hy|rfl
  ·exact h.d64 y hy
  ·exact h64
theorem GX.add_c(h:GX X){r:znq}(hr:r.b.length=64):GX {X with C:=X.C++ [r]}:=
 ⟨h.lp,h.pr,h.fr,h.cp,h.co,h.nx,h.pg,h.fd,h.pp,λi hi c hc=>by have:=h.fc i hi c hc;show c<(X.C++ [r]).length;rw[aL];omega,h.fp,λg hg=>by have:=h.gc g hg;show(X.g g).c<(X.C++ [r]).length;rw[aL];omega,λc hc=>by
  have hc':c<X.C.length+1:=by simpa using hc
  show((X.C++ [r]).getD c zfa).b.length=64;by_cases e:c<X.C.length
  ·rw[za8 e];exact h.cb c e
  ·obtain rfl:c=X.C.length:=by omega
   rw[zaA];exact hr,h.xp,h.ib⟩
theorem GX.add_g(h:GX X){r:zk0}(hr:r.c<X.C.length):GX {X with G:=X.G++ [r]}:=
 ⟨h.lp,h.pr,h.fr,h.cp,h.co,h.nx,λi hi=>⟨(h.pg i hi).1,λk g hk=>by have:=(h.pg i hi).2 k g hk;show g<(X.G++ [r]).length;rw[aL];omega⟩,h.fd,h.pp,h.fc,h.fp,λg hg=>by
  have hg':g<X.G.length+1:=by simpa using hg
  show((X.G++ [r]).getD g zd2).c<_;by_cases e:g<X.G.length
  ·rw[za8 e];exact h.gc g e
  ·obtain rfl:g=X.G.length:=by omega
   rw[zaA];exact hr,h.cb,h.xp,h.ib⟩
theorem GX.set_g(h:GX X){g:Nat}{r:zk0}(hr:r.c<X.C.length):GX {X with G:=X.G.set g r}:=
 ⟨h.lp,h.pr,h.fr,h.cp,h.co,h.nx,λi hi=>⟨(h.pg i hi).1,λk g' hk=>by have:=(h.pg i hi).2 k g' hk;show g'<(X.G.set g r).length;rw[sL];exact this⟩,h.fd,h.pp,h.fc,h.fp,λg' hg=>by
  obtain⟨h1,h2|h2⟩:=zbD (d:=zd2) hg
  ·show((X.G.set g r).getD g' zd2).c<_;rw[h2];exact h.gc g' h1
  ·show((X.G.set g r).getD g' zd2).c<_;rw[h2];exact hr,h.cb,h.xp,h.ib⟩
theorem GX.add_i(h:GX X){r:zpG}(hr:(r.b.length:Int)<=X.cap):GX {X with I:=X.I++ [r]}:=
 ⟨h.lp,h.pr,h.fr,h.cp,h.co,h.nx,h.pg,h.fd,λi hi q hq=>by have:=h.pp i hi q hq;show q<(X.I++ [r]).length;rw[aL];omega,h.fc,h.fp,h.gc,h.cb,λx hx=>by have:=h.xp x hx;show(X.x x).p<(X.I++ [r]).length;rw[aL];omega,λq hq=>by
  have hq':q<X.I.length+1:=by simpa using hq
  show(((X.I++ [r]).getD q pipe0).b.length:Int)<=_;by_cases e:q<X.I.length
  ·rw[za8 e];exact h.ib q e
  ·obtain rfl:q=X.I.length:=by omega
   rw[zaA];exact hr⟩
theorem GX.add_x(h:GX X){r:zfi}(hr:r.p<X.I.length):GX {X with F:=X.F++ [r]}:=
 ⟨h.lp,h.pr,h.fr,h.cp,h.co,h.nx,h.pg,λi hi=>⟨(h.fd i hi).1,λk x hk=>by have:=(h.fd i hi).2 k x hk;show x<(X.F++ [r]).length;rw[aL];omega⟩,h.pp,h.fc,h.fp,h.gc,h.cb,λx hx=>by
  have hx':x<X.F.length+1:=by simpa using hx
  show((X.F++ [r]).getD x zaE).p<_;by_cases e:x<X.F.length
  ·rw[za8 e];exact h.xp x e
  ·obtain rfl:x=X.F.length:=by omega
   rw[zaA];exact hr,h.ib⟩
theorem GX.add_p(h:GX X){r:zb9}(hr:PX X r):GX {X with P:=X.P++ [r]}:=by
 have kk:∀i,i<(X.P++ [r]).length->PX X ((X.P++ [r]).getD i zbh):=λi hi=>by
  have hi':i<X.P.length+1:=by simpa using hi
  by_cases e:i<X.P.length
  ·rw[za8 e];exact h.px e
  ·obtain rfl:i=X.P.length:=by omega
   rw[zaA];exact hr
 exact⟨h.lp,h.pr,h.fr,h.cp,h.co,h.nx,λi hi=>(kk i hi).pg,λi hi=>(kk i hi).fd,λi hi=>(kk i hi).pp,λi hi=>(kk i hi).fc,λi hi c hc=>by have:=(kk i hi).fp c hc;show c<(X.P++ [r]).length;rw[aL];omega,h.gc,h.cb,h.xp,h.ib⟩
end
section
variable{m m' M mr:Mem}{n:Nat}{L L' L1 L2:Loc}{X X' X1 X2 Y:St}{v:Value}{fl:List Value}{pid:Int}
theorem Fd.putO{D:Nat->Prop}{b:Nat}{o:zaS}(h:Fd D m M)(hb:D b)(hl:b<m.next)(hs:m.get b≠none):Fd D m (M.put b o):=by
 have h1:=h.next;refine⟨by rw[nP];exact h1,zad.of_low (by rw[nP];exact h.fresh.n64) (λy hy=>?_),λy hy hD=>?_,λy hy e=>?_⟩
 ·rw[nP] at hy;rw[gP,if_neg (by omega)];exact h.fresh.none y hy
 ·rw[gP,if_neg (λe=>hD (by rw[e];exact hb))];exact h.old y hy hD
 ·rw[gP,if_neg (λe2=>hs (by rw[<-e2];exact e))];exact h.low y hy e
theorem Fd.putN{D:Nat->Prop}{b:Nat}{o:zaS}(h:Fd D m M)(hb:m.next<=b)(hl:b<M.next):Fd D m (M.put b o):=by
 have h1:=h.next;refine⟨by rw[nP];exact h1,zad.of_low (by rw[nP];exact h.fresh.n64) (λy hy=>?_),λy hy hD=>?_,λy hy e=>?_⟩
 ·rw[nP] at hy;rw[gP,if_neg (by omega)];exact h.fresh.none y hy
 ·rw[gP,if_neg (by omega)];exact h.old y hy hD
 ·rw[gP,if_neg (by omega)];exact h.low y hy e
theorem FAt.s_cow(h:FAt m L X){g:Nat}(hg:g<X.G.length){cs:Cells}(e:m.get (L.g g)=some (.cells cs true 0)){x:Bool}:FAt (m.put (L.g g) (.cells (cs.write 3 [.bool x]) true 0)) L {X with G:=X.G.set g {X.g g with cow:=x}}:=by obtain⟨c,h1,h2⟩:=h.pg g hg;rw[e] at h1;cases h1;exact h.put_g hg h2.w_cow
theorem FAt.s_gc(h:FAt m L X){g:Nat}(hg:g<X.G.length){cs:Cells}(e:m.get (L.g g)=some (.cells cs true 0)){x:Nat}:FAt (m.put (L.g g) (.cells (cs.write 0 [PT (L.c x)]) true 0)) L {X with G:=X.G.set g {X.g g with c:=x}}:=by obtain⟨c,h1,h2⟩:=h.pg g hg;rw[e] at h1;cases h1;exact h.put_g hg h2.w_c
theorem FAt.s_refs(h:FAt m L X){c:Nat}(hc:c<X.C.length){cs:Cells}(e:m.get (L.c c)=some (.cells cs true 0)){x:Int}:FAt (m.put (L.c c) (.cells (cs.write 64 [In x]) true 0)) L {X with C:=X.C.set c {X.c c with refs:=x}}:=by obtain⟨c1,h1,h2⟩:=h.ct c hc;rw[e] at h1;cases h1;exact h.put_c hc h2.w_refs
theorem FAt.s_byte(h:FAt m L X){c:Nat}(hc:c<X.C.length){cs:Cells}(e:m.get (L.c c)=some (.cells cs true 0)){k:Nat}(hk:k<64){b:BitVec 8}:FAt (m.put (L.c c) (.cells (cs.write k [By b]) true 0)) L {X with C:=X.C.set c {X.c c with b:=(X.c c).b.set k b}}:=by obtain⟨c1,h1,h2⟩:=h.ct c hc;rw[e] at h1;cases h1;have:=h2.w1_b hk (v:=By b) (x:=(X.c c).b.set k b) (by rw[List.map_set]);rw[Nat.zero_add] at this;exact h.put_c hc this
def pgN(a:BitVec 32)(k:Nat):Nat:=(a+BitVec.ofNat 32 k).toNat/64
def zhB(X:St)(g:Nat):Bool:=(X.g g).cow&&decide (1<(X.c (X.g g).c).refs)
def zcI(X:St)(i:Nat)(a:BitVec 32):Nat->Option (Nat×Int)
 |0=>some (0,-1)
 |k+1=>match zcI X i a k with
  |none=>none
  |some p=>match atX (X.p i) (a+BitVec.ofNat 32 k) with
   |none=>none
   |some g=>if(X.g g).write=false∨4096<=a.toNat then none else some (if((pgN a k:Nat):Int)=p.2 then p.1 else if zhB X g then p.1+1 else p.1,(pgN a k:Int))
theorem zm6{i:Nat}{a:BitVec 32}:∀{k:Nat} {p:Nat×Int},zcI X i a k=some p->p.1<=k
 |0,p,h=>by cases h;exact lR' _
 |k+1,p,h=>by
  unfold zcI at h;split at h
  ·cases h
  ·rename_i q hq;have:=zm6 hq;split at h
   ·cases h
   ·split at h
    ·cases h
    ·cases h;show(if _ then _ else _)<=_;split
     ·exact Nat.le_succ_of_le this
     ·split
      ·exact Nat.succ_le_succ this
      ·exact Nat.le_succ_of_le this
theorem zix{i:Nat}{a:BitVec 32}{k:Nat}(h:zcI X i a k=none):∀{n:Nat},k<=n->zcI X i a n=none
 |0,hk=>by
  obtain rfl:k=0:=by omega
  exact h
 |n+1,hk=>by
  by_cases e:k=n+1
  ·rw[<-e];exact h
  ·unfold zcI;rw[zix h (n:=n) (by omega)]
theorem ziv(hg:GX X){i:Nat}(hi:i<X.P.length){a:BitVec 32}{g:Nat}(h:atX (X.p i) a=some g):g<X.G.length:=by
 unfold atX at h;split at h
 ·cases h
 ·exact(hg.pg i hi).2 _ _ h
def zeS(X:St)(g:Nat):St:={X with C:=X.C.set (X.g g).c {X.c (X.g g).c with refs:=IntKind.i64.wrap ((X.c (X.g g).c).refs-1)}++ [{b:=(X.c (X.g g).c).b,refs:=1}],contents:=IntKind.i64.wrap (X.contents+1),G:=X.G.set g {X.g g with c:=X.C.length}}
def putG(X:St)(g o:Nat)(b:BitVec 8):St:={X with G:=X.G.set g {X.g g with cow:=false},C:=X.C.set (X.g g).c {X.c (X.g g).c with b:=(X.c (X.g g).c).b.set o b}}
def putB(X:St)(i:Nat)(a:BitVec 32)(k:Nat)(b:BitVec 8):St:=match atX (X.p i) (a+BitVec.ofNat 32 k) with
 |none=>X
 |some g=>putG (if zhB X g then zeS X g else X) g ((a+BitVec.ofNat 32 k).toNat % 64) b
def zcJ(X:St)(i:Nat)(a:BitVec 32)(l:List (BitVec 8)):Nat->St
 |0=>X
 |k+1=>putB (zcJ X i a l k) i a k (l.getD k 0#8)
def zau(X:St)(i:Nat)(a:BitVec 32)(l:List (BitVec 8)):St×Int:=match zcI X i a l.length with
 |none=>(X,14)
 |some p=>if IntKind.i64.wrap (X.frames-X.contents)<(p.1:Int) then(X,12) else(zcJ X i a l l.length,0)
theorem zCI{i k:Nat}{a:BitVec 32}{b:BitVec 8}:(putB X i a k b).P=X.P∧(putB X i a k b).fut=X.fut∧(putB X i a k b).seen=X.seen∧(putB X i a k b).l=X.l∧(putB X i a k b).I=X.I∧(putB X i a k b).F=X.F∧X.C.length<=(putB X i a k b).C.length∧(putB X i a k b).G.length=X.G.length:=by
 unfold putB;split
 ·exact⟨rfl,rfl,rfl,rfl,rfl,rfl,lR' _,rfl⟩
 ·split
  ·exact⟨rfl,rfl,rfl,rfl,rfl,rfl,by simp[putG,zeS],by simp[putG,zeS]⟩
  ·exact⟨rfl,rfl,rfl,rfl,rfl,rfl,by simp[putG],by simp[putG]⟩
theorem GX.putG(h:GX X){g o:Nat}{b:BitVec 8}(hg:g<X.G.length):GX (putG X g o b):=by have h1:=h.set_g (g:=g) (r:={X.g g with cow:=false}) (h.gc g hg);exact h1.set_c (c:=(X.g g).c) (r:={X.c (X.g g).c with b:=(X.c (X.g g).c).b.set o b}) (by show((X.c (X.g g).c).b.set o b).length=64;rw[sL];exact h.cb _ (h.gc g hg))
theorem GX.split(h:GX X){g:Nat}(hg:g<X.G.length):GX (zeS X g):=by have hc:=h.gc g hg;have h1:=h.set_c (c:=(X.g g).c) (r:={X.c (X.g g).c with refs:=IntKind.i64.wrap ((X.c (X.g g).c).refs-1)}) (h.cb _ hc);have h2:=h1.add_c (r:={b:=(X.c (X.g g).c).b,refs:=1}) (h.cb _ hc);have h3:=h2.set_contents (n:=IntKind.i64.wrap (X.contents+1));exact h3.set_g (g:=g) (r:={X.g g with c:=X.C.length}) (by simp)
theorem GX.putB(h:GX X){i k:Nat}{a:BitVec 32}{b:BitVec 8}(hi:i<X.P.length):GX (putB X i a k b):=by
 unfold Go.Ab.putB;split
 ·exact h
 ·rename_i g hgg;have hl:=ziv h hi hgg;split
  ·exact(h.split hl).putG (by simp[zeS];exact hl)
  ·exact h.putG hl
theorem zeq{i:Nat}{a:BitVec 32}{l:List (BitVec 8)}:∀{k:Nat},(zcJ X i a l k).P=X.P∧(zcJ X i a l k).fut=X.fut∧(zcJ X i a l k).seen=X.seen∧(zcJ X i a l k).l=X.l∧(zcJ X i a l k).I=X.I∧(zcJ X i a l k).F=X.F∧X.C.length<=(zcJ X i a l k).C.length∧(zcJ X i a l k).G.length=X.G.length
 |0=>⟨rfl,rfl,rfl,rfl,rfl,rfl,lR' _,rfl⟩
 |k+1=>by obtain⟨a1,a2,a3,a4,a5,a6,a7,a8⟩:=zeq (k:=k);obtain⟨b1,b2,b3,b4,b5,b6,b7,b8⟩:=zCI (X:=zcJ X i a l k) (i:=i) (k:=k) (a:=a) (b:=l.getD k 0#8);exact⟨b1.trans a1,b2.trans a2,b3.trans a3,b4.trans a4,b5.trans a5,b6.trans a6,lT a7 b7,b8.trans a8⟩
theorem GX.puts(h:GX X){i:Nat}{a:BitVec 32}{l:List (BitVec 8)}(hi:i<X.P.length):∀{k:Nat},GX (zcJ X i a l k)
 |0=>h
 |k+1=>(h.puts (k:=k) hi).putB (by rw[zeq.1];exact hi)
theorem Sh.write(h:GX X){i:Nat}{a:BitVec 32}{l:List (BitVec 8)}(hi:i<X.P.length):Sh 0 X (zau X i a l).1:=by
 unfold zau;split
 ·exact Sh.refl h
 ·split
  ·exact Sh.refl h
  ·obtain⟨a1,a2,a3,a4,a5,a6,a7,a8⟩:=zeq (X:=X) (i:=i) (a:=a) (l:=l) (k:=l.length);exact⟨by rw[a1];exact lR' _,by rw[a6];exact lR' _,by rw[a5];exact lR' _,by rw[a8];exact lR' _,a7,by rw[a2];exact lR' _,by rw[a3];exact lR' _,h.puts hi⟩
theorem Be.congr{X Y:St}(e:Y=X)(h:Be m L X m'):Be m L Y m':=e▸h
theorem zur(h:FAt M L X)(hF:zad M)(hg:GX X){i:Nat}(hi:i<X.P.length){a:BitVec 32}{k g K id:Nat}{b:BitVec 8}(hat:atX (X.p i) (a+BitVec.ofNat 32 k)=some g){cg cc cf:Cells}(hcg:M.get (L.g g)=some (.cells cg true 0))(hcc:M.get (L.c (X.g g).c)=some (.cells cc true 0))(hcf:M.get L.f=some (.cells cf true 0))(hid0:zhB X g=true->M.next<=id∧id<M.next+K):
  (zhB X g=false->Be M L (putB X i a k b) (((M.put (L.g g) (.cells (cg.write 3 [.bool false]) true 0)).put (L.c (X.g g).c) (.cells (cc.write ((a+BitVec.ofNat 32 k).toNat % 64) [By b]) true 0)).bump K))∧
  (zhB X g=true->Be M L (putB X i a k b) (((((((M.put (L.c (X.g g).c) (.cells (cc.write 64 [In (IntKind.i64.wrap ((X.c (X.g g).c).refs-1))]) true 0)).put L.f (.cells (cf.write 7 [In (IntKind.i64.wrap (X.contents+1))]) true 0)).put id (.cells (ofL ((X.c (X.g g).c).b.map By++ [In 1])) true 0)).put (L.g g) (.cells (cg.write 0 [PT id]) true 0)).put (L.g g) (.cells ((cg.write 0 [PT id]).write 3 [.bool false]) true 0)).put id (.cells ((ofL ((X.c (X.g g).c).b.map By++ [In 1])).write ((a+BitVec.ofNat 32 k).toNat % 64) [By b]) true 0)).bump K)):=by
 have hgl:=ziv hg hi hat
 have hcl:=hg.gc g hgl;have n1:=h.g_c hgl hcl;have o64:(a+BitVec.ofNat 32 k).toNat % 64<64:=by omega
 have gl:=h.ids_lt (h.mg hgl);have cl:=h.ids_lt (h.mc hcl);have fl:=h.ids_lt h.mf;have h64:=hF.n64;refine⟨λhs=>?_,λhs=>?_⟩
 ·have e:putB X i a k b=putG X g ((a+BitVec.ofNat 32 k).toNat % 64) b:=by unfold putB;rw[hat];simp only[hs,bF,if_false]
  rw[e];have A1:=h.s_cow hgl hcg (x:=false);have A2:=A1.s_byte hcl (k:=(a+BitVec.ofNat 32 k).toNat % 64) (cs:=cc) (b:=b) (by rw[gP,if_neg (λe=>n1 e.symm)];exact hcc) o64;exact⟨L,A2.bump K,Lx.refl,(((Fd.refl hF).putO (h.dm _ (h.mg hgl)) gl (by rw[hcg];simp)).putO (h.dm _ (h.mc hcl)) cl (by rw[hcc];simp)).bump K⟩
 ·have hid:=hid0 hs;have e:putB X i a k b=putG (zeS X g) g ((a+BitVec.ofNat 32 k).toNat % 64) b:=by unfold putB;rw[hat];simp only[hs,if_true]
  have hb64:=hg.cb _ hcl;have h0:=h.bump K;have A1:=h0.s_refs hcl (cs:=cc) (x:=IntKind.i64.wrap ((X.c (X.g g).c).refs-1)) hcc;have A2:=A1.s_contents (cf:=cf) (x:=IntKind.i64.wrap (X.contents+1)) (by rw[gP,if_neg (h.f_c hcl)];exact hcf);have hg2:GX {X with C:=X.C.set (X.g g).c {X.c (X.g g).c with refs:=IntKind.i64.wrap ((X.c (X.g g).c).refs-1)},contents:=IntKind.i64.wrap (X.contents+1)}:=(hg.set_c (c:=(X.g g).c) (r:={X.c (X.g g).c with refs:=IntKind.i64.wrap ((X.c (X.g g).c).refs-1)}) hb64).set_contents;have hnid:¬L.D id:=λe=>by have:=h.lt _ e;omega
  have hCC:∀bs:List (BitVec 8),bs.length=64->CC L {b:=bs,refs:=1} (ofL (bs.map By++ [In 1])):=λbs hb=>by
   refine⟨by rw[zbW];simp[hb],?_,?_⟩
   ·rw[zbN (by simp[hb]),List.drop_zero,List.take_append_of_le_length (by simp[hb]),List.take_of_length_le (by simp[hb])]
   ·rw[za7,aC' (by simp[hb])];simp[hb]
  have A3:=A2.add_c hg2 hnid nO (by omega) (hCC _ hb64);have hcN:({L with C:=L.C++ [id],D:=λy=>L.D y∨y=id}:Loc).c X.C.length=id:=by show(L.C++ [id]).getD X.C.length 0=id;rw[<-h.lC,zaA]
  have ng:¬L.g g=id:=by omega
  have ngf:¬L.g g=L.f:=λe=>h.f_g hgl e.symm;have A4:=A3.s_gc (g:=g) hgl (cs:=cg) (x:=X.C.length) (by show(Mem.put _ _ _).get (L.g g)=_;rw[gP,if_neg ng,gP,if_neg ngf,gP,if_neg n1];exact hcg);rw[hcN] at A4;have A5:=A4.s_cow (g:=g) (by simpa using hgl) (cs:=cg.write 0 [PT id]) (x:=false) (by show(Mem.put _ (L.g g) _).get (L.g g)=_;rw[gP,if_pos rfl]);have A6:=A5.s_byte (c:=X.C.length) (by simp) (k:=(a+BitVec.ofNat 32 k).toNat % 64) (cs:=ofL ((X.c (X.g g).c).b.map By++ [In 1])) (b:=b) (by rw[hcN];show(Mem.put _ (L.g g) _).get id=_;rw[gP,if_neg (λe=>ng e.symm)];show(Mem.put _ (L.g g) _).get id=_;rw[gP,if_neg (λe=>ng e.symm),gP,if_pos rfl]) o64;rw[hcN] at A6;have hgs:(X.G.set g {X.g g with c:=X.C.length}).getD g zd2={X.g g with c:=X.C.length}:=zah hgl;have hF6:Fd L.D M ((((((((M.bump K).put (L.c (X.g g).c) (.cells (cc.write 64 [In (IntKind.i64.wrap ((X.c (X.g g).c).refs-1))]) true 0)).put L.f (.cells (cf.write 7 [In (IntKind.i64.wrap (X.contents+1))]) true 0)).put id (.cells (ofL ((X.c (X.g g).c).b.map By++ [In 1])) true 0)).put (L.g g) (.cells (cg.write 0 [PT id]) true 0)).put (L.g g) (.cells ((cg.write 0 [PT id]).write 3 [.bool false]) true 0)).put id (.cells ((ofL ((X.c (X.g g).c).b.map By++ [In 1])).write ((a+BitVec.ofNat 32 k).toNat % 64) [By b]) true 0))):=
   (((((((Fd.refl hF).bump K).putO (h.dm _ (h.mc hcl)) cl (by rw[hcc];simp)).putO (h.dm _ h.mf) fl (by rw[hcf];simp)).putN hid.1 nO).putO (h.dm _ (h.mg hgl)) gl (by rw[hcg];simp)).putO (h.dm _ (h.mg hgl)) gl (by rw[hcg];simp)).putN hid.1 nO
  have hB:Be M L _ _:=⟨_,A6,⟨rfl,⟨[],by simp⟩,⟨[],by simp⟩,⟨[id],rfl⟩,⟨[],by simp⟩,⟨[],by simp⟩,λy hy=>hy.imp _root_.id λe=>by omega⟩,hF6⟩;simp only[zbp] at hB;rw[e];refine Be.congr ?_ hB;unfold putG zeS;show _=_;simp only[hgs]
end
section
variable{m m' M mr:Mem}{n:Nat}{L L' L1 L2:Loc}{X X' X1 X2 Y:St}{v:Value}{fl:List Value}{pid:Int}
theorem zsf:pV none= .pointer none:=rfl
theorem zc9{b:Nat}:pV (some b)=PT b:=rfl
theorem zeM{a:BitVec 32}{ty:Nat}:zcG EE.P .quo ty (Um a) (.int .u32 64)=some (.int .u32 ((a.toNat/64:Nat):Int)):=zkT
theorem zmV{i:Nat}{a:BitVec 32}:∀{n:Nat} {p:Nat×Int},zcI X i a n=some p->∀k,k<n->∃g,atX (X.p i) (a+BitVec.ofNat 32 k)=some g
 |0,p,h,k,hk=>by omega
 |n+1,p,h,k,hk=>by
  unfold zcI at h;split at h
  ·cases h
  ·rename_i q hq;split at h
   ·cases h
   ·rename_i g hgg;by_cases e:k=n
    ·exact⟨g,by rw[e];exact hgg⟩
    ·exact zmV hq k (by omega)
theorem zu2{bs:List (BitVec 8)}(hb:bs.length=64):zaT EE.P 123 [(0, .agg (bs.map By).toArray),(1,In 1)]=some (.agg (bs.map By++ [In 1]).toArray):=by have hz:zbT EE.P 123=some (.agg (List.replicate 64 (.int .u8 0)++ [.int .i64 0]:List Value).toArray):=kr;have hu:EE.P.underlying 123=some (.struct (EE.P.fieldsOf 123)):=kr;have hp:zb6 EE.P (EE.P.fieldsOf 123)=[some (0,64),some (64,1)]:=kr;have hpl:plain (.agg (List.replicate 64 (.int .u8 0)++ [.int .i64 0]:List Value).toArray)=true:=kr;unfold zaT;rw[hz,hu];simp only[hp,hpl];have hc:∀l:List Value,(Value.agg l.toArray).cells.toList=l∧(Value.agg l.toArray).cells.size=l.length:=λl=>⟨rfl,rfl⟩;simp[zg4,zbr,hb,zdn,Value.cells]
theorem zfB(h:FAt m L X)(hm:zad m)(hg:GX X){i:Nat}(hi:i<X.P.length){a:BitVec 32}{l:List (BitVec 8)}(hv:SlV m 1 v l.length (l.map By))(hn:l.length<100000):
  ∃u m',Con EE.P 53 [PT (L.p i),Um a,v] m u m'∧u=In (zau X i a l).2∧Be m L (zau X i a l).1 m':=by
 refine Con.raw zai zJe (bA rfl) _ ?_;obtain⟨n,hnE⟩:∃n,n=l.length:=⟨_,rfl⟩;rw[<-hnE] at hv hn;have hlenA:∀M,lenA EE.P 127 v M=some (In n):=λM=>hv.lenA zbf;simp only[XX,XY,F53,yA,yB,yC,hlenA];refine WX.loop_of (λk tt M=>∃(j q:Nat) (p:Nat×Int),j<=n∧k=n-j∧tt=T 158 [(19,In j),(18,In n),(17,v),(8,In p.2),(7,In p.1),(0,PT (L.p i)),(1,Um a),(2,v)]∧zcI X i a j=some p∧M=m.bump q) ?_ (k:=n) (t1:=T 158 [(19,In (0:Nat)),(18,In n),(17,v),(8,In (-1)),(7,In (0:Nat)),(0,PT (L.p i)),(1,Um a),(2,v)]) (vT ⟨rfl,rfl,rfl,rfl,rfl,rfl,rfl,rfl,trivial⟩) ⟨0,_,(0,-1),by omega,rfl,rfl,rfl,rfl⟩;rintro kk tt M ⟨j,q,p,hj,rfl,rfl,hp,rfl⟩;by_cases hj2:j<n
 ·have g1:(j:Int)<(n:Int):=by omega
  have d1:=decide_eq_true g1;have hw:IntKind.i64.wrap ((j:Int)+1)=((j+1:Nat):Int):=by rw[zae (by omega) (by omega)];omega
  have hcv:∀M,zbU EE.P 3 36 (In j) M=some (Um (BitVec.ofNat 32 j)):=λM=>zcz (by omega);have eS:zcI X i a (j+1)=match atX (X.p i) (a+BitVec.ofNat 32 j) with
   |none=>none
   |some g=>if(X.g g).write=false∨4096<=a.toNat then none else some (if((pgN a j:Nat):Int)=p.2 then p.1 else if zhB X g then p.1+1 else p.1,(pgN a j:Int)):=by
   show(match zcI X i a j with|none=>none|some p=>_)=_;rw[hp]<;>rfl
  have hno:zcI X i a (j+1)=none->zau X i a l=(X,14):=λe=>by unfold zau;rw[<-hnE,zix e (by omega)]
  simp only[XX,XY,F53,yA,yB,yC,g1,hcv,zcH];refine cZ (zqe (h.bump _) hg hi) ?_;cases ha:atX (X.p i) (a+BitVec.ofNat 32 j) with
  |none=>rw[ha] at eS;rw[hno eS];simp only[XX,XY,F53,yA,yB,yC,zsf,zbC];exact(Be.same h hm _).raw.and_eq
  |some g=>
   rw[ha] at eS;have hgl:=ziv hg hi ha;obtain⟨cg,p1,p2⟩:=h.pg g hgl;have hcl:=hg.gc g hgl;obtain⟨cc,c1,c2⟩:=h.ct _ hcl;cases hwr:(X.g g).write with
   |false=>simp only[hwr,true_or,if_true] at eS;rw[hno eS];simp only[XX,XY,F53,yA,yB,yC,zc9,p1,p2.write,hwr,zbC];exact(Be.same h hm _).raw.and_eq
   |true=>
    by_cases ha4:4096<=a.toNat
    ·have d2:=decide_eq_true (show(4096:Int)<=(a.toNat:Int) by omega);simp only[ha4,or_true,if_true] at eS;rw[hno eS];simp only[XX,XY,F53,yA,yB,yC,zc9,p1,p2.write,hwr,d2,zbC];exact(Be.same h hm _).raw.and_eq
    ·have d2:=decide_eq_false (show¬(4096:Int)<=(a.toNat:Int) by omega);simp only[hwr,ha4,Bool.true_eq_false,or_self,if_false] at eS;have hcq:∀M,zbU EE.P 36 3 (.int .u32 (((a+BitVec.ofNat 32 j).toNat/64:Nat):Int)) M=some (In (pgN a j)):=λM=>by have:=(a+BitVec.ofNat 32 j).isLt;rw[zdV zaQ zaJ,zae (by omega) (by omega)];rfl
     have hple:=zm6 hp;have hnext:∀q p',zcI X i a (j+1)=some p'->∀tt,(View Sig.none Sig.none m.next none tt (m.bump q) (T 158 [(19,In ((j+1:Nat):Int)),(18,In n),(17,v),(8,In p'.2),(7,In p'.1),(0,PT (L.p i)),(1,Um a),(2,v)]) (m.bump q))->∃k' t1 m1,k'<n-j∧View Sig.none Sig.none m.next none tt (m.bump q) t1 m1∧∃(j q:Nat) (p:Nat×Int),j<=n∧k'=n-j∧t1=T 158 [(19,In j),(18,In n),(17,v),(8,In p.2),(7,In p.1),(0,PT (L.p i)),(1,Um a),(2,v)]∧zcI X i a j=some p∧m1=m.bump q:=λq p' e tt hV=>⟨n-(j+1),_,_,by omega,hV,j+1,q,p',by omega,rfl,rfl,e,rfl⟩;by_cases hpg:((pgN a j:Nat):Int)=p.2
     ·have d3:=decide_eq_true hpg;rw[if_pos hpg] at eS;simp only[XX,XY,F53,yA,yB,yC,zc9,p1,p2.write,hwr,d2,zeM,hcq,d3,hw,zac];refine hnext _ _ eS _ (vT ⟨rfl,rfl,rfl,by rw[hpg];rfl,rfl,rfl,rfl,rfl,trivial⟩)
     ·have d3:=decide_eq_false hpg;rw[if_neg hpg] at eS;cases hcow:(X.g g).cow with
      |false=>
       have hsh:zhB X g=false:=by unfold zhB;rw[hcow];rfl
       simp only[hsh,bF,if_false] at eS;simp only[XX,XY,F53,yA,yB,yC,zc9,p1,p2.write,p2.cow,hcow,hwr,d2,zeM,hcq,d3,hw,zac];refine hnext _ _ eS _ (vT ⟨rfl,rfl,rfl,rfl,rfl,rfl,rfl,rfl,trivial⟩)
      |true=>
       by_cases hrf:1<(X.c (X.g g).c).refs
       ·have d4:=decide_eq_true hrf;have hsh:zhB X g=true:=by unfold zhB;rw[hcow,d4];rfl
        have hw2:IntKind.i64.wrap ((p.1:Int)+1)=((p.1+1:Nat):Int):=by rw[zae (by omega) (by omega)];omega
        simp only[hsh,if_true] at eS;simp only[XX,XY,F53,yA,yB,yC,zc9,p1,p2.write,p2.cow,p2.c,c1,c2.refs,hcow,hwr,d2,zeM,hcq,d3,d4,hw,hw2,zac];refine hnext _ _ eS _ (vT ⟨rfl,rfl,rfl,rfl,rfl,rfl,rfl,rfl,trivial⟩)
       ·have d4:=decide_eq_false hrf;have hsh:zhB X g=false:=by unfold zhB;rw[hcow,d4];rfl
        simp only[hsh,bF,if_false] at eS;simp only[XX,XY,F53,yA,yB,yC,zc9,p1,p2.write,p2.cow,p2.c,c1,c2.refs,hcow,hwr,d2,zeM,hcq,d3,d4,hw,zac];refine hnext _ _ eS _ (vT ⟨rfl,rfl,rfl,rfl,rfl,rfl,rfl,rfl,trivial⟩)
 ·obtain rfl:j=n:=by omega
  have g1:¬(j:Int)<(j:Int):=by omega
  have d1:=decide_eq_false g1;obtain⟨cs,h1,h2⟩:=h.pr i hi;obtain⟨cf,f1,f2⟩:=h.fl;by_cases hfr:IntKind.i64.wrap (X.frames-X.contents)<(p.1:Int)
  ·have d2:=decide_eq_true hfr;have e:zau X i a l=(X,12):=by unfold zau;rw[<-hnE,hp];simp only[hfr,if_true]
   rw[e];simp only[XX,XY,F53,yA,yB,yC,g1,h1,h2.f,f1,f2.frames,f2.contents,d2,zam];exact(Be.same h hm _).raw.and_eq
  ·have d2:=decide_eq_false hfr;have e:zau X i a l=(zcJ X i a l j,0):=by unfold zau;rw[<-hnE,hp];simp only[hfr,if_false]
   rw[e];simp only[XX,XY,F53,yA,yB,yC,g1,h1,h2.f,f1,f2.frames,f2.contents,d2,hlenA,zam];have hPt:∀k,k<j->∃g,atX (X.p i) (a+BitVec.ofNat 32 k)=some g:=zmV hp;refine WX.loop_of (λkk tt M=>∃k:Nat,k<=j∧kk=j-k∧tt=T 158 [(86,In k),(85,In j),(84,v),(0,PT (L.p i)),(1,Um a),(2,v)]∧Be m L (zcJ X i a l k) M∧SlV M 1 v j (l.map By)) ?_ (k:=j) (t1:=T 158 [(86,In (0:Nat)),(85,In j),(84,v),(0,PT (L.p i)),(1,Um a),(2,v)]) (vT ⟨rfl,rfl,rfl,rfl,rfl,rfl,trivial⟩) ⟨0,by omega,rfl,rfl,Be.same h hm _,hv.bump _⟩;rintro kk tt M ⟨k,hk,rfl,rfl,hB,hS⟩;have nx:=hB.next;by_cases hk2:k<j
   ·have g1:(k:Int)<(j:Int):=by omega
    have d1:=decide_eq_true g1;have g2:(0:Int)<=(k:Int):=by omega
    have hw:IntKind.i64.wrap ((k:Int)+1)=((k+1:Nat):Int):=by rw[zae (by omega) (by omega)];omega
    have hcv:∀M,zbU EE.P 3 36 (In k) M=some (Um (BitVec.ofNat 32 k)):=λM=>zcz (by omega);obtain⟨y1,y2,y3,y4,y5,y6,y7,y8⟩:=zeq (X:=X) (i:=i) (a:=a) (l:=l) (k:=k);have hgY:GX (zcJ X i a l k):=hg.puts hi;have eP:zcJ X i a l (k+1)=putB (zcJ X i a l k) i a k (l.getD k 0#8):=rfl;rw[hnE] at hPt;obtain⟨g,hat0⟩:=hPt k (by omega);have hat:atX ((zcJ X i a l k).p i) (a+BitVec.ofNat 32 k)=some g:=by show atX ((zcJ X i a l k).P.getD i zbh) _=_;rw[y1];exact hat0
    generalize zcJ X i a l k=Y at hB y1 y2 y3 y4 y5 y6 y7 y8 hgY eP hat
    have hiY:i<Y.P.length:=by rw[y1];exact hi
    obtain⟨L1,a1,x1,f1⟩:=hB;have ep:L1.p i=L.p i:=x1.p (by rw[h.lP];exact hi);obtain⟨b,c,cs,rfl,k1,k2,k3,k4⟩:=hS.cons (by omega);have hq:cs.nth k=some (By (l.getD k 0#8)):=by rw[zbV (by omega),k4 k (by simp;omega),gD',gM',gD',gE' (by omega)];rfl
    simp only[XX,XY,F53,yA,yB,yC,g1,g2,k1,hq,hcv,zcH,nx,lA];refine cZ (by rw[<-ep];exact zqe (a1.bump _) hgY hiY) ?_;rw[hat];have hgl:=ziv hgY hiY hat
    obtain⟨cg,p1,p2⟩:=a1.pg g hgl;have hcl:=hgY.gc g hgl;obtain⟨cc,c1,c2⟩:=a1.ct _ hcl;obtain⟨cf,e1,e2⟩:=a1.fl;obtain⟨cp,q1,q2⟩:=a1.pr i hiY;have q3:=q2.f;rw[ep] at q1;have o64:(a+BitVec.ofNat 32 k).toNat % 64<64:=by omega
    have r1:(0:Int)<=(((a+BitVec.ofNat 32 k).toNat % 64:Nat):Int):=by omega
    have r2:(((a+BitVec.ofNat 32 k).toNat % 64:Nat):Int)<((64:Nat):Int):=by omega
    have k5:(a+BitVec.ofNat 32 k).toNat % 64+1<=cc.n:=by rw[c2.n];omega
    have k6:3+1<=cg.n:=by rw[p2.n];decide
    have k7:64+1<=cc.n:=by rw[c2.n];decide
    have k8:7+1<=cf.n:=by rw[e2.n];decide
    have k9:0+1<=cg.n:=by rw[p2.n];decide
    have k10:(a+BitVec.ofNat 32 k).toNat % 64+1<=65:=by omega
    have n1:¬L1.c (Y.g g).c=L1.g g:=λe=>a1.g_c hgl hcl e.symm;have n2:¬L1.g g=L1.c (Y.g g).c:=a1.g_c hgl hcl;have n3:¬L.p i=L1.c (Y.g g).c:=by rw[<-ep];exact a1.p_c hiY hcl
    have n4:¬L1.f=L1.c (Y.g g).c:=a1.f_c hcl;have n5:¬L1.g g=L1.f:=λe=>a1.f_g hgl e.symm;have n6:¬L1.c (Y.g g).c=L1.f:=λe=>a1.f_c hcl e.symm;have gl:=a1.ids_lt (a1.mg hgl);have cl:=a1.ids_lt (a1.mc hcl);have n7:∀k,¬L1.g g=M.next+k:=λk=>by omega
    have n8:∀k,¬M.next+k=L1.g g:=λk=>by omega
    have w0:(cg.write 3 [.bool false]).nth 0=some (PT (L1.c (Y.g g).c)):=(p2.w_cow (x:=false)).c;have hbl:=hgY.cb _ hcl;have hst:=λ(K id:Nat) (hid:zhB Y g=true->M.next<=id∧id<M.next+K)=>zur (K:=K) (id:=id) (b:=l.getD k 0#8) a1 f1.fresh hgY hiY hat p1 c1 e1 hid;have hlb:b<M.next:=hS.lt f1.fresh rfl;have b1:¬b=L1.g g:=λe=>hS.ne0 (by decide) p1 (by rw[<-e];rfl);have b2:¬b=L1.c (Y.g g).c:=λe=>hS.ne0 (by decide) c1 (by rw[<-e];rfl);have b3:¬b=L1.f:=λe=>hS.ne0 (by decide) e1 (by rw[<-e];rfl);have b4:∀k,¬b=M.next+k:=λk=>by omega
    cases hcow:(Y.g g).cow with
    |false=>
     have hsh:zhB Y g=false:=by unfold zhB;rw[hcow];rfl
     simp only[XX,XY,F53,yA,yB,yC,zc9,p1,p2.cow,hcow,c1,k5,k6,n1,w0,zez,r1,r2,nx,hw,zac,lA];refine⟨j-(k+1),_,_,by omega,vT (l':=[(86,In ((k+1:Nat):Int)),(85,In j),(84, .slice (some ⟨b,0,none⟩) j c),(0,PT (L.p i)),(1,Um a),(2, .slice (some ⟨b,0,none⟩) j c)]) ⟨rfl,rfl,rfl,rfl,rfl,rfl,trivial⟩,k+1,by omega,rfl,rfl,?_,?_⟩
     ·rw[eP];exact bE x1 f1 ((hst _ M.next (λe=>by rw[hsh] at e;cases e)).1 hsh)
     ·exact hS.keep λy o hy ho=>by cases hy;simp only[gB,gP,b1,b2,if_false];exact ho
    |true=>
     by_cases hrf:1<(Y.c (Y.g g).c).refs
     ·have d4:=decide_eq_true hrf;have hsh:zhB Y g=true:=by unfold zhB;rw[hcow,d4];rfl
      have w1:(cc.write 64 [In (IntKind.i64.wrap ((Y.c (Y.g g).c).refs-1))]).sub 0 64=some ((Y.c (Y.g g).c).b.map By):=(c2.w_refs (x:=IntKind.i64.wrap ((Y.c (Y.g g).c).refs-1))).b;have b123:=zu2 hbl;have hlen:((Y.c (Y.g g).c).b.map By++ [In 1]).length=65:=by rw[aL,lM,hbl];rfl
      have hall:((Y.c (Y.g g).c).b.map By++ [In 1]).all oneCell=true:=by rw[List.all_append,List.all_map,bT];exact⟨List.all_eq_true.2 λx _=>rfl,rfl⟩
      have w2:∀id:Nat,((cg.write 0 [PT id]).write 3 [.bool false]).nth 0=some (PT id):=λid=>by rw[zaa (.inl (bA rfl)),zbu (by rw[p2.n];decide)]
      simp only[XX,XY,F53,yA,yB,yC,zc9,p1,p2.cow,p2.c,c1,c2.refs,hcow,d4,k6,k7,k8,k9,k10,n2,n3,n4,n5,n6,n7,n8,q1,q3,e1,e2.contents,w1,w2,b123,hlen,zez,r1,r2,nx,hw,zac,lA];refine⟨j-(k+1),_,_,by omega,vT (l':=[(86,In ((k+1:Nat):Int)),(85,In j),(84, .slice (some ⟨b,0,none⟩) j c),(0,PT (L.p i)),(1,Um a),(2, .slice (some ⟨b,0,none⟩) j c)]) ⟨rfl,rfl,rfl,rfl,rfl,rfl,trivial⟩,k+1,by omega,rfl,rfl,?_,?_⟩
      ·rw[eP];refine bE x1 f1 ((hst _ (M.next+60) ?_).2 hsh);exact λ_=>⟨by omega,by omega⟩
      ·exact hS.keep λy o hy ho=>by cases hy;simp only[gB,gP,b1,b2,b3,b4,if_false];exact ho
     ·have d4:=decide_eq_false hrf;have hsh:zhB Y g=false:=by unfold zhB;rw[hcow,d4];rfl
      simp only[XX,XY,F53,yA,yB,yC,zc9,p1,p2.cow,p2.c,c1,c2.refs,hcow,d4,k5,k6,n1,w0,zez,r1,r2,nx,hw,zac,lA];refine⟨j-(k+1),_,_,by omega,vT (l':=[(86,In ((k+1:Nat):Int)),(85,In j),(84, .slice (some ⟨b,0,none⟩) j c),(0,PT (L.p i)),(1,Um a),(2, .slice (some ⟨b,0,none⟩) j c)]) ⟨rfl,rfl,rfl,rfl,rfl,rfl,trivial⟩,k+1,by omega,rfl,rfl,?_,?_⟩
      ·rw[eP];exact bE x1 f1 ((hst _ M.next (λe=>by rw[hsh] at e;cases e)).1 hsh)
      ·exact hS.keep λy o hy ho=>by cases hy;simp only[gB,gP,b1,b2,if_false];exact ho
   ·obtain rfl:k=j:=by omega
    have g1:¬(k:Int)<(k:Int):=by omega
    have d1:=decide_eq_false g1;simp only[XX,XY,F53,yA,yB,yC,g1,nx,zam,lA];exact(hB.bump _).raw.and_eq
end
section
variable{m m' M mr:Mem}{n:Nat}{L L' L1 L2:Loc}{X X' X1 X2 Y:St}{v:Value}{fl:List Value}{pid:Int}
theorem zxE{l:List Value}{x:Nat}(h:x<l.length):(ofL l).get x=l.getD x undef:=by have h1:=za7 (l:=l) (n:=x);rw[zbV (by rw[zbW];exact h),gE' h] at h1;rw[Option.some.inj h1,gD',gE' h];rfl
theorem zHM{w:BitVec 32}:bsV EE.P 22 1 [(0,Um w)]=some ([Um w],1):=kr
theorem SlV.one{m:Mem}{b:Nat}{l:List Value}{j:Nat}(hl:l.length=j):SlV ((m.put b (.cells (ofL l) true 1)).bump n) 1 (.slice (some ⟨b,0,none⟩) j j) j l:=
 ⟨by rw[hl,Nat.mul_one], .inr ⟨b,j,ofL l,rfl,by rw[gB,gP,if_pos rfl],by rw[zbW,hl,Nat.mul_one],lR' _,λx hx=>zxE hx⟩⟩
def zHF(X:St)(i:Nat)(a:BitVec 32)(l:List (BitVec 8)):Bool:=decide ((zau X i a l).2=0)
theorem zid(h:FAt m L X)(hm:zad m)(hg:GX X){i:Nat}(hi:i<X.P.length){a w:BitVec 32}:
  ∃u m',Con EE.P 27 [PT (L.p i),Um a,Um w] m u m'∧u= .bool (zHF X i a (zb4 w))∧Be m L (zau X i a (zb4 w)).1 m':=by
 refine Con.raw zai zIR (bA rfl) _ ?_;simp only[XX,XY,F27,yA,yB,yC,zHM];have hN0:∀o,Nx m ((m.put (m.next+4) o).bump 9):=λo=>⟨by(try simp only[bN,nP]);omega,zad.of_low (by have:=hm.n64;(try simp only[bN,nP]);omega) (by repeat(first|exact Low.of hm nO|refine Low.put ?_ nO|refine Low.bump ?_)),λy hy=>by simp only[gB,gP,zbL hy,if_false]⟩;refine cX (zje (hN0 _).fresh (ws:=[w]) (SlV.one rfl) (by decide)) λu M hN=>?_;have hNM:=(hN0 _).trans hN.nx;have nx:=hNM.next;have hsl:=hN.sl;have hwl:([w].flatMap zb4)=zb4 w:=by simp
 rw[hwl] at hsl;simp only[XX,XY,F27,yA,yB];refine CallI.ex2L (zfB (h.nx hNM) hNM.fresh hg hi (a:=a) (l:=zb4 w) hsl (show(zb4 w).length<100000 from(by decide:4<100000))) (by simp) λu2 M2 hW=>?_;obtain⟨rfl,hB⟩:=hW;have nx2:=hB.next;have nx3:m.next<=M2.next:=by omega
 simp only[XX,XY,yA,yB];exact(bE Lx.refl (Fd.of_nx hNM) hB).raw.and_eq
theorem zpe(h:FAt m L X)(hm:zad m)(hg:GX X){i:Nat}(hi:i<X.P.length){a:BitVec 32}{b:BitVec 8}:
  ∃u m',Con EE.P 370 [PT (L.p i),Um a,By b] m u m'∧u= .bool (zHF X i a [b])∧Be m L (zau X i a [b]).1 m':=by
 refine Con.raw zai zFY (bA rfl) _ ?_;simp only[XX,XY,zI6,yA,yB,yC,zAm];have hN0:∀o,Nx m ((m.put (m.next+4) o).bump 8):=λo=>⟨by(try simp only[bN,nP]);omega,zad.of_low (by have:=hm.n64;(try simp only[bN,nP]);omega) (by repeat(first|exact Low.of hm nO|refine Low.put ?_ nO|refine Low.bump ?_)),λy hy=>by simp only[gB,gP,zbL hy,if_false]⟩;refine cX (zfB (h.nx (hN0 _)) (hN0 _).fresh hg hi (a:=a) (l:=[b]) (SlV.one rfl) (show([b]:List (BitVec 8)).length<100000 from(by decide:1<100000))) λu2 M2 hW=>?_;obtain⟨rfl,hB⟩:=hW;have nx2:=hB.next;simp only[bN,nP] at nx2;have nx3:m.next<=M2.next:=by omega
 simp only[XX,XY,yA,yB];exact(bE Lx.refl (Fd.of_nx (hN0 _)) hB).raw.and_eq
def zkN(X:St)(i k:Nat)(w s:Bool):St:={X with contents:=IntKind.i64.wrap (X.contents+1),C:=X.C++ [⟨List.replicate 64 0#8,1⟩],G:=X.G++ [⟨X.C.length,w,s,false⟩],P:=X.P.set i {X.p i with pages:=(X.p i).pages.set k (some X.G.length)}}
def zdC(X:St)(i:Nat)(w s:Bool)(l:List Nat):St:=l.foldl (λY k=>zkN Y i k w s) X
theorem zpk{i k:Nat}{w s:Bool}{l:List Nat}:zdC X i w s (l++ [k])=zkN (zdC X i w s l) i k w s:=by unfold zdC;rw[List.foldl_append];rfl
def fl1(f:BitVec 32):Bool:= !decide (((f&&&1#32).toNat:Int)=0)
def fl2(f:BitVec 32):Bool:= !decide (((f&&&2#32).toNat:Int)=0)
def zaz(X:St)(i:Nat)(a n f:BitVec 32):St×Int:=if 3<f.toNat∨zbZ (X.p i) a.toNat n.toNat false=false then(X,22) else if IntKind.i64.wrap (X.frames-X.contents)<(n.toNat:Int) then(X,12) else(zdC X i (fl1 f) (fl2 f) ((List.range n.toNat).map (a.toNat+·)),0)
theorem GX.map(h:GX X){i k:Nat}{w s:Bool}(hi:i<X.P.length):GX (zkN X i k w s):=by have h1:=h.set_contents (n:=IntKind.i64.wrap (X.contents+1));have h2:=h1.add_c (r:=⟨List.replicate 64 0#8,1⟩) (by simp);have h3:=h2.add_g (r:=⟨X.C.length,w,s,false⟩) (by simp);exact h3.set_p (i:=i) (r:={X.p i with pages:=(X.p i).pages.set k (some X.G.length)}) ((h3.px (i:=i) hi).s_pages λg hg=>by cases hg;simp)
theorem Sh.map(h:GX X){i k:Nat}{w s:Bool}(hi:i<X.P.length):Sh 0 X (zkN X i k w s):=⟨by simp[zkN],lR' _,lR' _,by simp[zkN],by simp[zkN],lR' _,lR' _,h.map hi⟩
theorem Sh.maps{i:Nat}{w s:Bool}{l:List Nat}:∀{X:St},GX X->i<X.P.length->Sh 0 X (zdC X i w s l):=by
 induction l with
 |nil=>intro X h _;exact Sh.refl h
 |cons k l ih=>intro X h hi;have h1:=Sh.map (k:=k) (w:=w) (s:=s) h hi;exact h1.trans (ih h1.gx (lL hi h1.P))
theorem Sh.mapPages(h:GX X){i:Nat}{a n f:BitVec 32}(hi:i<X.P.length):Sh 0 X (zaz X i a n f).1:=by
 unfold zaz;split
 ·exact Sh.refl h
 ·split
  ·exact Sh.refl h
  ·exact Sh.maps h hi
theorem zuP(h:FAt M L X)(hF:zad M)(hg:GX X){i k K c1 g1:Nat}(hi:i<X.P.length)(hk:k<64){w s:Bool}{cf cp:Cells}(hcf:M.get L.f=some (.cells cf true 0))(hcp:M.get (L.p i)=some (.cells cp true 0))(hc1:M.next<=c1∧c1<M.next+K)(hg1:M.next<=g1∧g1<M.next+K)(hcg:c1≠g1):
  Be M L (zkN X i k w s) (((((M.put L.f (.cells (cf.write 7 [In (IntKind.i64.wrap (X.contents+1))]) true 0)).put c1 (.cells (ofL (List.replicate 64 (By 0#8)++ [In 1])) true 0)).put g1 (.cells (ofL [PT c1, .bool w, .bool s, .bool false]) true 0)).put (L.p i) (.cells (cp.write (61+k) [PT g1]) true 0)).bump K):=by
 have pl:=h.ids_lt (h.mp hi);have fl:=h.ids_lt h.mf;have h64:=hF.n64;have h0:=h.bump K;have A1:=h0.s_contents (cf:=cf) (x:=IntKind.i64.wrap (X.contents+1)) hcf;have hg1':=hg.set_contents (n:=IntKind.i64.wrap (X.contents+1));have hn1:¬L.D c1:=λe=>by have:=h.lt _ e;omega
 have hn2:¬L.D g1:=λe=>by have:=h.lt _ e;omega
 have A2:=A1.add_c hg1' (b:=c1) hn1 nO (by omega) (cs:=ofL (List.replicate 64 (By 0#8)++ [In 1])) (r:=⟨List.replicate 64 0#8,1⟩) ⟨rfl,rfl,rfl⟩;have hg2:=hg1'.add_c (r:=⟨List.replicate 64 0#8,1⟩) (by simp);have hcN:(L.C++ [c1]).getD X.C.length 0=c1:=by rw[<-h.lC,zaA]
 have A3:=A2.add_g hg2 (b:=g1) (λe=>e.elim hn2 λe=>hcg e.symm) nO (by omega) (cs:=ofL [PT c1, .bool w, .bool s, .bool false]) (r:=⟨X.C.length,w,s,false⟩) ⟨rfl,by show _=some (PT ((L.C++ [c1]).getD X.C.length 0));rw[hcN];rfl,rfl,rfl,rfl⟩ (by simp);have hgN:(L.G++ [g1]).getD X.G.length 0=g1:=by rw[<-h.lG,zaA]
 have hfp:¬L.p i=L.f:=λe=>h.f_p hi e.symm;have hne1:¬L.p i=c1:=by omega
 have hne2:¬L.p i=g1:=by omega
 obtain⟨cp',e1,e2⟩:=A3.pr i hi;have e1':(((((M.bump K).put L.f (.cells (cf.write 7 [In (IntKind.i64.wrap (X.contents+1))]) true 0)).put c1 (.cells (ofL (List.replicate 64 (By 0#8)++ [In 1])) true 0)).put g1 (.cells (ofL [PT c1, .bool w, .bool s, .bool false]) true 0))).get (L.p i)=some (.cells cp' true 0):=e1;rw[gP,if_neg hne2,gP,if_neg hne1,gP,if_neg hfp,gB,hcp] at e1';cases e1';have e3:=e2.s_pages hk (x:=some X.G.length);have A4:=A3.put_p hi e3;have hF4:Fd L.D M (((((M.bump K).put L.f (.cells (cf.write 7 [In (IntKind.i64.wrap (X.contents+1))]) true 0)).put c1 (.cells (ofL (List.replicate 64 (By 0#8)++ [In 1])) true 0)).put g1 (.cells (ofL [PT c1, .bool w, .bool s, .bool false]) true 0)).put (L.p i) (.cells (cp.write (61+k) [PT g1]) true 0)):=
  (((((Fd.refl hF).bump K).putO (h.dm _ h.mf) fl (by rw[hcf];simp)).putN hc1.1 nO).putN hg1.1 nO).putO (h.dm _ (h.mp hi)) pl (by rw[hcp];simp)
 have A5:FAt (((((M.bump K).put L.f (.cells (cf.write 7 [In (IntKind.i64.wrap (X.contents+1))]) true 0)).put c1 (.cells (ofL (List.replicate 64 (By 0#8)++ [In 1])) true 0)).put g1 (.cells (ofL [PT c1, .bool w, .bool s, .bool false]) true 0)).put (L.p i) (.cells (cp.write (61+k) [PT g1]) true 0)) {L with C:=L.C++ [c1],G:=L.G++ [g1],D:=λy=>(L.D y∨y=c1)∨y=g1} (zkN X i k w s):=by
  have hvv:pV ((some X.G.length).map (λx=>(L.G++ [g1]).getD x 0))=PT g1:=by show PT ((L.G++ [g1]).getD X.G.length 0)=PT g1;rw[hgN]
  rw[<-hvv];exact A4
 have hB:Be M L (zkN X i k w s) _:=⟨_,A5,⟨rfl,⟨[],by simp⟩,⟨[g1],rfl⟩,⟨[c1],rfl⟩,⟨[],by simp⟩,⟨[],by simp⟩,λy hy=>by
  rcases hy with(hy|hy)|hy
  ·exact .inl hy
  ·exact .inr (by omega)
  ·exact .inr (by omega)⟩,hF4⟩
 simp only[zbp] at hB;exact hB
end
section
variable{m m' M mr:Mem}{n:Nat}{L L' L1 L2:Loc}{X X' X1 X2 Y:St}{v:Value}{fl:List Value}{pid:Int}
theorem zGc{a:BitVec 32}{ty:Nat}:zcG EE.P .and ty (Um a) (.int .u32 2)=some (Um (a&&&2#32)):=zgi (b:=2#32)
theorem zhO(h:FAt m L X)(hm:zad m)(hg:GX X){i:Nat}(hi:i<X.P.length){a n f:BitVec 32}:∃u m',Con EE.P 26 [PT (L.p i),Um a,Um n,Um f] m u m'∧u=In (zaz X i a n f).2∧Be m L (zaz X i a n f).1 m':=by
 refine Con.raw zai zJh (bA rfl) _ ?_;by_cases h3:3<f.toNat
 ·have d1:=decide_eq_true (show(3:Int)<(f.toNat:Int) by omega);have e:zaz X i a n f=(X,22):=by unfold zaz;rw[if_pos (.inl h3)]
  rw[e];simp only[XX,XY,F26,yA,yB,yC,d1];exact(Be.same h hm _).raw.and_eq
 have d1:=decide_eq_false (show¬(3:Int)<(f.toNat:Int) by omega);simp only[XX,XY,F26,yA,yB,yC,d1];refine cZ (ziI (h.bump _) hg hi) ?_;cases hs:zbZ (X.p i) a.toNat n.toNat false with
 |false=>
  have e:zaz X i a n f=(X,22):=by unfold zaz;rw[if_pos (.inr hs)]
  rw[e];simp only[XX,XY,F26,yA,yB,yC];exact(Be.same h hm _).raw.and_eq
 |true=>
  obtain⟨cs,h1,h2⟩:=h.pr i hi;obtain⟨cf,f1,f2⟩:=h.fl;by_cases hfr:IntKind.i64.wrap (X.frames-X.contents)<(n.toNat:Int)
  ·have d2:=decide_eq_true hfr;have e:zaz X i a n f=(X,12):=by unfold zaz;rw[if_neg (λe=>e.elim h3 λe=>by rw[hs] at e;cases e),if_pos hfr]
   rw[e];simp only[XX,XY,F26,yA,yB,yC,h1,h2.f,f1,f2.frames,f2.contents,zdr,d2];exact(Be.same h hm _).raw.and_eq
  ·have d2:=decide_eq_false hfr;have e:zaz X i a n f=(zdC X i (fl1 f) (fl2 f) ((List.range n.toNat).map (a.toNat+·)),0):=by unfold zaz;rw[if_neg (λe=>e.elim h3 λe=>by rw[hs] at e;cases e),if_neg hfr]
   rw[e];have hl:=ziy hs;have hw2:IntKind.u32.wrap ((a.toNat:Int)+(n.toNat:Int))=((a.toNat+n.toNat:Nat):Int):=by rw[za4];omega
   simp only[XX,XY,F26,yA,yB,yC,h1,h2.f,f1,f2.frames,f2.contents,zdr,d2];refine WX.loop_of (λk tt M=>∃j:Nat,j<=n.toNat∧k=n.toNat-j∧tt=T 73 [(9, .int .u32 ((a.toNat+j:Nat):Int)),(0,PT (L.p i)),(1,Um a),(2,Um n),(3,Um f)]∧Be m L (zdC X i (fl1 f) (fl2 f) ((List.range j).map (a.toNat+·))) M) ?_ (k:=n.toNat) (t1:=T 73 [(9, .int .u32 ((a.toNat+0:Nat):Int)),(0,PT (L.p i)),(1,Um a),(2,Um n),(3,Um f)]) (vT ⟨rfl,rfl,rfl,rfl,rfl,trivial⟩) ⟨0,by omega,rfl,rfl,Be.same h hm _⟩;rintro kk tt M ⟨j,hj,rfl,rfl,hB⟩;have nx:=hB.next;by_cases hj2:j<n.toNat
   ·have g5:(((a.toNat+j:Nat):Int)<((a.toNat+n.toNat:Nat):Int)):=by omega
    have e5:=decide_eq_true g5;have g6:(0:Int)<=((a.toNat+j:Nat):Int):=by omega
    have g7:((a.toNat+j:Nat):Int)<((64:Nat):Int):=by omega
    have hw3:IntKind.u32.wrap (((a.toNat+j:Nat):Int)+1)=((a.toNat+(j+1):Nat):Int):=by rw[za4];omega
    have hSh:=Sh.maps (w:=fl1 f) (s:=fl2 f) (l:=(List.range j).map (a.toNat+·)) hg hi;have eP:zdC X i (fl1 f) (fl2 f) ((List.range (j+1)).map (a.toNat+·))=zkN (zdC X i (fl1 f) (fl2 f) ((List.range j).map (a.toNat+·))) i (a.toNat+j) (fl1 f) (fl2 f):=by rw[List.range_succ,List.map_append];exact zpk
    generalize zdC X i (fl1 f) (fl2 f) ((List.range j).map (a.toNat+·))=Y at hB hSh eP;have hiY:=lL hi hSh.P;obtain⟨L1,a1,x1,f1'⟩:=hB;have ep:L1.p i=L.p i:=x1.p (by rw[h.lP];exact hi);obtain⟨cp,p1,p2⟩:=a1.pr i hiY;obtain⟨cg,e1,e2⟩:=a1.fl;have pl:=a1.ids_lt (a1.mp hiY);have flt:=a1.ids_lt a1.mf;have hst:=λ(K c1 g1:Nat) (hc1:M.next<=c1∧c1<M.next+K) (hg1:M.next<=g1∧g1<M.next+K) (hcg:c1≠g1)=>zuP (K:=K) (c1:=c1) (g1:=g1) (k:=a.toNat+j) (w:=fl1 f) (s:=fl2 f) a1 f1'.fresh hSh.gx hiY (by omega) e1 p1 hc1 hg1 hcg;rw[ep] at p1 pl hst;have q1:=p2.f;have b123:zaT EE.P 123 [(1,In 1)]=some (.agg (List.replicate 64 (By 0#8)++ [In 1]).toArray):=kr;have b125:∀(x:Nat) (w s:Bool),zaT EE.P 125 [(0,PT x),(1, .bool w),(2, .bool s)]=some (.agg [PT x, .bool w, .bool s, .bool false].toArray):=λx w s=>by kernel_rfl
    have hl65:(List.replicate 64 (By 0#8)++ [In 1]).length=65:=rfl;have ha65:(List.replicate 64 (By 0#8)++ [In 1]).all oneCell=true:=rfl;have n1:¬L.p i=L1.f:=λe=>a1.f_p hiY (by rw[ep];exact e.symm);have n2:∀k,¬L.p i=M.next+k:=λk=>by omega
    have k1:61+(a.toNat+(j+1))<=cp.n:=by rw[p2.n];omega
    have k2:7+1<=cg.n:=by rw[e2.n];decide
    have ef1:(!decide (((f&&&1#32).toNat:Int)=0))=fl1 f:=rfl;have ef2:(!decide (((f&&&2#32).toNat:Int)=0))=fl2 f:=rfl;simp only[XX,XY,F26,yA,yB,yC,hw2,e5,g6,g7,nx,p1,q1,e1,e2.contents,k1,k2,n1,n2,b123,b125,zuy,zGc,ef1,ef2,hw3,zac,lA];refine⟨n.toNat-(j+1),_,_,by omega,vT (l':=[(9, .int .u32 ((a.toNat+(j+1):Nat):Int)),(0,PT (L.p i)),(1,Um a),(2,Um n),(3,Um f)]) ⟨rfl,rfl,rfl,rfl,rfl,trivial⟩,j+1,by omega,rfl,rfl,?_⟩;rw[eP];refine bE x1 f1' (hst _ _ _ ?_ ?_ ?_)
    all_goals omega
   ·obtain rfl:j=n.toNat:=by omega
    have g5:¬(((a.toNat+n.toNat:Nat):Int)<((a.toNat+n.toNat:Nat):Int)):=by omega
    have e5:=decide_eq_false g5;simp only[XX,XY,F26,yA,yB,yC,hw2,e5,nx,zam,lA];exact(hB.bump _).raw.and_eq
end
section
variable{m m' M mr:Mem}{n:Nat}{L L' L1 L2:Loc}{X X' X1 X2 Y:St}{v:Value}{fl:List Value}{pid:Int}
def cwB(r:zk0):Bool:=r.cow||(r.write&& !r.shared)
def clone1(X:St)(j k g:Nat):St:={X with C:=X.C.set (X.g g).c {X.c (X.g g).c with refs:=IntKind.i64.wrap ((X.c (X.g g).c).refs+1)},G:=X.G.set g {X.g g with cow:=cwB (X.g g)}++ [{X.g g with cow:=cwB (X.g g)}],P:=X.P.set j {X.p j with pages:=(X.p j).pages.set k (some X.G.length)}}
def zhz(X:St)(j k:Nat):Option Nat->St
 |none=>X
 |some g=>clone1 X j k g
def cloneI(X:St)(j:Nat)(F:List (Option Nat))(l:List Nat):St:=l.foldl (λY k=>zhz Y j k (F.getD k none)) X
theorem zlG{j k:Nat}{F:List (Option Nat)}{l:List Nat}:cloneI X j F (l++ [k])=zhz (cloneI X j F l) j k (F.getD k none):=by unfold cloneI;rw[List.foldl_append];rfl
theorem zt3{j:Nat}{F:List (Option Nat)}:cloneI X j F (List.range 0)=X:=rfl
theorem GC.all{r:zk0}{cs:Cells}(h:GC L r cs):cs.sub 0 4=some [PT (L.c r.c), .bool r.write, .bool r.shared, .bool r.cow]:=by
 refine zfY rfl (by rw[h.n];decide) λk hk=>?_;have g:∀{k:Nat} {v:Value},k<4->cs.nth k=some v->cs.get k=v:=λhk e=>by rw[zbV (by rw[h.n];exact hk)] at e;exact Option.some.inj e
 rw[Nat.zero_add]
 match k,hk with
 |0,_=>exact g (by decide) h.c
 |1,_=>exact g (by decide) h.write
 |2,_=>exact g (by decide) h.shared
 |3,_=>exact g (by decide) h.cow
theorem GX.clone1(h:GX X){j k g:Nat}(hj:j<X.P.length)(hgl:g<X.G.length):GX (clone1 X j k g):=by have hc:=h.gc g hgl;have h1:=h.set_c (c:=(X.g g).c) (r:={X.c (X.g g).c with refs:=IntKind.i64.wrap ((X.c (X.g g).c).refs+1)}) (h.cb _ hc);have h2:=h1.set_g (g:=g) (r:={X.g g with cow:=cwB (X.g g)}) (by simpa using hc);have h3:=h2.add_g (r:={X.g g with cow:=cwB (X.g g)}) (by simpa using hc);exact h3.set_p (i:=j) (r:={X.p j with pages:=(X.p j).pages.set k (some X.G.length)}) ((h3.px (i:=j) hj).s_pages λg hg=>by cases hg;simp)
theorem Sh.clone1(h:GX X){j k g:Nat}(hj:j<X.P.length)(hgl:g<X.G.length):Sh 0 X (clone1 X j k g):=⟨by simp[Go.Ab.clone1],lR' _,lR' _,by simp[Go.Ab.clone1],by simp[Go.Ab.clone1],lR' _,lR' _,h.clone1 hj hgl⟩
theorem Sh.cloneI{j:Nat}{F:List (Option Nat)}{l:List Nat}:∀{X:St},GX X->j<X.P.length->(∀k g,F.getD k none=some g->g<X.G.length)->Sh 0 X (cloneI X j F l):=by
 induction l with
 |nil=>intro X h _ _;exact Sh.refl h
 |cons k l ih=>
  intro X h hj hF;have h1:Sh 0 X (zhz X j k (F.getD k none)):=by
   cases e:F.getD k none with
   |none=>exact Sh.refl h
   |some g=>exact Sh.clone1 h hj (hF k g e)
  exact h1.trans (ih h1.gx (lL hj h1.P) λk g e=>lL (hF k g e) h1.G)
theorem zoQ(h:FAt M L X)(hF:zad M)(hg:GX X){j k g K id:Nat}(hj:j<X.P.length)(hk:k<64)(hgl:g<X.G.length){cc cg cp zc:Cells}{z0:zaS}(hcc:M.get (L.c (X.g g).c)=some (.cells cc true 0))(hcg:M.get (L.g g)=some (.cells cg true 0))(hcp:M.get (L.p j)=some (.cells cp true 0))(hz:zc.n=4)(hid:M.next<=id∧id<M.next+K):
  Be M L (clone1 X j k g) ((((((M.put (L.c (X.g g).c) (.cells (cc.write 64 [In (IntKind.i64.wrap ((X.c (X.g g).c).refs+1))]) true 0)).put (L.g g) (.cells (cg.write 3 [.bool (cwB (X.g g))]) true 0)).put id z0).put id (.cells (zc.write 0 [PT (L.c (X.g g).c), .bool (X.g g).write, .bool (X.g g).shared, .bool (cwB (X.g g))]) true 0)).put (L.p j) (.cells (cp.write (61+k) [PT id]) true 0)).bump K):=by
 have hcl:=hg.gc g hgl;have pl:=h.ids_lt (h.mp hj);have gl:=h.ids_lt (h.mg hgl);have cl:=h.ids_lt (h.mc hcl);have h64:=hF.n64;have h0:=h.bump K;have n1:¬L.g g=L.c (X.g g).c:=h.g_c hgl hcl;have hn1:¬L.D id:=λe=>by have:=h.lt _ e;omega
 have A1:=h0.s_refs hcl (cs:=cc) (x:=IntKind.i64.wrap ((X.c (X.g g).c).refs+1)) hcc;have A2:=A1.s_cow (g:=g) hgl (cs:=cg) (x:=cwB (X.g g)) (by rw[gP,if_neg n1];exact hcg);have hg1:=hg.set_c (c:=(X.g g).c) (r:={X.c (X.g g).c with refs:=IntKind.i64.wrap ((X.c (X.g g).c).refs+1)}) (hg.cb _ hcl);have hg2:=hg1.set_g (g:=g) (r:={X.g g with cow:=cwB (X.g g)}) (by simpa using hcl);have A2':=A2.new (b:=id) (o:=z0) hn1;have w:=λ(k:Nat) (hk:k<4)=>(zay (c:=zc) (o:=0) (n:=4) (l:=[PT (L.c (X.g g).c), .bool (X.g g).write, .bool (X.g g).shared, .bool (cwB (X.g g))]) rfl (by rw[hz];decide));have w':=λ(k:Nat) (hk:k<4)=>zcw (k:=k) (w k hk) hk;have A3:=A2'.add_g hg2 (b:=id) hn1 nO (by omega) (cs:=zc.write 0 [PT (L.c (X.g g).c), .bool (X.g g).write, .bool (X.g g).shared, .bool (cwB (X.g g))]) (r:={X.g g with cow:=cwB (X.g g)}) ⟨by rw[zap,hz],w' 0 (by decide),w' 1 (by decide),w' 2 (by decide),w' 3 (by decide)⟩ (by simpa using hcl);have hgN:(L.G++ [id]).getD X.G.length 0=id:=by rw[<-h.lG,zaA]
 have m1:¬L.p j=id:=by omega
 have m2:¬L.p j=L.g g:=h.p_g hj hgl;have m3:¬L.p j=L.c (X.g g).c:=h.p_c hj hcl;obtain⟨cp',e1,e2⟩:=A3.pr j hj;have e1':((((((M.bump K).put (L.c (X.g g).c) (.cells (cc.write 64 [In (IntKind.i64.wrap ((X.c (X.g g).c).refs+1))]) true 0)).put (L.g g) (.cells (cg.write 3 [.bool (cwB (X.g g))]) true 0)).put id z0).put id (.cells (zc.write 0 [PT (L.c (X.g g).c), .bool (X.g g).write, .bool (X.g g).shared, .bool (cwB (X.g g))]) true 0))).get (L.p j)=some (.cells cp' true 0):=e1;rw[gP,if_neg m1,gP,if_neg m1,gP,if_neg m2,gP,if_neg m3,gB,hcp] at e1';cases e1';have e3:=e2.s_pages hk (x:=some X.G.length);have A4:=A3.put_p hj e3;have hF4:Fd L.D M ((((((M.bump K).put (L.c (X.g g).c) (.cells (cc.write 64 [In (IntKind.i64.wrap ((X.c (X.g g).c).refs+1))]) true 0)).put (L.g g) (.cells (cg.write 3 [.bool (cwB (X.g g))]) true 0)).put id z0).put id (.cells (zc.write 0 [PT (L.c (X.g g).c), .bool (X.g g).write, .bool (X.g g).shared, .bool (cwB (X.g g))]) true 0)).put (L.p j) (.cells (cp.write (61+k) [PT id]) true 0)):=
  ((((((Fd.refl hF).bump K).putO (h.dm _ (h.mc hcl)) cl (by rw[hcc];simp)).putO (h.dm _ (h.mg hgl)) gl (by rw[hcg];simp)).putN hid.1 nO).putN hid.1 nO).putO (h.dm _ (h.mp hj)) pl (by rw[hcp];simp)
 have A5:FAt ((((((M.bump K).put (L.c (X.g g).c) (.cells (cc.write 64 [In (IntKind.i64.wrap ((X.c (X.g g).c).refs+1))]) true 0)).put (L.g g) (.cells (cg.write 3 [.bool (cwB (X.g g))]) true 0)).put id z0).put id (.cells (zc.write 0 [PT (L.c (X.g g).c), .bool (X.g g).write, .bool (X.g g).shared, .bool (cwB (X.g g))]) true 0)).put (L.p j) (.cells (cp.write (61+k) [PT id]) true 0)) {L with G:=L.G++ [id],D:=λy=>L.D y∨y=id} (clone1 X j k g):=by
  have hvv:pV ((some X.G.length).map (λx=>(L.G++ [id]).getD x 0))=PT id:=by show PT ((L.G++ [id]).getD X.G.length 0)=PT id;rw[hgN]
  have hle:(X.G.set g {X.g g with cow:=cwB (X.g g)}).length=X.G.length:=by simp
  rw[<-hvv];exact A4
 have hB:Be M L (clone1 X j k g) _:=⟨_,A5,⟨rfl,⟨[],by simp⟩,⟨[id],rfl⟩,⟨[],by simp⟩,⟨[],by simp⟩,⟨[],by simp⟩,λy hy=>by
  rcases hy with hy|hy
  ·exact .inl hy
  ·exact .inr (by omega)⟩,hF4⟩
 simp only[zbp] at hB;exact hB
theorem zri(h:FAt m L X)(hm:zad m)(hg:GX X){i j:Nat}(hi:i<X.P.length)(hj:j<X.P.length)(hij:i≠j):∃u m',Con EE.P 235 [PT (L.p i),PT (L.p j)] m u m'∧Be m L (cloneI X j (X.p i).pages (List.range 64)) m':=by
 refine Con.raw zai zF2 (bA rfl) _ ?_;obtain⟨cs,h1,h2⟩:=h.pr i hi;have hsp:=h2.pages;obtain⟨F,hF⟩:∃F,F=(X.p i).pages:=⟨_,rfl⟩;have hFl:F.length=64:=by rw[hF];exact(hg.pg i hi).1
 have hFg:∀k g,F.getD k none=some g->g<X.G.length:=λk g e=>by rw[hF] at e;exact(hg.pg i hi).2 k g e
 rw[<-hF] at hsp⊢;have hl64:(F.map λx=>pV (x.map L.g)).length=64:=by rw[lM];exact hFl
 simp only[XX,XY,zD6,yA,yB,yC,h1,hsp];refine WX.loop_of (λkk tt M=>∃k:Nat,k<=64∧kk=64-k∧tt=T 56 [(11,In k),(10, .agg (F.map λx=>pV (x.map L.g)).toArray),(0,PT (L.p i)),(1,PT (L.p j))]∧Be m L (cloneI X j F (List.range k)) M) ?_ (k:=64) (t1:=T 56 [(11,In (0:Nat)),(10, .agg (F.map λx=>pV (x.map L.g)).toArray),(0,PT (L.p i)),(1,PT (L.p j))]) (vT ⟨rfl,rfl,rfl,rfl,trivial⟩) ⟨0,by omega,rfl,rfl,by rw[zt3];exact Be.same h hm _⟩;rintro kk tt M ⟨k,hk,rfl,rfl,hB⟩;have nx:=hB.next;by_cases hk2:k<64
 ·have g1:(k:Int)<64:=by omega
  have g2:(0:Int)<=k:=by omega
  have g3:(k:Int)<((64:Nat):Int):=by omega
  have hw:IntKind.i64.wrap ((k:Int)+1)=((k+1:Nat):Int):=by rw[zae (by omega) (by omega)];omega
  have hix:ixV EE.P 81 (.agg (F.map λx=>pV (x.map L.g)).toArray) (In k)=some (pV ((F.getD k none).map L.g)):=by rw[zf2 ziF g2 g3,zow,zin,znY,Int.toNat_natCast,Nat.mul_one,gM',gD',gE' (by omega)];rfl
  have eS:cloneI X j F (List.range (k+1))=zhz (cloneI X j F (List.range k)) j k (F.getD k none):=by rw[List.range_succ,zlG]
  have hSh:=Sh.cloneI (l:=List.range k) hg hj hFg;cases hx:F.getD k none with
  |none=>rw[hx] at hix eS;simp only[XX,XY,zD6,yA,yB,yC,zsf,g1,hix,nx,hw,zac,lA];refine⟨64-(k+1),_,_,by omega,vT (l':=[(11,In ((k+1:Nat):Int)),(10, .agg (F.map λx=>pV (x.map L.g)).toArray),(0,PT (L.p i)),(1,PT (L.p j))]) ⟨rfl,rfl,rfl,rfl,trivial⟩,k+1,by omega,rfl,rfl,?_⟩;rw[eS];exact hB.bump _
  |some g=>
   rw[hx] at hix eS;have hgl0:=hFg k g hx;generalize cloneI X j F (List.range k)=Y at hB hSh eS;have hgl:=lL hgl0 hSh.G;have hjY:=lL hj hSh.P;obtain⟨L1,a1,x1,f1⟩:=hB;have eg:L1.g g=L.g g:=x1.g (by rw[h.lG];exact hgl0);have ej:L1.p j=L.p j:=x1.p (by rw[h.lP];exact hj);obtain⟨cg,p1,p2⟩:=a1.pg g hgl;have hcl:=hSh.gx.gc g hgl;obtain⟨cc,c1,c2⟩:=a1.ct _ hcl;obtain⟨cp,q1,q2⟩:=a1.pr j hjY;have gl:=a1.ids_lt (a1.mg hgl);have pl:=a1.ids_lt (a1.mp hjY);have cl:=a1.ids_lt (a1.mc hcl);have n1:¬L1.g g=L1.c (Y.g g).c:=a1.g_c hgl hcl;have n2:¬L1.p j=L1.c (Y.g g).c:=a1.p_c hjY hcl;have n3:¬L1.p j=L1.g g:=a1.p_g hjY hgl;have hst:=λ(K id:Nat) (zc:Cells) (z0:zaS) (hz:zc.n=4) (hid:M.next<=id∧id<M.next+K)=>zoQ (K:=K) (id:=id) (k:=k) (zc:=zc) (z0:=z0) a1 f1.fresh hSh.gx hjY hk2 hgl c1 p1 q1 hz hid;have w4:(cg.write 3 [.bool (cwB (Y.g g))]).sub 0 4=some [PT (L1.c (Y.g g).c), .bool (Y.g g).write, .bool (Y.g g).shared, .bool (cwB (Y.g g))]:=(p2.w_cow (x:=cwB (Y.g g))).all;rw[eg] at p1 gl n1 n3 hst;rw[ej] at q1 pl n2 n3 hst;have n4:∀k,¬L.p j=M.next+k:=λk=>by omega
   have k1:64+1<=cc.n:=by rw[c2.n];decide
   have k2:3+1<=cg.n:=by rw[p2.n];decide
   have k3:61+(k+1)<=cp.n:=by rw[q2.n];omega
   cases hcow:(Y.g g).cow<;>cases hwr:(Y.g g).write<;>cases hsh:(Y.g g).shared
   all_goals
    simp only[cwB,hcow,hwr,hsh,Bool.or_true,Bool.or_false,Bool.and_true,Bool.and_false,Bool.not_true,Bool.not_false] at w4 hst;simp only[XX,XY,zD6,yA,yB,yC,zc9,g1,g2,g3,hix,nx,p1,p2.c,p2.write,p2.shared,p2.cow,hcow,hwr,hsh,c1,c2.refs,w4,q1,n1,n2,n3,n4,k1,k2,k3,hw,zac,lA];refine⟨64-(k+1),_,_,by omega,vT (l':=[(11,In ((k+1:Nat):Int)),(10, .agg (F.map λx=>pV (x.map L.g)).toArray),(0,PT (L.p i)),(1,PT (L.p j))]) ⟨rfl,rfl,rfl,rfl,trivial⟩,k+1,by omega,rfl,rfl,?_⟩;rw[eS];refine bE x1 f1 (hst _ _ _ _ ?_ ?_)
    ·rfl
    ·omega
 ·obtain rfl:k=64:=by omega
  have g1:¬((64:Nat):Int)<64:=by omega
  simp only[XX,XY,zD6,yA,yB,yE,g1,nx,zam];exact(hB.bump _).raw
end
section
variable{m m' M mr:Mem}{n:Nat}{L L' L1 L2:Loc}{X X' X1 X2 Y:St}{v:Value}{fl:List Value}{pid:Int}
theorem zuv{α:Type}{l:List α}(h:l.length=2):∃a0 a1,l=[a0,a1]:=by
 match l,h with
 |[a0,a1],_=>exact⟨a0,a1,rfl⟩
theorem zoS{α:Type}{l:List α}(h:l.length=8):∃a0 a1 a2 a3 a4 a5 a6 a7,l=[a0,a1,a2,a3,a4,a5,a6,a7]:=by
 match l,h with
 |[a0,a1,a2,a3,a4,a5,a6,a7],_=>exact⟨a0,a1,a2,a3,a4,a5,a6,a7,rfl⟩
theorem zvW{α:Type}{l:List α}(h:l.length=16):∃a0 a1 a2 a3 a4 a5 a6 a7 b0 b1 b2 b3 b4 b5 b6 b7,l=[a0,a1,a2,a3,a4,a5,a6,a7,b0,b1,b2,b3,b4,b5,b6,b7]:=by
 match l,h with
 |[a0,a1,a2,a3,a4,a5,a6,a7,b0,b1,b2,b3,b4,b5,b6,b7],_=>exact⟨a0,a1,a2,a3,a4,a5,a6,a7,b0,b1,b2,b3,b4,b5,b6,b7,rfl⟩
def zi6(f:Nat)(nx pr:Int)(c d:Cpu)(s:Sg)(V:List Value)(a:BitVec 32):List Value:=
 [PT f,In nx,In pr,In 1,Um 0#32]++(zbm c++(zbm d++(sgL s++([In 0, .pointer none, .pointer none, .pointer none,Um 0#32,Um 0#32]++(V++([Um a]++List.replicate 64 (.pointer none)))))))
theorem zx2{f:Nat}{nx pr:Int}{c d:Cpu}{s:Sg}{V:List Value}{a:BitVec 32}(hc:c.ok)(hd:d.ok)(hs:s.h.length=16)(hV:V.length=8):
  zaT EE.P 83 [(0,PT f),(1,In nx),(2,In pr),(3,In 1),(5, .agg (zbm c).toArray),(6, .agg (zbm d).toArray),(7,SgV s),(12, .agg V.toArray),(13,Um a)]=some (.agg (zi6 f nx pr c d s V a).toArray):=by
 obtain⟨cr,cz,cp⟩:=c;obtain⟨dr,dz,dp⟩:=d;obtain⟨sp,sm,sh,sb⟩:=s;obtain⟨hc1,hc2,hc3⟩:=hc;obtain⟨hd1,hd2,hd3⟩:=hd;simp only at hc1 hc2 hd1 hd2 hs;obtain⟨a0,a1,a2,a3,a4,a5,a6,a7,rfl⟩:=zoS hc1;obtain⟨b0,b1,b2,b3,b4,b5,b6,b7,rfl⟩:=zoS hd1;obtain⟨y0,y1,rfl⟩:=zuv hc2;obtain⟨w0,w1,rfl⟩:=zuv hd2;obtain⟨h0,h1,h2,h3,h4,h5,h6,h7,h8,h9,h10,h11,h12,h13,h14,h15,rfl⟩:=zvW hs;obtain⟨v0,v1,v2,v3,v4,v5,v6,v7,rfl⟩:=zoS hV
 kernel_rfl
theorem zg2{f:Nat}{nx pr:Int}{c d:Cpu}{s:Sg}{V:List Value}{a:BitVec 32}(hc:c.ok)(hd:d.ok)(hs:s.h.length=16)(hV:V.length=8):(zi6 f nx pr c d s V a).length=125:=by unfold zi6;simp only[aL,zcy hc,zcy hd,za6 hs,hV,List.length_cons,List.length_nil,List.length_replicate]
theorem zkX{f:Nat}{nx pr:Int}{c d:Cpu}{s:Sg}{V:List Value}{a:BitVec 32}(hV:V.all oneCell=true):(zi6 f nx pr c d s V a).all oneCell=true:=by unfold zi6;simp only[List.all_append,zdQ,zbv,hV,Bool.true_and];rfl
def zfL(X:St)(i:Nat):zb9:={pid:=X.next,parent:=(X.p i).pid,state:=1,status:=0#32,cpu:=(X.p i).cpu,saved:=(X.p i).saved,sig:={(X.p i).sig with pend:=0#32},wait:=0,pipe:=none,fut:=⟨none,none,0#32⟩,left:=0#32,fds:=(X.p i).fds,aff:=(X.p i).aff,pages:=List.replicate 64 none}
theorem zue{i:Nat}(hc:(X.p i).cpu.ok)(hd:(X.p i).saved.ok)(hs:(X.p i).sig.h.length=16)(hf:(X.p i).fds.length=8):
  PC L (zfL X i) (ofL (zi6 L.f X.next (X.p i).pid (X.p i).cpu (X.p i).saved {(X.p i).sig with pend:=0#32} ((X.p i).fds.map λx=>pV (x.map L.x)) (X.p i).aff)):=by
 unfold zfL;generalize(X.p i).cpu=c at hc⊢;generalize(X.p i).saved=d at hd⊢;generalize(X.p i).sig=s at hs⊢;generalize(X.p i).fds=F at hf⊢;generalize(X.p i).aff=af;generalize(X.p i).pid=pr;generalize X.next=nx;have hl:∀s:Sg,s.h.length=16->(zi6 L.f nx pr c d s (F.map λx=>pV (x.map L.x)) af).length=125:=λs hs=>zg2 hc hd hs (by simpa using hf);refine⟨by rw[zbW];exact hl _ hs,?_,?_,?_,?_,?_,?_,?_,?_,?_,?_,?_,?_,?_,?_,?_,hc,hd,hs⟩
 all_goals
  obtain⟨cr,cz,cp⟩:=c;obtain⟨dr,dz,dp⟩:=d;obtain⟨sp,sm,sh,sb⟩:=s;obtain⟨hc1,hc2,hc3⟩:=hc;obtain⟨hd1,hd2,hd3⟩:=hd;simp only at hc1 hc2 hd1 hd2 hs;obtain⟨a0,a1,a2,a3,a4,a5,a6,a7,rfl⟩:=zoS hc1;obtain⟨b0,b1,b2,b3,b4,b5,b6,b7,rfl⟩:=zoS hd1;obtain⟨y0,y1,rfl⟩:=zuv hc2;obtain⟨w0,w1,rfl⟩:=zuv hd2;obtain⟨h0,h1,h2,h3,h4,h5,h6,h7,h8,h9,h10,h11,h12,h13,h14,h15,rfl⟩:=zvW hs;obtain⟨v0,v1,v2,v3,v4,v5,v6,v7,rfl⟩:=zoS hf
  kernel_rfl
theorem FAt.s_xrefs(h:FAt m L X){c:Nat}(hc:c<X.F.length){cs:Cells}(e:m.get (L.x c)=some (.cells cs true 0)){x:Int}:FAt (m.put (L.x c) (.cells (cs.write 2 [In x]) true 0)) L {X with F:=X.F.set c {X.x c with refs:=x}}:=by obtain⟨c1,h1,h2⟩:=h.xs c hc;rw[e] at h1;cases h1;exact h.put_x hc h2.w_refs
theorem FAt.set_lv(h:FAt m L X){M:Mem}{v':Value}{id:Nat}{S:List Nat}{cf:Cells}(f1:m.get L.f=some (.cells cf true 0))(f2:FC L X cf)(hn:m.next<=M.next)(hid:m.next<=id∧id<M.next)(h64:64<=m.next)
  (hold:∀y,y<m.next->slB L.lv≠some y->M.get y=m.get y) (hsl:SlV M 1 v' S.length (S.map λi=>PT (L.p i))) (hS:∀j∈S,j<X.P.length) (hb:slB v'=slB L.lv∨slB v'=some id∨slB v'=none):
  FAt (M.put L.f (.cells (cf.write 5 [v']) true 0)) {L with lv:=v',D:=λy=>L.D y∨y=id} {X with l:=S}:=by
 have hi:∀y∈L.ids,M.get y=m.get y:=λy hy=>hold y (h.ids_lt hy) (by obtain⟨cs,hc⟩:=h.cell0 hy;exact h.ls.ne0 (by decide) hc);have hsd:∀{z n:Nat} {v:Value} {fl:List Value},z≠0->SlV m z v n fl->(∀y,slB v=some y->L.D y)->(∀y,slB v=some y->slB L.lv≠some y)->SlV (M.put L.f (.cells (cf.write 5 [v']) true 0)) z v n fl:=λ{z n v fl} hz hv hd hne=>hv.keep λy o hy ho=>by have h1:y≠L.f:=λe=>hv.ne0 hz f1 (by rw[hy,e]);rw[gP,if_neg h1,hold y (h.lt y (hd y hy)) (hne y hy)];exact ho
 refine⟨⟨_,by rw[gP,if_pos rfl],?_⟩,λk hk=>?_,λk hk=>?_,λk hk=>?_,λk hk=>?_,λk hk=>?_,h.lP,h.lG,h.lC,h.lI,h.lF,h.lb,h.nd,λy hy=> .inl (h.dm y hy),?_,hsd (by decide) h.fs h.df (λy hy e=>(h.sep y e).1 hy),hsd (by decide) h.ss h.ds (λy hy e=>?_),λk hk=>hsd (by decide) (h.bs k hk) (λy=>h.db k y hk) (λy hy e=>(h.sep y e).2 k hk hy),λy hy=>?_,λy hy=> .inl (h.df y hy),λy hy=> .inl (h.ds y hy),λk y hk hy=> .inl (h.db k y hk hy),λy hy=>?_,λy hy=>?_,λy hy=>?_,hS,h.pf⟩
 ·exact⟨by rw[zap,f2.n],(zaa (.inl (by decide))).trans f2.cores,(zaa (.inl (by decide))).trans f2.frames,(zaa (.inl (by decide))).trans f2.procs,(zaa (.inl (by decide))).trans f2.cap,(zaa (.inl (by decide))).trans f2.prog,zak (by rw[f2.n];decide),(zaa (.inr (bA rfl))).trans f2.fv,(zaa (.inr (bA rfl))).trans f2.contents,(zaa (.inr (bA rfl))).trans f2.files,(zaa (.inr (bA rfl))).trans f2.pipes,(zaa (.inr (bA rfl))).trans f2.next,(zaa (.inr (bA rfl))).trans f2.halted,(zaa (.inr (bA rfl))).trans f2.sv⟩
 ·obtain⟨c1,a1,a2⟩:=h.pr k hk;exact⟨c1,by rw[gP,if_neg (λe=>h.f_p hk e.symm),hi _ (h.mp hk)];exact a1,a2.move rfl (λ_ _=>rfl) (λ_ _ _=>rfl) (λ_ _ _=>rfl) (λ_ _=>rfl) λ_ _=>rfl⟩
 ·obtain⟨c1,a1,a2⟩:=h.pg k hk;exact⟨c1,by rw[gP,if_neg (λe=>h.f_g hk e.symm),hi _ (h.mg hk)];exact a1,a2.move rfl⟩
 ·obtain⟨c1,a1,a2⟩:=h.ct k hk;exact⟨c1,by rw[gP,if_neg (λe=>h.f_c hk e.symm),hi _ (h.mc hk)];exact a1,a2.move⟩
 ·obtain⟨c1,a1,a2⟩:=h.ip k hk;exact⟨c1,by rw[gP,if_neg (λe=>h.f_i hk e.symm),hi _ (h.mi hk)];exact a1,a2⟩
 ·obtain⟨c1,a1,a2⟩:=h.xs k hk;exact⟨c1,by rw[gP,if_neg (λe=>h.f_x hk e.symm),hi _ (h.mx hk)];exact a1,a2.move rfl⟩
 ·exact hsl.put0 (by decide) (by rw[hi _ h.mf];exact f1)
 ·obtain⟨c1,e1⟩:=h.ss.ob hy;obtain⟨c2,e2⟩:=h.ls.ob e;rw[e1] at e2;cases e2
 ·rcases hb with e|e|e
  ·exact .inl (h.dl y (e▸hy))
  ·rw[e] at hy;cases hy;exact .inr rfl
  ·rw[e] at hy;cases hy
 ·have hy:slB v'=some y:=hy;rcases hb with e|e|e
  ·rw[e] at hy;exact h.sep y hy
  ·rw[e] at hy;cases hy;exact⟨λe=>by have:=h.lt _ (h.df _ e);omega,λk hk e=>by have:=h.lt _ (h.db k _ hk e);omega⟩
  ·rw[e] at hy;cases hy
 ·rcases hy with hy|rfl
  ·exact lL (h.lt y hy) (by rw[nP];exact hn)
  ·rw[nP];exact hid.2
 ·rcases hy with hy|rfl
  ·exact h.d64 y hy
  ·omega
theorem GX.set_l(h:GX X){S:List Nat}(hS:(S.length:Int)<=X.procs):GX {X with l:=S}:=⟨hS,h.pr,h.fr,h.cp,h.co,h.nx,h.pg,h.fd,h.pp,h.fc,h.fp,h.gc,h.cb,h.xp,h.ib⟩
end
end
end Go.Ab
