/- Part. -/
import Derived.Test.YtdhcheegbnnlbaaGreatDoorR07
import GoSem.Core.Float
set_option linter.all false
open Go.Ab.Mem renaming next_bump → bN, next_put → nP, get_bump → gB, get_put → gP
open Nat renaming le_of_ble_eq_true → bA, le_add_right_of_le → lA, lt_of_lt_of_le → lL, le_refl → lR', le_trans → lT
open List renaming getD_eq_getElem?_getD → gD', getElem?_eq_getElem → gE', append_assoc → aA, getElem?_append_left → aB', mem_append_right → aD', getElem?_map → gM'
open Bool renaming false_eq_true → bF
open Go.Ab.CallI renaming ex2 → cX, con0 → cZ
open Go.Ab.TidyE renaming pure → tP
open Go.Ab.Cells renaming ofList → ofL
open Go.Ab.View renaming temps → vT
open Nat renaming reduceLT → yA, reduceEqDiff → yB, reduceAdd → yC, reduceMul → yD, reduceSub → yE, reducePow → yF, reduceLeDiff → yG
open Int renaming reduceEq → yH, reduceLT → yI, reduceLE → yJ
namespace Go.Ab
open Go.Proofs
noncomputable section
structure IC(bv:Value)(r:zpG)(cs:Cells):Prop where
 n:cs.n=3
 bv:cs.nth 0=some bv
 readers:cs.nth 1=some (In r.readers)
 writers:cs.nth 2=some (In r.writers)
abbrev Loc.b(L:Loc)(i:Nat):Value:=L.bv.getD i (.slice none 0 0)
def Loc.ids(L:Loc):List Nat:=L.f::(L.P++(L.G++(L.C++(L.I++L.F))))
structure FAt(m:Mem)(L:Loc)(X:St):Prop where
 fl:∃cs,m.get L.f=some (.cells cs true 0)∧FC L X cs
 pr:∀k,k<X.P.length->∃cs,m.get (L.p k)=some (.cells cs true 0)∧PC L (X.p k) cs
 pg:∀k,k<X.G.length->∃cs,m.get (L.g k)=some (.cells cs true 0)∧GC L (X.g k) cs
 ct:∀k,k<X.C.length->∃cs,m.get (L.c k)=some (.cells cs true 0)∧CC L (X.c k) cs
 ip:∀k,k<X.I.length->∃cs,m.get (L.i k)=some (.cells cs true 0)∧IC (L.bv.getD k (.slice none 0 0)) (X.i k) cs
 xs:∀k,k<X.F.length->∃cs,m.get (L.x k)=some (.cells cs true 0)∧XC L (X.x k) cs
 lP:L.P.length=X.P.length
 lG:L.G.length=X.G.length
 lC:L.C.length=X.C.length
 lI:L.I.length=X.I.length
 lF:L.F.length=X.F.length
 lb:L.bv.length=X.I.length
 nd:L.ids.Nodup
 dm:∀y∈L.ids,L.D y
 ls:SlV m 1 L.lv X.l.length (X.l.map λi=>PT (L.p i))
 fs:SlV m 1 L.fv X.fut.length (X.fut.map λi=>PT (L.p i))
 ss:SlV m 4 L.sv X.seen.length (X.seen.flatMap zpm)
 bs:∀k,k<X.I.length->SlV m 1 (L.b k) (X.i k).b.length ((X.i k).b.map By)
 dl:∀y,slB L.lv=some y->L.D y
 df:∀y,slB L.fv=some y->L.D y
 ds:∀y,slB L.sv=some y->L.D y
 db:∀k y,k<X.I.length->slB (L.b k)=some y->L.D y
 sep:∀y,slB L.lv=some y->slB L.fv≠some y∧∀k,k<X.I.length->slB (L.b k)≠some y
 lt:∀y,L.D y->y<m.next
 d64:∀y,L.D y->64<=y
 pi:∀j∈X.l,j<X.P.length
 pf:∀j∈X.fut,j<X.P.length
structure Fd(D:Nat->Prop)(m m':Mem):Prop where
 next:m.next<=m'.next
 fresh:zad m'
 old:∀y,y<m.next->¬D y->m'.get y=m.get y
 low:∀y,y<m.next->m.get y=none->m'.get y=none
structure Lx(n:Nat)(L L':Loc):Prop where
 f:L'.f=L.f
 P:∃l,L'.P=L.P++l
 G:∃l,L'.G=L.G++l
 C:∃l,L'.C=L.C++l
 I:∃l,L'.I=L.I++l
 F:∃l,L'.F=L.F++l
 D:∀y,L'.D y->L.D y∨n<=y
theorem zce{l k:List Nat}{i:Nat}(h:i<l.length):(l++k).getD i 0=l.getD i 0:=by rw[gD',gD',aB' h]
theorem zax{l:List Nat}{i:Nat}(h:i<l.length):l.getD i 0∈l:=by rw[gD',gE' h];exact List.getElem_mem h
theorem zfO{l:List Nat}{i j:Nat}(hn:l.Nodup)(hi:i<l.length)(hj:j<l.length)(h:l.getD i 0=l.getD j 0):i=j:=by
 rw[gD',gD',gE' hi,gE' hj] at h;rcases Nat.lt_trichotomy i j with hij|hij|hij
 ·exact absurd h (List.pairwise_iff_getElem.1 hn i j hi hj hij)
 ·exact hij
 ·exact absurd h.symm (List.pairwise_iff_getElem.1 hn j i hj hi hij)
theorem Fd.refl{D:Nat->Prop}{m:Mem}(h:zad m):Fd D m m:=⟨lR' _,h,λ_ _ _=>rfl,λ_ _ h=>h⟩
theorem Fd.bump{D:Nat->Prop}{m m':Mem}(h:Fd D m m')(j:Nat):Fd D m (m'.bump j):=⟨by rw[bN];exact lA h.next,h.fresh.bump,h.old,h.low⟩
theorem Fd.of_nx{D:Nat->Prop}{m m':Mem}(h:Nx m m'):Fd D m m':=⟨h.next,h.fresh,λy hy _=>h.old y hy,λy hy e=>by rw[h.old y hy,e]⟩
theorem Fd.trans{D D':Nat->Prop}{m m1 m2:Mem}(h:Fd D m m1)(k:Fd D' m1 m2)(hD:∀y,D' y->D y∨m.next<=y):Fd D m m2:=
 ⟨lT h.next k.next,k.fresh,λy hy hn=>by
  rw[k.old y (lL hy h.next) (λe=>(hD y e).elim hn (λe2=>by omega)),h.old y hy hn],
  λy hy e=>k.low y (lL hy h.next) (h.low y hy e)⟩
theorem Fd.grow{D:Nat->Prop}{m m':Mem}(h:Fd D m m'):Grow m m':=⟨h.next,h.low⟩
theorem Fd.raw{D:Nat->Prop}{m m':Mem}{u:Value}{R:Value->Mem->Prop}(h:Fd D m m')(hR:R u m'):zcY m m' u R:=⟨h.grow,hR⟩
theorem Lx.refl{n:Nat}{L:Loc}:Lx n L L:=⟨rfl,⟨[],by simp⟩,⟨[],by simp⟩,⟨[],by simp⟩,⟨[],by simp⟩,⟨[],by simp⟩,λ_ h=> .inl h⟩
theorem Lx.trans{n k:Nat}{L L1 L2:Loc}(h:Lx n L L1)(g:Lx k L1 L2)(hn:n<=k):Lx n L L2:=by
 obtain⟨h0,⟨a1,h1⟩,⟨a2,h2⟩,⟨a3,h3⟩,⟨a4,h4⟩,⟨a5,h5⟩,h6⟩:=h;obtain⟨g0,⟨b1,g1⟩,⟨b2,g2⟩,⟨b3,g3⟩,⟨b4,g4⟩,⟨b5,g5⟩,g6⟩:=g;exact⟨g0.trans h0,⟨a1++b1,by rw[g1,h1,aA]⟩,⟨a2++b2,by rw[g2,h2,aA]⟩,⟨a3++b3,by rw[g3,h3,aA]⟩,⟨a4++b4,by rw[g4,h4,aA]⟩,⟨a5++b5,by rw[g5,h5,aA]⟩,
  λy hy=>(g6 y hy).elim (h6 y) (λe=> .inr (by omega))⟩
section
variable{m m':Mem}{L L':Loc}{X:St}{n:Nat}
theorem Lx.p(h:Lx n L L'){j:Nat}(hj:j<L.P.length):L'.p j=L.p j:=by obtain⟨l,e⟩:=h.P;show L'.P.getD j 0=_;rw[e,zce hj]
theorem Lx.g(h:Lx n L L'){j:Nat}(hj:j<L.G.length):L'.g j=L.g j:=by obtain⟨l,e⟩:=h.G;show L'.G.getD j 0=_;rw[e,zce hj]
theorem Lx.c(h:Lx n L L'){j:Nat}(hj:j<L.C.length):L'.c j=L.c j:=by obtain⟨l,e⟩:=h.C;show L'.C.getD j 0=_;rw[e,zce hj]
theorem Lx.i(h:Lx n L L'){j:Nat}(hj:j<L.I.length):L'.i j=L.i j:=by obtain⟨l,e⟩:=h.I;show L'.I.getD j 0=_;rw[e,zce hj]
theorem Lx.x(h:Lx n L L'){j:Nat}(hj:j<L.F.length):L'.x j=L.x j:=by obtain⟨l,e⟩:=h.F;show L'.F.getD j 0=_;rw[e,zce hj]
theorem FAt.mp(h:FAt m L X){j:Nat}(hj:j<X.P.length):L.p j∈L.ids:=List.mem_cons_of_mem _ (List.mem_append_left _ (zax (by rw[h.lP];exact hj)))
theorem FAt.mg(h:FAt m L X){j:Nat}(hj:j<X.G.length):L.g j∈L.ids:=List.mem_cons_of_mem _ (aD' _ (List.mem_append_left _ (zax (by rw[h.lG];exact hj))))
theorem FAt.mc(h:FAt m L X){j:Nat}(hj:j<X.C.length):L.c j∈L.ids:=List.mem_cons_of_mem _ (aD' _ (aD' _ (List.mem_append_left _ (zax (by rw[h.lC];exact hj)))))
theorem FAt.mi(h:FAt m L X){j:Nat}(hj:j<X.I.length):L.i j∈L.ids:=List.mem_cons_of_mem _ (aD' _ (aD' _ (aD' _ (List.mem_append_left _ (zax (by rw[h.lI];exact hj))))))
theorem FAt.mx(h:FAt m L X){j:Nat}(hj:j<X.F.length):L.x j∈L.ids:=List.mem_cons_of_mem _ (aD' _ (aD' _ (aD' _ (aD' _ (zax (by rw[h.lF];exact hj))))))
theorem FAt.mf(_:FAt m L X):L.f∈L.ids:=List.mem_cons_self
theorem FAt.nds(h:FAt m L X):L.f∉L.P++(L.G++(L.C++(L.I++L.F)))∧(L.P.Nodup∧(L.G.Nodup∧(L.C.Nodup∧(L.I.Nodup∧L.F.Nodup∧∀a∈L.I,∀b∈L.F,a≠b)∧∀a∈L.C,∀b∈L.I++L.F,a≠b)∧∀a∈L.G,∀b∈L.C++(L.I++L.F),a≠b)∧∀a∈L.P,∀b∈L.G++(L.C++(L.I++L.F)),a≠b):=by have h1:=h.nd;unfold Loc.ids at h1;obtain⟨a1,a2⟩:=List.nodup_cons.1 h1;obtain⟨b1,b2,b3⟩:=List.nodup_append.1 a2;obtain⟨c1,c2,c3⟩:=List.nodup_append.1 b2;obtain⟨d1,d2,d3⟩:=List.nodup_append.1 c2;obtain⟨e1,e2,e3⟩:=List.nodup_append.1 d2;exact⟨a1,b1,⟨c1,⟨d1,⟨e1,e2,e3⟩,d3⟩,c3⟩,b3⟩
theorem FAt.ij_p(h:FAt m L X){i j:Nat}(hi:i<X.P.length)(hj:j<X.P.length)(e:L.p i=L.p j):i=j:=zfO h.nds.2.1 (by rw[h.lP];exact hi) (by rw[h.lP];exact hj) e
theorem FAt.f_p(h:FAt m L X){j:Nat}(hj:j<X.P.length):L.f≠L.p j:=λe=>h.nds.1 (by rw[e];exact List.mem_append_left _ (zax (by rw[h.lP];exact hj)))
theorem FAt.ij_g(h:FAt m L X){i j:Nat}(hi:i<X.G.length)(hj:j<X.G.length)(e:L.g i=L.g j):i=j:=zfO h.nds.2.2.1.1 (by rw[h.lG];exact hi) (by rw[h.lG];exact hj) e
theorem FAt.f_g(h:FAt m L X){j:Nat}(hj:j<X.G.length):L.f≠L.g j:=λe=>h.nds.1 (by rw[e];exact aD' _ (List.mem_append_left _ (zax (by rw[h.lG];exact hj))))
theorem FAt.ij_c(h:FAt m L X){i j:Nat}(hi:i<X.C.length)(hj:j<X.C.length)(e:L.c i=L.c j):i=j:=zfO h.nds.2.2.1.2.1.1 (by rw[h.lC];exact hi) (by rw[h.lC];exact hj) e
theorem FAt.f_c(h:FAt m L X){j:Nat}(hj:j<X.C.length):L.f≠L.c j:=λe=>h.nds.1 (by rw[e];exact aD' _ (aD' _ (List.mem_append_left _ (zax (by rw[h.lC];exact hj)))))
theorem FAt.ij_i(h:FAt m L X){i j:Nat}(hi:i<X.I.length)(hj:j<X.I.length)(e:L.i i=L.i j):i=j:=zfO h.nds.2.2.1.2.1.2.1.1 (by rw[h.lI];exact hi) (by rw[h.lI];exact hj) e
theorem FAt.f_i(h:FAt m L X){j:Nat}(hj:j<X.I.length):L.f≠L.i j:=λe=>h.nds.1 (by rw[e];exact aD' _ (aD' _ (aD' _ (List.mem_append_left _ (zax (by rw[h.lI];exact hj))))))
theorem FAt.ij_x(h:FAt m L X){i j:Nat}(hi:i<X.F.length)(hj:j<X.F.length)(e:L.x i=L.x j):i=j:=zfO h.nds.2.2.1.2.1.2.1.2.1 (by rw[h.lF];exact hi) (by rw[h.lF];exact hj) e
theorem FAt.f_x(h:FAt m L X){j:Nat}(hj:j<X.F.length):L.f≠L.x j:=λe=>h.nds.1 (by rw[e];exact aD' _ (aD' _ (aD' _ (aD' _ (zax (by rw[h.lF];exact hj))))))
theorem FAt.p_g(h:FAt m L X){i j:Nat}(hi:i<X.P.length)(hj:j<X.G.length):L.p i≠L.g j:=h.nds.2.2.2 _ (zax (by rw[h.lP];exact hi)) _ (List.mem_append_left _ (zax (by rw[h.lG];exact hj)))
theorem FAt.p_c(h:FAt m L X){i j:Nat}(hi:i<X.P.length)(hj:j<X.C.length):L.p i≠L.c j:=h.nds.2.2.2 _ (zax (by rw[h.lP];exact hi)) _ (aD' _ (List.mem_append_left _ (zax (by rw[h.lC];exact hj))))
theorem FAt.p_i(h:FAt m L X){i j:Nat}(hi:i<X.P.length)(hj:j<X.I.length):L.p i≠L.i j:=h.nds.2.2.2 _ (zax (by rw[h.lP];exact hi)) _ (aD' _ (aD' _ (List.mem_append_left _ (zax (by rw[h.lI];exact hj)))))
theorem FAt.p_x(h:FAt m L X){i j:Nat}(hi:i<X.P.length)(hj:j<X.F.length):L.p i≠L.x j:=h.nds.2.2.2 _ (zax (by rw[h.lP];exact hi)) _ (aD' _ (aD' _ (aD' _ (zax (by rw[h.lF];exact hj)))))
theorem FAt.g_c(h:FAt m L X){i j:Nat}(hi:i<X.G.length)(hj:j<X.C.length):L.g i≠L.c j:=h.nds.2.2.1.2.2 _ (zax (by rw[h.lG];exact hi)) _ (List.mem_append_left _ (zax (by rw[h.lC];exact hj)))
theorem FAt.g_i(h:FAt m L X){i j:Nat}(hi:i<X.G.length)(hj:j<X.I.length):L.g i≠L.i j:=h.nds.2.2.1.2.2 _ (zax (by rw[h.lG];exact hi)) _ (aD' _ (List.mem_append_left _ (zax (by rw[h.lI];exact hj))))
theorem FAt.g_x(h:FAt m L X){i j:Nat}(hi:i<X.G.length)(hj:j<X.F.length):L.g i≠L.x j:=h.nds.2.2.1.2.2 _ (zax (by rw[h.lG];exact hi)) _ (aD' _ (aD' _ (zax (by rw[h.lF];exact hj))))
theorem FAt.c_i(h:FAt m L X){i j:Nat}(hi:i<X.C.length)(hj:j<X.I.length):L.c i≠L.i j:=h.nds.2.2.1.2.1.2.2 _ (zax (by rw[h.lC];exact hi)) _ (List.mem_append_left _ (zax (by rw[h.lI];exact hj)))
theorem FAt.c_x(h:FAt m L X){i j:Nat}(hi:i<X.C.length)(hj:j<X.F.length):L.c i≠L.x j:=h.nds.2.2.1.2.1.2.2 _ (zax (by rw[h.lC];exact hi)) _ (aD' _ (zax (by rw[h.lF];exact hj)))
theorem FAt.i_x(h:FAt m L X){i j:Nat}(hi:i<X.I.length)(hj:j<X.F.length):L.i i≠L.x j:=h.nds.2.2.1.2.1.2.1.2.2 _ (zax (by rw[h.lI];exact hi)) _ (zax (by rw[h.lF];exact hj))
theorem FAt.cell0(h:FAt m L X){y:Nat}(hy:y∈L.ids):∃cs,m.get y=some (.cells cs true 0):=by
 have gx:∀(l:List Nat),y∈l->∃i,i<l.length∧l.getD i 0=y:=λl hl=>by obtain⟨i,hi,e⟩:=List.getElem_of_mem hl;exact⟨i,hi,by rw[gD',gE' hi];exact e⟩
 unfold Loc.ids at hy;rcases List.mem_cons.1 hy with rfl|hy
 ·obtain⟨cs,h1,_⟩:=h.fl;exact⟨cs,h1⟩
 rcases List.mem_append.1 hy with hy|hy
 ·obtain⟨i,hi,e⟩:=gx _ hy;obtain⟨cs,h1,_⟩:=h.pr i (by rw[<-h.lP];exact hi);exact⟨cs,by rw[<-e];exact h1⟩
 rcases List.mem_append.1 hy with hy|hy
 ·obtain⟨i,hi,e⟩:=gx _ hy;obtain⟨cs,h1,_⟩:=h.pg i (by rw[<-h.lG];exact hi);exact⟨cs,by rw[<-e];exact h1⟩
 rcases List.mem_append.1 hy with hy|hy
 ·obtain⟨i,hi,e⟩:=gx _ hy;obtain⟨cs,h1,_⟩:=h.ct i (by rw[<-h.lC];exact hi);exact⟨cs,by rw[<-e];exact h1⟩
 rcases List.mem_append.1 hy with hy|hy
 ·obtain⟨i,hi,e⟩:=gx _ hy;obtain⟨cs,h1,_⟩:=h.ip i (by rw[<-h.lI];exact hi);exact⟨cs,by rw[<-e];exact h1⟩
 ·obtain⟨i,hi,e⟩:=gx _ hy;obtain⟨cs,h1,_⟩:=h.xs i (by rw[<-h.lF];exact hi);exact⟨cs,by rw[<-e];exact h1⟩
theorem FAt.ids_lt(h:FAt m L X){y:Nat}(hy:y∈L.ids):y<m.next:=h.lt y (h.dm y hy)
theorem SlV.ne0{sz n:Nat}{v:Value}{fl:List Value}(h:SlV m sz v n fl)(hz:sz≠0){y:Nat}{cs:Cells}(hy:m.get y=some (.cells cs true 0)):slB v≠some y:=λe=>by obtain⟨c2,h2⟩:=h.ob e;rw[hy] at h2;cases h2;exact hz rfl
theorem SlV.put0{sz n b:Nat}{v:Value}{fl:List Value}{o:zaS}(h:SlV m sz v n fl)(hz:sz≠0){cs:Cells}(hb:m.get b=some (.cells cs true 0)):SlV (m.put b o) sz v n fl:=
 h.keep λy _ hy ho=>by rw[gP,if_neg (λe=>h.ne0 hz hb (by rw[hy,e]))];exact ho
theorem FAt.bump(h:FAt m L X)(j:Nat):FAt (m.bump j) L X:=
 ⟨h.fl,h.pr,h.pg,h.ct,h.ip,h.xs,h.lP,h.lG,h.lC,h.lI,h.lF,h.lb,h.nd,h.dm,h.ls.bump j,h.fs.bump j,h.ss.bump j,λk hk=>(h.bs k hk).bump j,h.dl,h.df,h.ds,h.db,h.sep,λy hy=>by rw[bN];exact lL (h.lt y hy) (Nat.le_add_right _ _),h.d64,h.pi,h.pf⟩
theorem FAt.keep(h:FAt m L X)(hn:m.next<=m'.next)(ho:∀y,L.D y->m'.get y=m.get y):FAt m' L X:=by
 have hi:∀y∈L.ids,m'.get y=m.get y:=λy hy=>ho y (h.dm y hy);refine⟨?_,?_,?_,?_,?_,?_,h.lP,h.lG,h.lC,h.lI,h.lF,h.lb,h.nd,h.dm,h.ls.keep λy _ hy e=>?_,h.fs.keep λy _ hy e=>?_,h.ss.keep λy _ hy e=>?_,λk hk=>(h.bs k hk).keep λy _ hy e=>?_,h.dl,h.df,h.ds,h.db,h.sep,λy hy=>lL (h.lt y hy) hn,h.d64,h.pi,h.pf⟩
 ·obtain⟨cs,h1,h2⟩:=h.fl;exact⟨cs,by rw[hi _ h.mf];exact h1,h2⟩
 ·intro k hk;obtain⟨cs,h1,h2⟩:=h.pr k hk;exact⟨cs,by rw[hi _ (h.mp hk)];exact h1,h2⟩
 ·intro k hk;obtain⟨cs,h1,h2⟩:=h.pg k hk;exact⟨cs,by rw[hi _ (h.mg hk)];exact h1,h2⟩
 ·intro k hk;obtain⟨cs,h1,h2⟩:=h.ct k hk;exact⟨cs,by rw[hi _ (h.mc hk)];exact h1,h2⟩
 ·intro k hk;obtain⟨cs,h1,h2⟩:=h.ip k hk;exact⟨cs,by rw[hi _ (h.mi hk)];exact h1,h2⟩
 ·intro k hk;obtain⟨cs,h1,h2⟩:=h.xs k hk;exact⟨cs,by rw[hi _ (h.mx hk)];exact h1,h2⟩
 ·rw[ho y (h.dl y hy)];exact e
 ·rw[ho y (h.df y hy)];exact e
 ·rw[ho y (h.ds y hy)];exact e
 ·rw[ho y (h.db k y hk hy)];exact e
theorem FAt.nx(h:FAt m L X)(hn:Nx m m'):FAt m' L X:=h.keep hn.next λy hy=>hn.old y (h.lt y hy)
theorem FAt.new(h:FAt m L X){b:Nat}{o:zaS}(hb:¬L.D b):FAt (m.put b o) L X:=h.keep (lR' _) λy hy=>by rw[gP,if_neg (λe=>hb (by rw[<-e];exact hy))]
theorem FAt.new'(h:FAt m L X){j:Nat}{o:zaS}:FAt (m.put (m.next+j) o) L X:=h.new λe=>by have:=h.lt _ e;omega
theorem FAt.put_p(h:FAt m L X){i:Nat}(hi:i<X.P.length){cs:Cells}{r:zb9}(hr:PC L (r) cs):FAt (m.put (L.p i) (.cells cs true 0)) L {X with P:=X.P.set i r}:=by
 obtain⟨c0,hc0,_⟩:=h.pr i hi;refine⟨?_,?_,?_,?_,?_,?_,by rw[h.lP];simp,h.lG,h.lC,h.lI,h.lF,h.lb,h.nd,h.dm,h.ls.put0 (by decide) hc0,h.fs.put0 (by decide) hc0,h.ss.put0 (by decide) hc0,λk hk=>(h.bs k hk).put0 (by decide) hc0,h.dl,h.df,h.ds,h.db,h.sep,h.lt,h.d64,λj hj=>by simpa using h.pi j hj,λj hj=>by simpa using h.pf j hj⟩
 ·obtain⟨c1,h1,h2⟩:=h.fl;exact⟨c1,by rw[gP,if_neg (h.f_p hi)];exact h1,⟨h2.n,h2.cores,h2.frames,h2.procs,h2.cap,h2.prog,h2.lv,h2.fv,h2.contents,h2.files,h2.pipes,h2.next,h2.halted,h2.sv⟩⟩
 ·intro k hk;have hk':k<X.P.length:=by simpa using hk
  by_cases e:k=i
  ·subst e;refine⟨cs,by rw[gP,if_pos rfl],?_⟩;have:(X.P.set k r).getD k zbh=r:=by rw[gD',List.getElem?_set_self hk'];rfl
   show PC L ((X.P.set k r).getD k zbh) cs;rw[this];exact hr
  ·obtain⟨c1,h1,h2⟩:=h.pr k hk';refine⟨c1,by rw[gP,if_neg (λe2=>e (h.ij_p hk' hi e2))];exact h1,?_⟩;have:(X.P.set i r).getD k zbh=X.p k:=by rw[gD',List.getElem?_set_ne (λe2=>e e2.symm),<-gD']
   show PC L ((X.P.set i r).getD k zbh) c1;rw[this];exact h2
 ·intro k hk;obtain⟨c1,h1,h2⟩:=h.pg k hk;exact⟨c1,by rw[gP,if_neg (λe=>h.p_g hi hk e.symm)];exact h1,h2⟩
 ·intro k hk;obtain⟨c1,h1,h2⟩:=h.ct k hk;exact⟨c1,by rw[gP,if_neg (λe=>h.p_c hi hk e.symm)];exact h1,h2⟩
 ·intro k hk;obtain⟨c1,h1,h2⟩:=h.ip k hk;exact⟨c1,by rw[gP,if_neg (λe=>h.p_i hi hk e.symm)];exact h1,h2⟩
 ·intro k hk;obtain⟨c1,h1,h2⟩:=h.xs k hk;exact⟨c1,by rw[gP,if_neg (λe=>h.p_x hi hk e.symm)];exact h1,h2⟩
theorem FAt.put_g(h:FAt m L X){i:Nat}(hi:i<X.G.length){cs:Cells}{r:zk0}(hr:GC L (r) cs):FAt (m.put (L.g i) (.cells cs true 0)) L {X with G:=X.G.set i r}:=by
 obtain⟨c0,hc0,_⟩:=h.pg i hi;refine⟨?_,?_,?_,?_,?_,?_,h.lP,by rw[h.lG];simp,h.lC,h.lI,h.lF,h.lb,h.nd,h.dm,h.ls.put0 (by decide) hc0,h.fs.put0 (by decide) hc0,h.ss.put0 (by decide) hc0,λk hk=>(h.bs k hk).put0 (by decide) hc0,h.dl,h.df,h.ds,h.db,h.sep,h.lt,h.d64,h.pi,h.pf⟩
 ·obtain⟨c1,h1,h2⟩:=h.fl;exact⟨c1,by rw[gP,if_neg (h.f_g hi)];exact h1,⟨h2.n,h2.cores,h2.frames,h2.procs,h2.cap,h2.prog,h2.lv,h2.fv,h2.contents,h2.files,h2.pipes,h2.next,h2.halted,h2.sv⟩⟩
 ·intro k hk;obtain⟨c1,h1,h2⟩:=h.pr k hk;exact⟨c1,by rw[gP,if_neg (h.p_g hk hi)];exact h1,h2⟩
 ·intro k hk;have hk':k<X.G.length:=by simpa using hk
  by_cases e:k=i
  ·subst e;refine⟨cs,by rw[gP,if_pos rfl],?_⟩;have:(X.G.set k r).getD k zd2=r:=by rw[gD',List.getElem?_set_self hk'];rfl
   show GC L ((X.G.set k r).getD k zd2) cs;rw[this];exact hr
  ·obtain⟨c1,h1,h2⟩:=h.pg k hk';refine⟨c1,by rw[gP,if_neg (λe2=>e (h.ij_g hk' hi e2))];exact h1,?_⟩;have:(X.G.set i r).getD k zd2=X.g k:=by rw[gD',List.getElem?_set_ne (λe2=>e e2.symm),<-gD']
   show GC L ((X.G.set i r).getD k zd2) c1;rw[this];exact h2
 ·intro k hk;obtain⟨c1,h1,h2⟩:=h.ct k hk;exact⟨c1,by rw[gP,if_neg (λe=>h.g_c hi hk e.symm)];exact h1,h2⟩
 ·intro k hk;obtain⟨c1,h1,h2⟩:=h.ip k hk;exact⟨c1,by rw[gP,if_neg (λe=>h.g_i hi hk e.symm)];exact h1,h2⟩
 ·intro k hk;obtain⟨c1,h1,h2⟩:=h.xs k hk;exact⟨c1,by rw[gP,if_neg (λe=>h.g_x hi hk e.symm)];exact h1,h2⟩
theorem FAt.put_c(h:FAt m L X){i:Nat}(hi:i<X.C.length){cs:Cells}{r:znq}(hr:CC L (r) cs):FAt (m.put (L.c i) (.cells cs true 0)) L {X with C:=X.C.set i r}:=by
 obtain⟨c0,hc0,_⟩:=h.ct i hi;refine⟨?_,?_,?_,?_,?_,?_,h.lP,h.lG,by rw[h.lC];simp,h.lI,h.lF,h.lb,h.nd,h.dm,h.ls.put0 (by decide) hc0,h.fs.put0 (by decide) hc0,h.ss.put0 (by decide) hc0,λk hk=>(h.bs k hk).put0 (by decide) hc0,h.dl,h.df,h.ds,h.db,h.sep,h.lt,h.d64,h.pi,h.pf⟩
 ·obtain⟨c1,h1,h2⟩:=h.fl;exact⟨c1,by rw[gP,if_neg (h.f_c hi)];exact h1,⟨h2.n,h2.cores,h2.frames,h2.procs,h2.cap,h2.prog,h2.lv,h2.fv,h2.contents,h2.files,h2.pipes,h2.next,h2.halted,h2.sv⟩⟩
 ·intro k hk;obtain⟨c1,h1,h2⟩:=h.pr k hk;exact⟨c1,by rw[gP,if_neg (h.p_c hk hi)];exact h1,h2⟩
 ·intro k hk;obtain⟨c1,h1,h2⟩:=h.pg k hk;exact⟨c1,by rw[gP,if_neg (h.g_c hk hi)];exact h1,h2⟩
 ·intro k hk;have hk':k<X.C.length:=by simpa using hk
  by_cases e:k=i
  ·subst e;refine⟨cs,by rw[gP,if_pos rfl],?_⟩;have:(X.C.set k r).getD k zfa=r:=by rw[gD',List.getElem?_set_self hk'];rfl
   show CC L ((X.C.set k r).getD k zfa) cs;rw[this];exact hr
  ·obtain⟨c1,h1,h2⟩:=h.ct k hk';refine⟨c1,by rw[gP,if_neg (λe2=>e (h.ij_c hk' hi e2))];exact h1,?_⟩;have:(X.C.set i r).getD k zfa=X.c k:=by rw[gD',List.getElem?_set_ne (λe2=>e e2.symm),<-gD']
   show CC L ((X.C.set i r).getD k zfa) c1;rw[this];exact h2
 ·intro k hk;obtain⟨c1,h1,h2⟩:=h.ip k hk;exact⟨c1,by rw[gP,if_neg (λe=>h.c_i hi hk e.symm)];exact h1,h2⟩
 ·intro k hk;obtain⟨c1,h1,h2⟩:=h.xs k hk;exact⟨c1,by rw[gP,if_neg (λe=>h.c_x hi hk e.symm)];exact h1,h2⟩
theorem FAt.put_x(h:FAt m L X){i:Nat}(hi:i<X.F.length){cs:Cells}{r:zfi}(hr:XC L (r) cs):FAt (m.put (L.x i) (.cells cs true 0)) L {X with F:=X.F.set i r}:=by
 obtain⟨c0,hc0,_⟩:=h.xs i hi;refine⟨?_,?_,?_,?_,?_,?_,h.lP,h.lG,h.lC,h.lI,by rw[h.lF];simp,h.lb,h.nd,h.dm,h.ls.put0 (by decide) hc0,h.fs.put0 (by decide) hc0,h.ss.put0 (by decide) hc0,λk hk=>(h.bs k hk).put0 (by decide) hc0,h.dl,h.df,h.ds,h.db,h.sep,h.lt,h.d64,h.pi,h.pf⟩
 ·obtain⟨c1,h1,h2⟩:=h.fl;exact⟨c1,by rw[gP,if_neg (h.f_x hi)];exact h1,⟨h2.n,h2.cores,h2.frames,h2.procs,h2.cap,h2.prog,h2.lv,h2.fv,h2.contents,h2.files,h2.pipes,h2.next,h2.halted,h2.sv⟩⟩
 ·intro k hk;obtain⟨c1,h1,h2⟩:=h.pr k hk;exact⟨c1,by rw[gP,if_neg (h.p_x hk hi)];exact h1,h2⟩
 ·intro k hk;obtain⟨c1,h1,h2⟩:=h.pg k hk;exact⟨c1,by rw[gP,if_neg (h.g_x hk hi)];exact h1,h2⟩
 ·intro k hk;obtain⟨c1,h1,h2⟩:=h.ct k hk;exact⟨c1,by rw[gP,if_neg (h.c_x hk hi)];exact h1,h2⟩
 ·intro k hk;obtain⟨c1,h1,h2⟩:=h.ip k hk;exact⟨c1,by rw[gP,if_neg (h.i_x hk hi)];exact h1,h2⟩
 ·intro k hk;have hk':k<X.F.length:=by simpa using hk
  by_cases e:k=i
  ·subst e;refine⟨cs,by rw[gP,if_pos rfl],?_⟩;have:(X.F.set k r).getD k zaE=r:=by rw[gD',List.getElem?_set_self hk'];rfl
   show XC L ((X.F.set k r).getD k zaE) cs;rw[this];exact hr
  ·obtain⟨c1,h1,h2⟩:=h.xs k hk';refine⟨c1,by rw[gP,if_neg (λe2=>e (h.ij_x hk' hi e2))];exact h1,?_⟩;have:(X.F.set i r).getD k zaE=X.x k:=by rw[gD',List.getElem?_set_ne (λe2=>e e2.symm),<-gD']
   show XC L ((X.F.set i r).getD k zaE) c1;rw[this];exact h2
theorem FAt.put_f(h:FAt m L X){cs:Cells}{X':St}(hr:FC L X' cs)(e:X'.l=X.l∧X'.fut=X.fut∧X'.seen=X.seen∧X'.P=X.P∧X'.G=X.G∧X'.C=X.C∧X'.I=X.I∧X'.F=X.F):FAt (m.put L.f (.cells cs true 0)) L X':=by
 obtain⟨c0,hc0,_⟩:=h.fl;obtain⟨xc,xf,xp,xa,l,fu,ct,fi,pp,nx,ha,se,P,G,C,I,F⟩:=X;obtain⟨xc',xf',xp',xa',l',fu',ct',fi',pp',nx',ha',se',P',G',C',I',F'⟩:=X';obtain⟨rfl,rfl,rfl,rfl,rfl,rfl,rfl,rfl⟩:=e;refine⟨⟨cs,by rw[gP,if_pos rfl],hr⟩,?_,?_,?_,?_,?_,h.lP,h.lG,h.lC,h.lI,h.lF,h.lb,h.nd,h.dm,h.ls.put0 (by decide) hc0,h.fs.put0 (by decide) hc0,h.ss.put0 (by decide) hc0,λk hk=>(h.bs k hk).put0 (by decide) hc0,h.dl,h.df,h.ds,h.db,h.sep,h.lt,h.d64,h.pi,h.pf⟩
 ·intro k hk;obtain⟨c1,h1,h2⟩:=h.pr k hk;exact⟨c1,by rw[gP,if_neg (λe=>h.f_p hk e.symm)];exact h1,h2⟩
 ·intro k hk;obtain⟨c1,h1,h2⟩:=h.pg k hk;exact⟨c1,by rw[gP,if_neg (λe=>h.f_g hk e.symm)];exact h1,h2⟩
 ·intro k hk;obtain⟨c1,h1,h2⟩:=h.ct k hk;exact⟨c1,by rw[gP,if_neg (λe=>h.f_c hk e.symm)];exact h1,h2⟩
 ·intro k hk;obtain⟨c1,h1,h2⟩:=h.ip k hk;exact⟨c1,by rw[gP,if_neg (λe=>h.f_i hk e.symm)];exact h1,h2⟩
 ·intro k hk;obtain⟨c1,h1,h2⟩:=h.xs k hk;exact⟨c1,by rw[gP,if_neg (λe=>h.f_x hk e.symm)];exact h1,h2⟩
end
end
end Go.Ab
namespace Go.Ab
open Go.Proofs
noncomputable section
set_option maxHeartbeats 4000000
set_option maxRecDepth 10000
section
variable{m m':Mem}{L L':Loc}{X:St}
theorem zhm(h:FAt m L X)(hn:X.next≠0):Con EE.P 48 [PT L.f] m (.bool false) m:=by refine Con.of zai zI0 (bA rfl) Grow.rfl λhm=>?_;obtain⟨cs,h1,h2⟩:=h.fl;have hr:=decide_eq_false hn;simp only[XX,XY,F48,yA,yB,yC,h1,h2.next,hr];exact tP rfl λ_ _=>rfl
def zca(p:Nat->Bool)(n:Nat):Int:=match(List.range n).find? p with
 |some i=>i
 |none=> -1
theorem zo2{p:Nat->Bool}{n i:Nat}(h:i<n)(hp:p i=true)(ha:∀k,k<i->p k=false):zca p n=i:=by
 unfold zca;have:(List.range n).find? p=some i:=by rw[List.find?_range_eq_some];exact⟨hp,List.mem_range.2 h,λj hj=>by rw[ha j hj];rfl⟩
 rw[this]
theorem zoA{p:Nat->Bool}{n:Nat}(ha:∀k,k<n->p k=false):zca p n= -1:=by
 unfold zca;have:(List.range n).find? p=none:=by rw[List.find?_range_eq_none];exact λj hj=>by rw[ha j hj];rfl
 rw[this]
theorem zd0(p:Nat->Bool)(n:Nat):(∃i,i<n∧p i=true∧(∀k,k<i->p k=false)∧zca p n=i)∨((∀k,k<n->p k=false)∧zca p n= -1):=by
 cases h:(List.range n).find? p with
 |none=>refine .inr ⟨λk hk=>?_,by unfold zca;rw[h]⟩;have:=(List.find?_range_eq_none.1 h) k hk;simpa using this
 |some i=>obtain⟨h1,h2,h3⟩:=List.find?_range_eq_some.1 h;exact .inl ⟨i,List.mem_range.1 h2,h1,λk hk=>by simpa using h3 k hk,by unfold zca;rw[h]⟩
theorem zfD{v:Value}{n:Nat}{fl:List Value}{g:FuncId}{cap:List Value}{p:Nat->Bool}(hv:SlV m 1 v n fl)(hl:fl.length=n)(hn:n<1000000)(hc:zab EE.P g=true)
  (hp:∀k j,k<n->Con EE.P g (fl.getD k undef::cap) (m.bump j) (.bool (p k)) (m.bump j)):
  Con EE.P 83 [v, .func (.func g) #[] cap.toArray] m (In (zca p n)) m:=by
 refine Con.of zai zIr (bA rfl) Grow.rfl λhm=>?_;have hlenA:∀M,lenA EE.P 67 v M=some (In n):=λM=>hv.lenA zbt;simp only[XX,XY,F83,yA,yB,yC,hlenA];refine WX.loop_of (λk tt M=>∃i j:Nat,i<=n∧k=n-i∧tt=T 19 [(8,In i),(7,In n),(1, .func (.func g) #[] cap.toArray),(0,v)]∧M=m.bump j∧∀k,k<i->p k=false) ?_ (k:=n) (t1:=T 19 [(8,In (0:Nat)),(7,In n),(1, .func (.func g) #[] cap.toArray),(0,v)]) (vT ⟨rfl,rfl,rfl,rfl,trivial⟩) ⟨0,_,by omega,rfl,rfl,rfl,λk hk=>by omega⟩;rintro k tt M ⟨i,j,hi,rfl,rfl,rfl,hf⟩;by_cases hi2:i<n
 ·have g1:(i:Int)<(n:Int):=by omega
  have g2:(0:Int)<=i:=by omega
  have hw:IntKind.i64.wrap ((i:Int)+1)=((i+1:Nat):Int):=by rw[zae (by omega) (by omega)];omega
  obtain⟨b,c,cs,rfl,k1,k2,k3,k4⟩:=hv.cons (by omega);have hq:cs.nth i=some (fl.getD i undef):=by rw[zbV (by rw[k2,Nat.mul_one];omega),k4 i (by omega)]
  simp only[XX,XY,F83,yA,yB,yC,g1,g2,k1,hq,hc];refine cZ (hp i _ hi2) ?_;cases hpi:p i with
  |true=>have:=zo2 hi2 hpi hf;simp only[XX,XY,F83,yA,yB,yC,zbC];rw[this];exact tP rfl λ_ _=>rfl
  |false=>
   simp only[XX,XY,F83,yA,yB,yC,hw,zac];exact⟨n-(i+1),_,_,by omega,vT (l':=[(8,In ((i+1:Nat):Int)),(7,In n),(1, .func (.func g) #[] cap.toArray),(0, .slice (some ⟨b,0,none⟩) n c)]) ⟨rfl,rfl,rfl,rfl,trivial⟩,i+1,_,by omega,rfl,rfl,rfl,λk hk=>(by
    rcases Nat.lt_or_ge k i with h1|h1
    ·exact hf k h1
    ·rw[show k=i by omega];exact hpi)⟩
 ·have q1:¬(i:Int)<(n:Int):=by omega
  have hin:i=n:=by omega
  subst hin;have:=zoA hf;simp only[XX,XY,F83,yA,yB,yC,q1,zam];rw[this];exact tP rfl λ_ _=>rfl
end
structure GX(X:St):Prop where
 lp:(X.l.length:Int)<=X.procs
 pr:1<=X.procs∧X.procs<=32
 fr:1<=X.frames∧X.frames<=256
 cp:1<=X.cap∧X.cap<=64
 co:1<=X.cores∧X.cores<=8
 nx:2<=X.next∧X.next<=65536
 pg:∀i,i<X.P.length->(X.p i).pages.length=64∧∀k g,(X.p i).pages.getD k none=some g->g<X.G.length
 fd:∀i,i<X.P.length->(X.p i).fds.length=8∧∀k x,(X.p i).fds.getD k none=some x->x<X.F.length
 pp:∀i,i<X.P.length->∀q,(X.p i).pipe=some q->q<X.I.length
 fc:∀i,i<X.P.length->∀c,(X.p i).fut.c=some c->c<X.C.length
 fp:∀i,i<X.P.length->∀c,(X.p i).fut.p=some c->c<X.P.length
 gc:∀g,g<X.G.length->(X.g g).c<X.C.length
 cb:∀c,c<X.C.length->(X.c c).b.length=64
 xp:∀x,x<X.F.length->(X.x x).p<X.I.length
 ib:∀q,q<X.I.length->((X.i q).b.length:Int)<=X.cap
theorem GX.ln{X:St}(h:GX X):X.l.length<=32:=by have:=h.lp;have:=h.pr;omega
section
variable{m m':Mem}{L L':Loc}{X:St}{pid:Int}
def zgw(X:St)(pid:Int):Option Nat:=X.l.find? λi=>decide ((X.p i).pid=pid)
def zbO(X:St)(pid:Int):Option Nat:=match zgw X pid with
 |some i=>if(X.p i).state=1 then some i else none
 |none=>none
theorem ztN(h:FAt m L X){i x:Nat}(hi:i<X.P.length)(hx:m.get x=some (.cells (ofL [In pid]) true 0)):Con EE.P 84 [PT (L.p i),PT x] m (.bool (decide ((X.p i).pid=pid))) m:=by refine Con.of zai zJg (bA rfl) Grow.rfl λhm=>?_;obtain⟨cs,h1,h2⟩:=h.pr i hi;simp only[XX,XY,F84,yA,yB,yC,h1,h2.pid,hx];exact tP rfl λ_ _=>rfl
theorem zmc(h:FAt m L X){k:Nat}(hk:k<X.l.length):(X.l.map λi=>PT (L.p i)).getD k undef=PT (L.p (X.l.getD k 0)):=by rw[gD',gM',gD',gE' hk];rfl
theorem FAt.lk(h:FAt m L X){k:Nat}(hk:k<X.l.length):X.l.getD k 0<X.P.length:=h.pi _ (zax hk)
theorem zuA{k:Nat}(hk:k<X.l.length)(hp:(X.p (X.l.getD k 0)).pid=pid)(ha:∀j,j<k->decide ((X.p (X.l.getD j 0)).pid=pid)=false):zgw X pid=some (X.l.getD k 0):=by unfold zgw;rw[List.find?_eq_some_iff_getElem];refine⟨by simpa using hp,k,hk,by rw[gD',gE' hk];rfl,λj hj=>?_⟩;have:=ha j hj;rw[gD',gE' (by omega)] at this;simpa using this
theorem zuM(ha:∀j,j<X.l.length->decide ((X.p (X.l.getD j 0)).pid=pid)=false):zgw X pid=none:=by unfold zgw;rw[List.find?_eq_none];intro i hi;obtain⟨j,hj,e⟩:=List.getElem_of_mem hi;have:=ha j hj;rw[gD',gE' hj] at this;rw[<-e];simpa using this
theorem zjq(h:FAt m L X){i:Nat}(hf:zgw X pid=some i):i<X.P.length:=h.pi i (List.mem_of_find?_eq_some hf)
theorem zgn{n0 b:Nat}(h:b<n0):RV n0 [] (PT b) (PT b):=zwi (.inl ⟨rfl,h⟩)
theorem zq8(h:FAt m L X)(hg:GX X):Con EE.P 50 [PT L.f,In pid] m (pV ((zgw X pid).map L.p)) m:=by
 refine Con.of zai zIz (bA rfl) Grow.rfl λhm=>?_;obtain⟨cs,h1,h2⟩:=h.fl;have hlt:=h.lt _ (h.dm _ h.mf);have hn:X.next≠0:=by have:=hg.nx;omega
 have hb:∀o j,FAt ((m.put m.next o).bump j) L X:=λo j=>(h.new' (j:=0)).bump j;have hne:¬L.f=m.next:=by omega
 simp only[XX,XY,F50,yA,yB,yC];refine cZ (zhm (hb _ _) hn) ?_;simp only[XX,XY,F50,yA,yB,yC,h1,h2.lv,hne];refine CallI.con (zfD (p:=λk=>decide ((X.p (X.l.getD k 0)).pid=pid)) (g:=84) (cap:=[PT m.next]) (h.ls.keep λy _ hy e=>?_) (by simp) (by have:=hg.ln;omega) kr λk j hk=>?_) (by simp) ?_
 ·have:=h.lt _ (h.dl y hy);simp only[gB,gP];rw[if_neg (by omega)];exact e
 ·rw[zmc h hk];exact ztN (by rw[zfl];exact hb _ _) (h.lk hk) (by simp only[gB,gP,if_true])
 ·rcases zd0 (λk=>decide ((X.p (X.l.getD k 0)).pid=pid)) X.l.length with⟨i,hi,hp,ha,e⟩|⟨ha,e⟩
  ·rw[e,zuA hi (by simpa using hp) ha];have g1:decide ((i:Int)<0)=false:=decide_eq_false (by omega);have g2:(i:Int)<(X.l.length:Int):=by omega
   have g3:(0:Int)<=i:=by omega
   obtain⟨b,c,cl,ev,k1,k2,k3,k4⟩:=h.ls.cons (by omega);have hq:cl.nth i=some (PT (L.p (X.l.getD i 0))):=by rw[zbV (by rw[k2,Nat.mul_one];omega),k4 i (by simp;omega),zmc h hi]
   have hbn:¬b=m.next:=by have:=h.lt _ (h.dl b (by rw[ev];rfl));omega
   simp only[XX,XY,F50,yA,yB,yC,h1,h2.lv,hne,g1,g2,g3,ev,k1,hq,hbn];exact zg5 (zgn (h.ids_lt (h.mp (h.lk hi)))) λy hy=>by simp only[gB,gP];rw[if_neg (by omega)]
  ·rw[e,zuM ha];simp only[XX,XY,F50,yA,yB,yC,yI];exact tP rfl λy hy=>by simp only[gB,gP];rw[if_neg (by omega)]
end
section
variable{m m':Mem}{L L':Loc}{X:St}{pid:Int}
theorem zjL{m1:Mem}{b:Nat}(h:b<m.next)(ho:∀y,y<m.next->m1.get y=m.get y):TidyE m m1 (PT b) (PT b) m:=zg5 (zgn h) ho
theorem zeK(h:FAt m L X){i:Nat}(hl:zbO X pid=some i):i<X.P.length∧(X.p i).state=1∧zgw X pid=some i:=by
 unfold zbO at hl;split at hl
 ·rename_i j hj;split at hl
  ·rename_i hs;cases hl;exact⟨zjq h hj,hs,hj⟩
  ·cases hl
 ·cases hl
theorem zf6(h:FAt m L X)(hg:GX X):Con EE.P 44 [PT L.f,In pid] m (pV ((zbO X pid).map L.p)) m:=by
 refine Con.of zai zIY (bA rfl) Grow.rfl λhm=>?_;simp only[XX,XY,F44,yA,yB,yC];refine cZ (zq8 (h.bump _) hg) ?_;cases hf:zgw X pid with
 |none=>
  have e:zbO X pid=none:=by unfold zbO;rw[hf]
  rw[e];simp only[XX,XY,F44,yA,yB,yC,pV];exact tP rfl λ_ _=>rfl
 |some i=>
  have hi:=zjq h hf;obtain⟨cs,h1,h2⟩:=h.pr i hi;by_cases hs:(X.p i).state=1
  ·have e:zbO X pid=some i:=by unfold zbO;rw[hf];simp only[hs,if_true]
   rw[e];simp only[XX,XY,F44,yA,yB,yC,pV,h1,h2.state,hs];exact zjL (h.ids_lt (h.mp hi)) λ_ _=>rfl
  ·have e:zbO X pid=none:=by unfold zbO;rw[hf];simp only[hs,if_false]
   have hs':=decide_eq_false hs;rw[e];simp only[XX,XY,F44,yA,yB,yC,pV,h1,h2.state,hs'];exact tP rfl λ_ _=>rfl
theorem zs5(h:FAt m L X)(hg:GX X):Con EE.P 45 [PT L.f] m (In (if X.halted then 181 else 0)) m:=by
 refine Con.of zai zII (bA rfl) Grow.rfl λhm=>?_;obtain⟨cs,h1,h2⟩:=h.fl;have hn:X.next≠0:=by have:=hg.nx;omega
 simp only[XX,XY,F45,yA,yB,yC];refine cZ (zhm (h.bump _) hn) ?_;cases hh:X.halted with
 |true=>simp only[XX,XY,F45,yA,yB,yC,h1,h2.halted,hh];exact tP rfl λ_ _=>rfl
 |false=>simp only[XX,XY,F45,yA,yB,yC,h1,h2.halted,hh];exact tP rfl λ_ _=>rfl
theorem zsL(h:FAt m L X)(hg:GX X):Con EE.P 21 [PT L.f] m (.bool X.halted) m:=by
 refine Con.of zai zIa (bA rfl) Grow.rfl λhm=>?_;obtain⟨cs,h1,h2⟩:=h.fl;have hn:X.next≠0:=by have:=hg.nx;omega
 simp only[XX,XY,F21,yA,yB,yC];refine cZ (zhm (h.bump _) hn) ?_;simp only[XX,XY,F21,yA,yB,h1,h2.halted];exact tP rfl λ_ _=>rfl
def zj7(X:St)(pid:Int):Int×Int:=match zgw X pid with
 |some i=>((X.p i).state,(X.p i).wait)
 |none=>(0,0)
theorem zuw(h:FAt m L X)(hg:GX X):Con EE.P 23 [PT L.f,In pid] m (.tuple [In (zj7 X pid).1,In (zj7 X pid).2].toArray) m:=by
 refine Con.of zai zIP (bA rfl) Grow.rfl λhm=>?_;simp only[XX,XY,F23,yA,yB,yC];refine cZ (zq8 (h.bump _) hg) ?_;unfold zj7;cases hf:zgw X pid with
 |none=>simp only[XX,XY,F23,yA,yB,yC,pV];exact tP rfl λ_ _=>rfl
 |some i=>obtain⟨cs,h1,h2⟩:=h.pr i (zjq h hf);simp only[XX,XY,F23,yA,yB,yC,pV,h1,h2.state,h2.wait];exact tP rfl λ_ _=>rfl
def atX(p:zb9)(a:BitVec 32):Option Nat:=if 4096<=a.toNat then none else p.pages.getD (a.toNat/64) none
theorem zkT{a:BitVec 32}{ty:Nat}:zcG EE.P .quo ty (.int .u32 (a.toNat:Int)) (.int .u32 64)=some (.int .u32 ((a.toNat/64:Nat):Int)):=by
 show zcm EE.P (Op.intDiv .quo .u32 (a.toNat:Int) 64)=_;unfold Op.intDiv;rw[if_neg (by decide)];have h1:IntKind.u32.wrap ((a.toNat:Int).tdiv 64)=((a.toNat/64:Nat):Int):=by have:=a.isLt;rw[za4,Int.tdiv_eq_ediv_of_nonneg (by omega)];omega
 rw[<-h1];rfl
theorem zez{a:BitVec 32}{ty:Nat}:zcG EE.P .rem ty (.int .u32 (a.toNat:Int)) (.int .u32 64)=some (.int .u32 ((a.toNat % 64:Nat):Int)):=by rw[zjP (by decide)];rfl
theorem zhb{r:zb9}{cs:Cells}(h:PC L r cs)(hl:r.pages.length=64){k:Nat}(hk:k<64):cs.nth (61+k)=some (pV ((r.pages.getD k none).map L.g)):=by rw[zcw h.pages hk,gM',gD',gE' (by omega)];rfl
theorem zqe(h:FAt m L X)(hg:GX X){i:Nat}(hi:i<X.P.length){a:BitVec 32}:Con EE.P 88 [PT (L.p i),Um a] m (pV ((atX (X.p i) a).map L.g)) m:=by
 refine Con.of zai zIx (bA rfl) Grow.rfl λhm=>?_;obtain⟨cs,h1,h2⟩:=h.pr i hi;unfold atX;by_cases ha:4096<=a.toNat
 ·have d1:decide ((4096:Int)<=(a.toNat:Int))=true:=decide_eq_true (by omega);rw[if_pos ha];simp only[XX,XY,F88,yA,yB,yC,d1];exact tP rfl λ_ _=>rfl
 ·have d1:decide ((4096:Int)<=(a.toNat:Int))=false:=decide_eq_false (by omega);have hk:a.toNat/64<64:=by omega
  have g1:(0:Int)<=((a.toNat/64:Nat):Int):=by omega
  have g2:((a.toNat/64:Nat):Int)<((64:Nat):Int):=by omega
  have hq:=zhb h2 (hg.pg i hi).1 hk;rw[if_neg ha];simp only[XX,XY,F88,yA,yB,yC,d1,zkT,g1,g2,h1,hq];cases hp:(X.p i).pages.getD (a.toNat/64) none with
  |none=>exact tP rfl λ_ _=>rfl
  |some g=>exact zjL (h.ids_lt (h.mg ((hg.pg i hi).2 _ _ hp))) λ_ _=>rfl
end
end
end Go.Ab
namespace Go.Ab
open Ieee
def Val(s:Bool)(m:Nat)(i v:Int):Prop:=∃k:Nat,0<=i+k∧signed s m (i+k).toNat=v*2 ^ k
theorem zcX{s:Bool}{m a d:Nat}:signed s m (a+d)=signed s m a*2 ^ d:=by
 unfold signed;have h:((m<<<(a+d):Nat):Int)=((m<<<a:Nat):Int)*2 ^ d:=by
  rw[Nat.shiftLeft_eq,Nat.shiftLeft_eq,Nat.pow_add,<-Nat.mul_assoc]
  push_cast
  rfl
 cases s
 ·simpa using h
 ·simp only[if_true,h,Int.neg_mul]
theorem zfE(k:Nat):(0:Int)<2 ^ k:=Int.pow_pos (by decide)
theorem Val.all{s:Bool}{m:Nat}{i v:Int}(h:Val s m i v){k:Nat}(hk:0<=i+k):signed s m (i+k).toNat=v*2 ^ k:=by
 obtain⟨k0,h0,e⟩:=h;rcases Nat.le_total k0 k with hl|hl
 ·have h1:(i+k).toNat=(i+k0).toNat+(k-k0):=by omega
  rw[h1,zcX,e,Int.mul_assoc,<-Int.pow_add,show k0+(k-k0)=k by omega]
 ·have h1:(i+k0).toNat=(i+k).toNat+(k0-k):=by omega
  rw[h1,zcX,show k0=k+(k0-k) by omega,Int.pow_add,<-Int.mul_assoc,show k+(k0-k)-k=k0-k by omega] at e;exact Int.eq_of_mul_eq_mul_right (Int.ne_of_gt (zfE _)) e
theorem zd1{s:Bool}{a:Nat}:signed s 0 a=0:=by cases s<;>simp[signed]
theorem Val.neg{s:Bool}{m:Nat}{i v:Int}(h:Val s m i v):Val (!s) m i (-v):=by obtain⟨k,h0,e⟩:=h;refine⟨k,h0,?_⟩;rw[Int.neg_mul,<-e];cases s<;>simp[signed]
theorem zim{t:Int}{b:Bool}{a:Nat}:signed (if t=0 then b else decide (t<0)) t.natAbs a=t*2 ^ a:=by
 have h1:((t.natAbs<<<a:Nat):Int)=(t.natAbs:Int)*2 ^ a:=by rw[Nat.shiftLeft_eq];push_cast;rfl
 by_cases h:t=0
 ·subst h;simp[zd1]
 ·rw[if_neg h];by_cases hn:t<0
  ·rw[decide_eq_true hn];simp only[signed,if_true,h1];rw[<-Int.neg_mul,show-(t.natAbs:Int)=t by omega]
  ·rw[decide_eq_false hn];simp only[signed,bF,if_false,h1];rw[show(t.natAbs:Int)=t by omega]
theorem Val.sum{s t:Bool}{m n:Nat}{i j u v:Int}(h:Val s m i u)(g:Val t n j v):∃s' m' i',(Datum.number s m i).sum (.number t n j)=some (.number s' m' i')∧Val s' m' i' (u+v):=by
 refine⟨_,_,_,rfl,((-(min i j)).toNat),by omega,?_⟩;have hi:min i j<=i:=by omega
 have hj:min i j<=j:=by omega
 generalize hb:min i j=b at hi hj⊢;rw[zim,Int.add_mul,<-zcX,<-zcX];have e1:(i-b).toNat+(b+((-b).toNat:Nat)).toNat=(i+((-b).toNat:Nat)).toNat:=by omega
 have e2:(j-b).toNat+(b+((-b).toNat:Nat)).toNat=(j+((-b).toNat:Nat)).toNat:=by omega
 rw[e1,e2,h.all (by omega),g.all (by omega),<-Int.add_mul]
theorem zop{s t:Bool}{m n a b:Nat}:signed (s ^^ t) (m*n) (a+b)=signed s m a*signed t n b:=by
 have h:((m*n)<<<(a+b):Nat)=(m<<<a)*(n<<<b):=by rw[Nat.shiftLeft_eq,Nat.shiftLeft_eq,Nat.shiftLeft_eq,Nat.pow_add,Nat.mul_mul_mul_comm]
 unfold signed;rw[h];cases s<;>cases t<;>simp[Int.neg_mul,Int.mul_neg]
theorem Val.prod{s t:Bool}{m n:Nat}{i j u v:Int}(h:Val s m i u)(g:Val t n j v):Val (s ^^ t) (m*n) (i+j) (u*v):=by obtain⟨k1,h1,e1⟩:=h;obtain⟨k2,h2,e2⟩:=g;refine⟨k1+k2,by omega,?_⟩;rw[show(i+j+((k1+k2:Nat):Int)).toNat=(i+k1).toNat+(j+k2).toNat by omega,zop,e1,e2,Int.pow_add];simp only[Int.mul_assoc,Int.mul_left_comm (2 ^ k1)]
theorem Val.order{s t:Bool}{m n:Nat}{i j u v:Int}(h:Val s m i u)(g:Val t n j v):(Datum.number s m i).order (.number t n j)=some (compare u v):=by
 show some (compare (signed s m (i-min i j).toNat) (signed t n (j-min i j).toNat))=_;have hi:min i j<=i:=by omega
 have hj:min i j<=j:=by omega
 generalize hb:min i j=b at hi hj⊢;have e1:(i-b).toNat+(b+((-b).toNat:Nat)).toNat=(i+((-b).toNat:Nat)).toNat:=by omega
 have e2:(j-b).toNat+(b+((-b).toNat:Nat)).toNat=(j+((-b).toNat:Nat)).toNat:=by omega
 have k1:signed s m (i-b).toNat*2 ^ (b+((-b).toNat:Nat)).toNat=u*2 ^ (-b).toNat:=by rw[<-zcX,e1,h.all (by omega)]
 have k2:signed t n (j-b).toNat*2 ^ (b+((-b).toNat:Nat)).toNat=v*2 ^ (-b).toNat:=by rw[<-zcX,e2,g.all (by omega)]
 generalize signed s m (i-b).toNat=x at k1⊢;generalize signed t n (j-b).toNat=y at k2⊢;generalize(b+((-b).toNat:Nat)).toNat=c at k1 k2;generalize(-b).toNat=k at k1 k2;congr 1;have lt:∀{x y u v:Int},x*2 ^ c=u*2 ^ k->y*2 ^ c=v*2 ^ k->(x<y↔u<v):=λ{x y u v} k1 k2=>by rw[<-Int.mul_lt_mul_right (zfE c),k1,k2,Int.mul_lt_mul_right (zfE k)]
 have a:=lt k1 k2;have b:=lt k2 k1;simp only[compare,compareOfLessAndEq];by_cases hu:u<v
 ·rw[if_pos hu,if_pos (a.2 hu)]
 ·rw[if_neg hu,if_neg (λe=>hu (a.1 e))];by_cases he:u=v
  ·rw[if_pos he,if_pos (by
    have:¬y<x:=λe=>by have:=b.1 e;omega
    have:¬x<y:=λe=>hu (a.1 e);omega)]
  ·rw[if_neg he,if_neg (λe=>by
    subst e;have:v<u:=by omega
    have:=b.2 this;omega)]
theorem zlh{way:Toward}{neg:Bool}{K d:Nat}:way.cut neg (K*2 ^ d) d=K:=by
 have h2:0<2 ^ d:=Nat.pow_pos (by decide);have hg:∃g,0<g∧(1<<<min d ((K*2 ^ d).log2+2))=g∧(K*2 ^ d)/g=K∧(K*2 ^ d) % g=0:=by
  by_cases hK:K=0
  ·subst hK;refine⟨_,?_,rfl,by simp,by simp⟩;rw[Nat.shiftLeft_eq,Nat.one_mul];exact Nat.pow_pos (by decide)
  ·have hle:d<=(K*2 ^ d).log2:=(Nat.le_log2 (by exact Nat.mul_ne_zero hK (by omega))).2 (Nat.le_mul_of_pos_left _ (by omega));refine⟨2 ^ d,h2,?_,Nat.mul_div_cancel _ h2,Nat.mul_mod_left _ _⟩;rw[Nat.shiftLeft_eq,Nat.one_mul,Nat.min_eq_left (by omega)]
 obtain⟨g,g0,g1,g2,g3⟩:=hg;unfold Toward.cut;simp only[g1,g2,g3];cases way<;>simp<;>omega
theorem zja{s:Bool}{m a:Nat}:(signed s m a).natAbs=m*2 ^ a:=by
 rw[<-Nat.shiftLeft_eq];cases s with
 |false=>exact Int.natAbs_natCast _
 |true=>exact(Int.natAbs_neg _).trans (Int.natAbs_natCast _)
theorem Val.nat{s:Bool}{m:Nat}{i v:Int}(h:Val s m i v){k:Nat}(hk:0<=i+k):m*2 ^ (i+k).toNat=v.natAbs*2 ^ k:=by rw[<-zja (s:=s),h.all hk,Int.natAbs_mul,Int.natAbs_pow];rfl
theorem zk5{s:Bool}{r:Nat}(h:r<2047*2 ^ 52):double.read (double.word s r)=if r<2 ^ 52 then .number s r (-1074) else .number s (2 ^ 52+r % 2 ^ 52) (-1074+(r/2 ^ 52-1:Nat)):=by
 have w:double.word s r=if s then 2 ^ 63+r else r:=rfl
 have e1:(double.word s r/2 ^ 63 % 2==1)=s:=by
  rw[w];cases s
  ·simp only[bF,if_false];rw[Nat.div_eq_of_lt (by omega)];rfl
  ·simp only[if_true];rw[show(2 ^ 63+r)/2 ^ 63=1 by omega];rfl
 have e2:double.word s r % 2 ^ 63=r:=by
  rw[w];cases s
  ·simp only[bF,if_false];omega
  ·simp only[if_true];omega
 have hs:double.signWeight=2 ^ 63:=rfl;have hb:double.binade=2 ^ 52:=rfl;have hi:double.infRung=2047*2 ^ 52:=rfl;have hl:double.leastPlace= -1074:=rfl;unfold Format.read;simp only[hs,hb,hi,hl,e1,e2];split
 ·rfl
 ·rfl
theorem zuu{s:Bool}{m:Nat}{i v:Int}(h:Val s m i v)(hv:v.natAbs<2 ^ 53):∃m' i',double.read (double.nearest s m i)= .number s m' i'∧Val s m' i' v:=by
 by_cases hm:m=0
 ·subst hm;have v0:v=0:=by obtain⟨k,_,e⟩:=h;rw[zd1] at e;exact(Int.mul_eq_zero.1 e.symm).resolve_right (Int.ne_of_gt (zfE k))
  subst v0;refine⟨0,-1074,?_,1074,by decide,by rw[zd1,Int.zero_mul]⟩;have:double.nearest s 0 i=double.word s 0:=by unfold Format.nearest;rw[if_pos rfl]
  rw[this,zk5 (by decide),if_pos (by decide)]
 have hL1:2 ^ m.log2<=m:=Nat.log2_self_le hm;have hL2:m<2 ^ (m.log2+1):=Nat.lt_log2_self;have hne:double.nearest s m i=double.word s (min ((max (i+m.log2-52) (-1074)-(-1074)).toNat*2 ^ 52+Toward.even.cut s (m<<<(i-max (i+m.log2-52) (-1074)).toNat) (max (i+m.log2-52) (-1074)-i).toNat) (2047*2 ^ 52)):=by unfold Format.nearest;rw[if_neg hm];rfl
 generalize m.log2=L at hL1 hL2 hne;have hiL:i+L<=52:=by
  have e:=h.nat (k:=(-i).toNat) (by omega);have h1:2 ^ (L+(i+((-i).toNat:Nat)).toNat)<2 ^ (53+(-i).toNat):=by
   rw[Nat.pow_add,Nat.pow_add]
   calc 2 ^ L*2 ^ (i+((-i).toNat:Nat)).toNat<=m*2 ^ (i+((-i).toNat:Nat)).toNat:=Nat.mul_le_mul_right _ hL1
    _=v.natAbs*2 ^ (-i).toNat:=e
    _<2 ^ 53*2 ^ (-i).toNat:=Nat.mul_lt_mul_of_pos_right hv (Nat.pow_pos (by decide))
  have h2:=(Nat.pow_lt_pow_iff_right (a:=2) (by decide)).1 h1;omega
 have l0:max (i+(L:Int)-52) (-1074)<=0:=by omega
 have l1: -1074<=max (i+(L:Int)-52) (-1074):=by omega
 have l2:i+(L:Int)-52<=max (i+(L:Int)-52) (-1074):=by omega
 have l3:max (i+(L:Int)-52) (-1074)= -1074∨max (i+(L:Int)-52) (-1074)=i+L-52:=by omega
 generalize max (i+(L:Int)-52) (-1074)=last at l0 l1 l2 l3 hne;obtain⟨a,ha⟩:∃a,a=(i-last).toNat:=⟨_,rfl⟩;obtain⟨d,hd⟩:∃d,d=(last-i).toNat:=⟨_,rfl⟩;rw[<-ha,<-hd] at hne;have hK:∃K,m*2 ^ a=K*2 ^ d:=by
  by_cases hi:last<=i
  ·exact⟨m*2 ^ a,by rw[show d=0 by omega,Nat.pow_zero,Nat.mul_one]⟩
  ·have e:=h.nat (k:=(-i).toNat) (by omega);rw[show(i+((-i).toNat:Nat)).toNat=0 by omega,Nat.pow_zero,Nat.mul_one] at e;refine⟨v.natAbs*2 ^ ((-i).toNat-d),?_⟩;rw[show a=0 by omega,Nat.pow_zero,Nat.mul_one,e,Nat.mul_assoc,<-Nat.pow_add,show(-i).toNat-d+d=(-i).toNat by omega]
 obtain⟨K,hK⟩:=hK;rw[Nat.shiftLeft_eq,hK,zlh] at hne;have k1:K<2 ^ 53:=by
  have:K*2 ^ d<2 ^ 53*2 ^ d:=by
   rw[<-hK,<-Nat.pow_add]
   calc m*2 ^ a<2 ^ (L+1)*2 ^ a:=Nat.mul_lt_mul_of_pos_right hL2 (Nat.pow_pos (by decide))
    _=2 ^ (L+1+a):=(Nat.pow_add _ _ _).symm
    _<=2 ^ (53+d):=Nat.pow_le_pow_right (by decide) (by omega)
  exact Nat.lt_of_mul_lt_mul_right this
 have k2:last≠-1074->2 ^ 52<=K:=λhl=>by
  have:2 ^ 52*2 ^ d<=K*2 ^ d:=by
   rw[<-hK,<-Nat.pow_add]
   calc 2 ^ (52+d)<=2 ^ (L+a):=Nat.pow_le_pow_right (by decide) (by omega)
    _=2 ^ L*2 ^ a:=Nat.pow_add _ _ _
    _<=m*2 ^ a:=Nat.mul_le_mul_right _ hL1
  exact Nat.le_of_mul_le_mul_right this (Nat.pow_pos (by decide))
 have fin:Val s K last v:=by
  refine⟨(-i).toNat+(-last).toNat,by omega,?_⟩;rw[<-h.all (k:=(-i).toNat+(-last).toNat) (by omega)];have e:K*2 ^ (last+((-i).toNat+(-last).toNat:Nat)).toNat=m*2 ^ (i+((-i).toNat+(-last).toNat:Nat)).toNat:=by refine Nat.eq_of_mul_eq_mul_right (Nat.pow_pos (n:=a) (show 0<2 by decide)) ?_;rw[Nat.mul_assoc,<-Nat.pow_add,show(last+((-i).toNat+(-last).toNat:Nat)).toNat+a=d+(i+((-i).toNat+(-last).toNat:Nat)).toNat by omega,Nat.pow_add,<-Nat.mul_assoc,<-hK,Nat.mul_right_comm]
  unfold signed;rw[Nat.shiftLeft_eq,Nat.shiftLeft_eq,e]
 obtain⟨E,hE⟩:∃E,E=(last-(-1074)).toNat:=⟨_,rfl⟩;rw[<-hE] at hne;rw[hne,Nat.min_eq_left (by omega),zk5 (by omega)];by_cases hr:E*2 ^ 52+K<2 ^ 52
 ·rw[if_pos hr];have h0:E=0:=by omega
  subst h0;exact⟨_,_,rfl,by rw[Nat.zero_mul,Nat.zero_add,show(-1074:Int)=last by omega];exact fin⟩
 ·rw[if_neg hr];have hk:2 ^ 52<=K:=by
   by_cases e:last= -1074
   ·have h0:E=0:=by omega
    subst h0;omega
   ·exact k2 e
  refine⟨_,_,rfl,?_⟩;have e1:2 ^ 52+(E*2 ^ 52+K) % 2 ^ 52=K:=by omega
  have e2:(E*2 ^ 52+K)/2 ^ 52-1=E:=by omega
  rw[e1,e2,show(-1074:Int)+(E:Nat)=last by omega];exact fin
def Wd(w:Nat)(v:Int):Prop:=∃s m i,double.read w= .number s m i∧Val s m i v
theorem Val.int(v:Int):Val (decide (v<0)) v.natAbs 0 v:=⟨0,by decide,by
 have:=zim (t:=v) (b:=false) (a:=0);simp only[Int.pow_zero,Int.mul_one] at this⊢;by_cases h:v=0
 ·subst h;rfl
 ·rw[if_neg h] at this;exact this⟩
theorem Wd.near{s:Bool}{m:Nat}{i v:Int}(h:Val s m i v)(hv:v.natAbs<2 ^ 53):Wd (double.write (.number s m i)) v:=by obtain⟨m',i',h1,h2⟩:=zuu h hv;exact⟨s,m',i',h1,h2⟩
theorem Wd.int{v:Int}(hv:v.natAbs<2 ^ 53):Wd (FloatKind.f64.nearest v) v:=Wd.near (Val.int v) hv
theorem Wd.add{x y:Nat}{u v:Int}(h:Wd x u)(g:Wd y v)(hv:(u+v).natAbs<2 ^ 53):∃r,double.add x y=some r∧Wd r (u+v):=by obtain⟨s,m,i,h1,h2⟩:=h;obtain⟨t,n,j,g1,g2⟩:=g;obtain⟨s',m',i',e1,e2⟩:=h2.sum g2;exact⟨_,by unfold Format.add;rw[h1,g1,e1];rfl,Wd.near e2 hv⟩
theorem Wd.sub{x y:Nat}{u v:Int}(h:Wd x u)(g:Wd y v)(hv:(u-v).natAbs<2 ^ 53):∃r,double.sub x y=some r∧Wd r (u-v):=by obtain⟨s,m,i,h1,h2⟩:=h;obtain⟨t,n,j,g1,g2⟩:=g;obtain⟨s',m',i',e1,e2⟩:=h2.sum g2.neg;exact⟨_,by unfold Format.sub;rw[h1,g1];show(Datum.sum _ (Datum.number (!t) n j)).map _=_;rw[e1];rfl,Wd.near e2 hv⟩
theorem Wd.mul{x y:Nat}{u v:Int}(h:Wd x u)(g:Wd y v)(hv:(u*v).natAbs<2 ^ 53):∃r,double.mul x y=some r∧Wd r (u*v):=by obtain⟨s,m,i,h1,h2⟩:=h;obtain⟨t,n,j,g1,g2⟩:=g;exact⟨_,by unfold Format.mul;rw[h1,g1];rfl,Wd.near (h2.prod g2) hv⟩
theorem Wd.order{x y:Nat}{u v:Int}(h:Wd x u)(g:Wd y v):double.order x y=some (compare u v):=by obtain⟨s,m,i,h1,h2⟩:=h;obtain⟨t,n,j,g1,g2⟩:=g;unfold Format.order;rw[h1,g1];exact h2.order g2
theorem Val.whole{s:Bool}{m:Nat}{i v:Int}(h:Val s m i v){way:Toward}:(Datum.number s m i).integral way= .number s v.natAbs 0∧Val s v.natAbs 0 v:=by
 have e:way.cut s (m<<<i.toNat) (-i).toNat=v.natAbs:=by have hk:=h.nat (k:=(-i).toNat) (by omega);rw[show(i+((-i).toNat:Nat)).toNat=i.toNat by omega] at hk;rw[Nat.shiftLeft_eq,hk,zlh]
 refine⟨by show Datum.number s _ 0=_;rw[e],0,by decide,?_⟩;have hs:=h.all (k:=(-i).toNat) (by omega);have hz:signed s v.natAbs 0=v∨v=0:=by
  by_cases h0:v=0
  ·exact .inr h0
  ·refine .inl ?_;have hp:=zfE (-i).toNat
   cases s with
   |false=>
    have h1:0<=v*2 ^ (-i).toNat:=by rw[<-hs];exact Int.natCast_nonneg _
    have h2:0<=v:=Int.nonneg_of_mul_nonneg_left h1 hp;simp only[signed,bF,if_false,Nat.shiftLeft_zero];omega
   |true=>
    have h1:v*2 ^ (-i).toNat<=0:=by rw[<-hs];exact Int.neg_nonpos_of_nonneg (Int.natCast_nonneg _)
    have h2:v<=0:=by apply Int.not_lt.1;intro h3;have:=Int.mul_pos h3 hp;omega
    simp only[signed,if_true,Nat.shiftLeft_zero];omega
 rcases hz with hz|hz
 ·simp only[Int.pow_zero,Int.mul_one];exact hz
 ·subst hz;simp[zd1]
theorem Wd.floor{x:Nat}{v:Int}(h:Wd x v)(hv:v.natAbs<2 ^ 53):∃d,FloatKind.f64.decode x=d∧d.isNaN=false∧Wd (FloatKind.f64.encode (d.integral .down)) v:=by obtain⟨s,m,i,h1,h2⟩:=h;have h3:=h2.whole (way:= .down);exact⟨_,h1,rfl,by rw[h3.1];exact Wd.near h3.2 hv⟩
theorem Wd.toInt{x:Nat}{v:Int}(h:Wd x v):(FloatKind.f64.decode x).toInt .zero=some v:=by obtain⟨s,m,i,h1,h2⟩:=h;have h3:=h2.whole (way:= .zero);show(double.read x).toInt .zero=some v;rw[h1];unfold Datum.toInt;rw[h3.1];have:=h3.2.all (k:=0) (by decide);simpa using this
end Go.Ab
namespace Go.Ab
noncomputable section
section
variable{P:Program}{E:Env}{n0:Nat}{rd:Option Nat}
section
variable{base i:Nat}{rest:List (Nat×SOp)}{L:List zb8}{t:List Value}{m:Mem}{K:KI}{ty rt:TypeId}{d:Tmp}
def ztB(P:Program)(v:Value):Option Value:=if plain v then zcm P (Builtin.real_ #[] 0 #[v]) else none
def ztY(P:Program)(v:Value):Option Value:=if plain v then zcm P (Builtin.imag_ #[] 0 #[v]) else none
def zvb(P:Program)(v w:Value):Option Value:=if plain v&&plain w then zcm P (Builtin.complex_ #[] 0 #[v,w]) else none
theorem zzY{k:FloatKind}{a b:Nat}:ztB P (.complex k a b)=some (.float k a):=rfl
theorem zyg{k:FloatKind}{a b:Nat}:ztY P (.complex k a b)=some (.float k b):=rfl
theorem zyU{k:FloatKind}{a b:Nat}:zvb P (.float k a) (.float k b)=some (.complex k a b):=by cases k<;>rfl
theorem zDv [zaM E]{x:Operand}{ts:Array TypeId}:XWi E base ((i,⟨some d, .call ⟨.builtin .real,#[x],ts⟩,rt,none⟩)::rest) L t m (Q:=K)=okI (ztB E.P (ev x t)) (k:=⟨λv=>XWi E base rest L (t.set d v) m (Q:=K)⟩):=by
 refine propext ?_;unfold XWi okI;rw[zbg rfl rfl,zaD zaM.h];have e:za9 E.P ⟨some d, .call ⟨.builtin .real,#[x],ts⟩,rt,none⟩ (ev · t)=ztB E.P (ev x t):=by
  have h1:(#[x].map λx=>ev x t)= #[ev x t]:=by simp
  simp only[za9,h1];unfold ztB;simp only[List.all_cons,List.all_nil,Bool.and_true];rfl
 rw[e];exact Iff.rfl
theorem zB7 [zaM E]{x:Operand}{ts:Array TypeId}:XWi E base ((i,⟨some d, .call ⟨.builtin .imag,#[x],ts⟩,rt,none⟩)::rest) L t m (Q:=K)=okI (ztY E.P (ev x t)) (k:=⟨λv=>XWi E base rest L (t.set d v) m (Q:=K)⟩):=by
 refine propext ?_;unfold XWi okI;rw[zbg rfl rfl,zaD zaM.h];have e:za9 E.P ⟨some d, .call ⟨.builtin .imag,#[x],ts⟩,rt,none⟩ (ev · t)=ztY E.P (ev x t):=by
  have h1:(#[x].map λx=>ev x t)= #[ev x t]:=by simp
  simp only[za9,h1];unfold ztY;simp only[List.all_cons,List.all_nil,Bool.and_true];rfl
 rw[e];exact Iff.rfl
theorem zBe [zaM E]{x y:Operand}{ts:Array TypeId}:XWi E base ((i,⟨some d, .call ⟨.builtin .complex,#[x,y],ts⟩,rt,none⟩)::rest) L t m (Q:=K)=okI (zvb E.P (ev x t) (ev y t)) (k:=⟨λv=>XWi E base rest L (t.set d v) m (Q:=K)⟩):=by
 refine propext ?_;unfold XWi okI;rw[zbg rfl rfl,zaD zaM.h];have e:za9 E.P ⟨some d, .call ⟨.builtin .complex,#[x,y],ts⟩,rt,none⟩ (ev · t)=zvb E.P (ev x t) (ev y t):=by
  have h1:(#[x,y].map λx=>ev x t)= #[ev x t,ev y t]:=by simp
  simp only[za9,h1];unfold zvb;simp only[List.all_cons,List.all_nil,Bool.and_true];rfl
 rw[e];exact Iff.rfl
theorem zG2{dst:Option Tmp}{g:FuncId}{args:Array Operand}{ts:Array TypeId}(hc:zab E.P g=false):XWi E base ((i,⟨dst, .call ⟨.value (.func g),args,ts⟩,rt,none⟩)::rest) L t m (Q:=K)=okI (zbS E.P g (args.toList.map (ev · t))) (k:=⟨λv=>XWi E base rest L (zdP dst v t) m (Q:=K)⟩):=by
 have e0:(#[]:Array Value).toList++(args.map λx=>ev x t).toList++(#[]:Array Value).toList=args.toList.map λx=>ev x t:=by simp
 have he:zeZ E.P (base+i) ⟨dst, .call ⟨.value (.func g),args,ts⟩,rt,none⟩ (ev · t) m=(zbS E.P g (args.toList.map (ev · t))).map λv=>(Req.val v,m):=by show(if zab E.P g then _ else match zbS E.P g (#[].toList++(args.map λx=>ev x t).toList++ #[].toList) with|some v=>some (Req.val v,m)|none=>none)=_;rw[hc,e0];cases zbS E.P g (args.toList.map (ev · t))<;>rfl
 refine propext ?_;unfold XWi okI;rw[zna (q:=(zbS E.P g (args.toList.map (ev · t))).map λv=>(v,m)) rfl rfl,zgd]
 ·rfl
 ·rw[he];cases zbS E.P g (args.toList.map (ev · t))<;>rfl
 ·unfold zh8;simp only[cls];have h0:zeZ E.P 0 ⟨dst, .call ⟨.value (.func g),args,ts⟩,rt,none⟩ (ev · t) m=(zbS E.P g (args.toList.map (ev · t))).map λv=>(Req.val v,m):=by show(if zab E.P g then _ else match zbS E.P g (#[].toList++(args.map λx=>ev x t).toList++ #[].toList) with|some v=>some (Req.val v,m)|none=>none)=_;rw[hc,e0];cases zbS E.P g (args.toList.map (ev · t))<;>rfl
  rw[h0];cases zbS E.P g (args.toList.map (ev · t))<;>rfl
abbrev Fv(x:Nat):Value:= .float .f64 x
abbrev Cv(x y:Nat):Value:= .complex .f64 x y
variable{x y z w a b:Nat}{u v:Int}
theorem zuB(h:Wd x u)(g:Wd y v):zcG P .lss ty (Fv x) (Fv y)=some (.bool (decide (u<v))):=by
 show some (Value.bool (Ieee.double.order x y==some .lt))=_;rw[h.order g];congr 2;simp only[compare,compareOfLessAndEq];by_cases h1:u<v
 ·simp[h1]
 ·by_cases h2:u=v<;>simp[h1,h2]
theorem zvs(h:Wd x u)(g:Wd y v):zcG P .geq ty (Fv x) (Fv y)=some (.bool (decide (v<=u))):=by
 show some (Value.bool (Ieee.double.order x y==some .gt||Ieee.double.order x y==some .eq))=_;rw[h.order g];congr 2;simp only[compare,compareOfLessAndEq];by_cases h1:u<v
 ·have:¬v<=u:=by omega
  simp[h1,this]
 ·by_cases h2:u=v
  ·simp[h2]
  ·have:v<=u:=by omega
   simp[h1,h2,this]
theorem eqf{p q:Operand}(h:Wd x u)(g:Wd y v):eqA P .eql ty p q (Fv x) (Fv y) m=some (.bool (decide (u=v))):=by
 have e:eqA P .eql ty p q (Fv x) (Fv y) m=some (Value.bool (Ieee.double.order x y==some .eq)):=by rfl
 rw[e,h.order g];congr 2;simp only[compare,compareOfLessAndEq];by_cases h1:u<v
 ·have:u≠v:=by omega
  simp[h1,this]
 ·by_cases h2:u=v<;>simp[h1,h2]
theorem ztt(h:Ieee.double.add x z=some a)(g:Ieee.double.add y w=some b):zcG P .add ty (Cv x y) (Cv z w)=some (Cv a b):=by
 have e1:∀{p q r:Nat},Ieee.double.add p q=some r->Op.Complex.arith .add .f64 p q=pure r:=λ{p q r} h=>by show Op.Complex.arith .add .f64 p q=_;unfold Op.Complex.arith Op.floatArith;have h':FloatKind.f64.format.add p q=some _:=h;simp only[h'];rfl
 show zcm P (Op.complexOp .add .f64 x y z w)=_;unfold Op.complexOp;simp only[e1 h,e1 g];rfl
theorem zuT{p q r o:Nat}(h1:Ieee.double.mul x z=some p)(h2:Ieee.double.mul y w=some q)(h3:Ieee.double.mul x w=some r)(h4:Ieee.double.mul y z=some o)(h:Ieee.double.sub p q=some a)(g:Ieee.double.add r o=some b):zcG P .mul ty (Cv x y) (Cv z w)=some (Cv a b):=by
 have e1:∀{p q r:Nat},Ieee.double.mul p q=some r->Op.Complex.mul p q=pure r:=λ{p q r} h=>by show Op.Complex.arith .mul .f64 p q=_;unfold Op.Complex.arith Op.floatArith;have h':FloatKind.f64.format.mul p q=some _:=h;simp only[h'];rfl
 have e2:Op.Complex.sub p q=pure a:=by show Op.Complex.arith .sub .f64 p q=_;unfold Op.Complex.arith Op.floatArith;have h':FloatKind.f64.format.sub p q=some _:=h;simp only[h'];rfl
 have e3:Op.Complex.add r o=pure b:=by show Op.Complex.arith .add .f64 r o=_;unfold Op.Complex.arith Op.floatArith;have h':FloatKind.f64.format.add r o=some _:=g;simp only[h'];rfl
 have r:∀{p q r:Nat} {f:Nat->Nat->Sem Nat},f p q=pure r->runP P (f p q)=some r:=λh=>by rw[h];rfl
 have hp:runP P (Op.Complex.product x y z w)=some (a,b):=by unfold Op.Complex.product;rw[zaC _ _ (r (e1 h1)),zaC _ _ (r (e1 h2)),zaC _ _ (r e2),zaC _ _ (r (e1 h3)),zaC _ _ (r (e1 h4)),zaC _ _ (r e3)];rfl
 have e4:∀n,runP P (Op.Complex.conv .f64 n .f64)=some n:=λn=>by unfold Op.Complex.conv;rw[if_pos rfl];rfl
 have hc:runP P (Op.complexOp .mul .f64 x y z w)=some (Cv a b):=by unfold Op.complexOp;simp only;rw[zaC _ _ (e4 x),zaC _ _ (e4 y),zaC _ _ (e4 z),zaC _ _ (e4 w)];rw[if_pos (by decide),zaC _ _ hp];simp only;rw[zaC _ _ (e4 a),zaC _ _ (e4 b)];rfl
 show zcm P (Op.complexOp .mul .f64 x y z w)=_;unfold zcm;rw[hc];rfl
theorem zye{s e:TypeId}{k k':IntKind}{n:Int}(h:P.underlying e=some (.int k))(h':(P.underlying s).isSome=true):zbU P s e (.int k' n) m=some (.int k (k.wrap n)):=by
 obtain⟨d,h'⟩:=Option.isSome_iff_exists.1 h';have hp:plain (.int k' n)=true:=rfl;have hc:zcm P (convert s e (.int k' n))=some (.int k (k.wrap n)):=by unfold zcm convert;rw[zaC _ _ (zdd h'),zaC _ _ (zdd h)];rfl
 unfold zbU zem;simp only[ev,hp,if_true,h];exact hc
def zqL:Option TypeDesc->Bool
 |some (.int _)=>true
 |_=>false
def zDm:Option TypeDesc->Int->Option Value
 |some (.int k),n=>some (.int k (k.wrap n))
 |_,_=>none
theorem ztX{k:IntKind}:zqL (some (.int k))=true:=rfl
theorem zxn{k:IntKind}{n:Int}:zDm (some (.int k)) n=some (.int k (k.wrap n)):=rfl
theorem zAQ{s e:TypeId}{k':IntKind}{n:Int}(h:zqL (P.underlying e)=true)(h':(P.underlying s).isSome=true):zbU P s e (.int k' n) m=zDm (P.underlying e) n:=by
 unfold zqL at h;split at h
 ·rename_i k e1;rw[zye e1 h',e1];rfl
 ·cases h
theorem zyI{s e:TypeId}{n:Int}{k:IntKind}(h:P.underlying e=some (.float .f64))(h':(P.underlying s).isSome=true):zbU P s e (.int k n) m=some (Fv (FloatKind.f64.nearest n)):=by
 obtain⟨d,h'⟩:=Option.isSome_iff_exists.1 h';have hp:plain (.int k n)=true:=rfl;have hc:zcm P (convert s e (.int k n))=some (Fv (FloatKind.f64.nearest n)):=by unfold zcm convert;rw[zaC _ _ (zdd h'),zaC _ _ (zdd h)];rfl
 unfold zbU zem;simp only[ev,hp,if_true,h];exact hc
theorem zjK{s e:TypeId}(h:P.underlying e=some (.int .i64))(h':(P.underlying s).isSome=true)(hx:Wd x v)(hv:v.natAbs<2 ^ 53):zbU P s e (Fv x) m=some (.int .i64 v):=by
 obtain⟨d,h'⟩:=Option.isSome_iff_exists.1 h';have hp:plain (Fv x)=true:=rfl;have hc:zcm P (convert s e (Fv x))=some (.int .i64 v):=by
  unfold zcm convert;rw[zaC _ _ (zdd h'),zaC _ _ (zdd h)];have e1:Conv.floatToInt .f64 x .i64=pure (.int .i64 v):=by unfold Conv.floatToInt;simp only[hx.toInt];rw[if_pos ⟨by show(-9223372036854775808:Int)<=v;omega,by show v<=(9223372036854775807:Int);omega⟩]
  show(match runP P (Conv.floatToInt .f64 x .i64) with|some v=>_|none=>none)=_;rw[e1];rfl
 unfold zbU zem;simp only[ev,hp,if_true,h];exact hc
end
theorem CallI.con1{f:FuncId}{args args1:List Value}{m m' m0 m1:Mem}{v v1:Value}{K:List zb8->Value->Mem->Prop}(h:Con E.P f args m v m')(hL:args1=args->m0=m->v1=v∧m1=m')(hK:K [⟨.call f args,m,v,m'⟩,⟨.call f args1,m0,v1,m1⟩] v m'):CallI E [⟨.call f args1,m0,v1,m1⟩] (.call f args) m (K:=⟨K⟩):=
 CallI.con h (λc hc e1 e2=>by simp only[List.mem_cons,List.not_mem_nil,or_false] at hc;subst hc;injection e1 with _ e1;exact hL e1 e2) hK
def XG:=aI @zDv<|aI @zB7<|aI @zBe<|aI @zzY<|aI @zyg<|aI @zyU<|aI @zG2<|aI @zyI<|aI @zAQ<|aI @ztX<|aI @zxn<|aI @zkv<|aI @Option.isSome_some.{0}<| @zkf
end
end
end Go.Ab
namespace Go.Ab
open Go.Proofs
noncomputable section
set_option maxHeartbeats 4000000
set_option maxRecDepth 10000
section
variable{m:Mem}{n x y:Int}
abbrev Nf(n:Int):Nat:=FloatKind.f64.nearest n
abbrev zC(z:Int×Int):Value:=zV z
def zbK(n:Int):Int:=if 524288<=n.tmod 1048576 then n.tmod 1048576-1048576 else if n.tmod 1048576< -524288 then n.tmod 1048576+1048576 else n.tmod 1048576
theorem zmT: -524288<=zbK n∧zbK n<524288:=by
 have h1:=Int.tmod_lt_of_pos n (show(0:Int)<1048576 by decide);have h2: -1048576<n.tmod 1048576:=by have:=Int.tmod_lt_of_pos (-n) (show(0:Int)<1048576 by decide);rw[Int.neg_tmod] at this;omega
 unfold zbK;split
 ·omega
 ·split<;>omega
theorem zmL:Con EE.P 293 [In n] m (Fv (Nf (zbK n))) m:=by
 refine Con.of zai zEw (bA rfl) Grow.rfl λhm=>?_;have h1:=Int.tmod_lt_of_pos n (show(0:Int)<1048576 by decide);have h2: -1048576<n.tmod 1048576:=by have:=Int.tmod_lt_of_pos (-n) (show(0:Int)<1048576 by decide);rw[Int.neg_tmod] at this;omega
 have hb:∀{k:IntKind} {a:Int} {ty:Nat},zcG EE.P .rem ty (.int k a) (.int k 1048576)=some (.int k (a.tmod 1048576)):=λ{k a ty}=>zjP (by decide);have w1:IntKind.i64.wrap (n.tmod 1048576-1048576)=n.tmod 1048576-1048576:=zae (by omega) (by omega);have w2:IntKind.i64.wrap (n.tmod 1048576+1048576)=n.tmod 1048576+1048576:=zae (by omega) (by omega);have hz:zbK n=if 524288<=n.tmod 1048576 then n.tmod 1048576-1048576 else if n.tmod 1048576< -524288 then n.tmod 1048576+1048576 else n.tmod 1048576:=rfl
 by_cases a1:524288<=n.tmod 1048576
 ·rw[if_pos a1] at hz;rw[hz];simp only[XX,XY,zE8,yA,yB,yC,hb,w1,a1,XG];exact tP rfl λ_ _=>rfl
 ·rw[if_neg a1] at hz;by_cases a2:n.tmod 1048576< -524288
  ·rw[if_pos a2] at hz;rw[hz];simp only[XX,XY,zE8,yA,yB,yC,hb,w2,a1,a2,XG];exact tP rfl λ_ _=>rfl
  ·rw[if_neg a2] at hz;rw[hz];simp only[XX,XY,zE8,yA,yB,yC,hb,a1,a2,XG];exact tP rfl λ_ _=>rfl
theorem zjm:Con EE.P 227 [In x,In y] m (zC (zbK x,zbK y)) m:=by refine Con.of zai zFD (bA rfl) Grow.rfl λhm=>?_;simp only[XX,XY,zH3,yA,yB,yC];refine cZ zmL ?_;simp only[XX,XY,zH3,yA,yB];refine CallI.con1 zmL (λe _=>by injection e with e;injection e with _ e;rw[e];exact⟨rfl,rfl⟩) ?_;simp only[XX,XY,yA,yB,XG];exact tP rfl λ_ _=>rfl
def s32(x:BitVec 32):Int:=IntKind.i32.wrap x.toNat
theorem zBR{x:BitVec 32}: -2147483648<=s32 x∧s32 x<2147483648:=by have:=x.isLt;unfold s32 IntKind.wrap;simp only[IntKind.signed,IntKind.bits];simp;split<;>omega
theorem zkR{a b:BitVec 32}:Con EE.P 171 [Um a,Um b] m (zC (zbK (s32 a),zbK (s32 b))) m:=by
 refine Con.of zai zGI (bA rfl) Grow.rfl λhm=>?_;have w:∀x:BitVec 32,IntKind.i64.wrap (IntKind.i32.wrap (x.toNat:Int))=s32 x:=λx=>by have:= @zBR x;exact zae (by show-9223372036854775808<=s32 x;omega) (by show s32 x<9223372036854775808;omega)
 simp only[XX,XY,zH8,yA,yB,yC,XG,w];refine cZ zjm ?_;simp only[XX,XY,yA,yB];exact tP rfl λ_ _=>rfl
theorem zwz{a b:Nat}{u v:Int}(ha:Wd a u)(hb:Wd b v)(hu:u.natAbs<2 ^ 53)(hv:v.natAbs<2 ^ 53):Con EE.P 229 [Cv a b] m (zC (zbK u,zbK v)) m:=by refine Con.of zai zEU (bA rfl) Grow.rfl λhm=>?_;have c1:∀{s e M},EE.P.underlying e=some (.int .i64)->(EE.P.underlying s).isSome=true->zbU EE.P s e (Fv a) M=some (In u):=λh h'=>zjK h h' ha hu;have c2:∀{s e M},EE.P.underlying e=some (.int .i64)->(EE.P.underlying s).isSome=true->zbU EE.P s e (Fv b) M=some (In v):=λh h'=>zjK h h' hb hv;simp only[XX,XY,zJp,yA,yB,yC,XG,c1,c2];refine cZ zjm ?_;simp only[XX,XY,yA,yB];exact tP rfl λ_ _=>rfl
end
section
variable{m mr M:Mem}{n x y u v:Int}{a b:Nat}
theorem zxJ{P:Program}{f:FuncId}{fn:Func}{e:Array Value->Sem Value}{args:Array Value}{v:Value}(hf:P.funcs[f]? =some fn)(hname:(fn.name== "runtime.NumGoroutine")=false)(hb:fn.body.isNone=true)(hn:(Extern.findNext fn).isNone=true)(he:Extern.find fn=some e)(hv:runP P (e args)=some v):runP P (callFunc f args)=some (.value v):=by
 unfold callFunc;show runP P (match P.funcs[f]? with|none=>_|some fn=>_)=_;rw[hf];simp only[hname,hb,if_true,bF,if_false];have h0:Extern.findNext fn=none:=by simpa using hn
 rw[h0,he];show runP P (do let u<-e args;pure (Next.value u))=_;rw[zaC _ _ hv];rfl
theorem zC2:Extern.find Tryz.f334=some (Extern.MathFloor.toIntegral "math.archFloor" .down):=kr
theorem ztV{x:Nat}{v:Value}(hp:plain v=true)(h:runP EE.P (Extern.MathFloor.toIntegral "math.archFloor" .down #[Fv x])=some v):zbS EE.P 334 [Fv x]=some v:=by unfold zbS;rw[if_pos (show([Fv x].all plain)=true from rfl),zxJ (P:=EE.P) (v:=v) Tryz.func334 kr kr kr zC2 h];simp only[hp,if_true]
theorem zw0(h:Wd a v)(hv:v.natAbs<2 ^ 53):∃w,zbS EE.P 334 [Fv a]=some (Fv w)∧Wd w v:=by
 obtain⟨d,h1,h2,h3⟩:=h.floor hv;refine⟨_,?_,h3⟩;refine ztV rfl ?_;have e:Extern.MathFloor.toIntegral "math.archFloor" .down #[Fv a]=pure (Fv (FloatKind.f64.encode (d.integral .down))):=by show(match FloatKind.f64.decode a with| .nan s t=>_|d=>pure (Value.float .f64 (FloatKind.f64.encode (d.integral .down))))=_;rw[h1];cases d<;>first|rfl|cases h2
 rw[e];rfl
theorem nca:zab EE.P 334=false:=kr
theorem zuH(h:Wd a v)(hv:v.natAbs<2 ^ 53):∃w,Wd w v∧∀m,Con EE.P 319 [Fv a] m (Fv w) m:=by obtain⟨w,h1,h2⟩:=zw0 h hv;refine⟨w,h2,λm=>?_⟩;refine Con.of zai zEA (bA rfl) Grow.rfl λhm=>?_;simp only[XX,XY,zJj,yA,yB,yC,XG,nca,h1];exact tP rfl λ_ _=>rfl
theorem zus(hm:zad m):∃u m',Con EE.P 318 [Cv a b] m u m'∧∃x1,u= .func (.func 333) #[] [PT x1].toArray∧m.next<=x1∧m'.get x1=some (.cells (ofL [Cv a b]) true 0)∧Nx m m':=by refine Con.raw zai zF1 (bA rfl) _ ?_;have hb:zr8 (Cv a b)=some [Cv a b]:=rfl;simp only[XX,XY,zIe,yA,yB,yC,hb];have hn:Nx m ((m.put m.next (.cells (ofL [Cv a b]) true 0)).bump 4):=⟨by(try simp only[bN,nP]);omega,zad.of_low (by have:=hm.n64;(try simp only[bN,nP]);omega) (by repeat(first|exact Low.of hm nO|refine Low.put ?_ nO|refine Low.bump ?_)),λy hy=>by simp only[gB,gP,zb3 hy,if_false]⟩;exact⟨⟨hn.next,λy hy e=>by rw[hn.old y hy,e]⟩,m.next,rfl,lR' _,gA,hn⟩
structure Rnd(mr:Mem)(lp o:Nat)(lr:zct)(v:Value)(M:Mem):Prop where
 next:mr.next<=M.next
 low:Low M M.next
 loop:M.get lp=some (.loop lr)
 out:M.get o=some (.cells (ofL [v]) true 0)
 old:∀y,y<mr.next->y≠lp->y≠o->M.get y=mr.get y
theorem Rnd.bump{lp o:Nat}{lr:zct}{v:Value}(h:Rnd mr lp o lr v M)(j:Nat):Rnd mr lp o lr v (M.bump j):=⟨by rw[bN];exact lA h.next,by rw[bN];exact(h.low.up (Nat.le_add_right _ _)).bump,h.loop,h.out,h.old⟩
theorem zsN{lp x1:Nat}(hx:mr.get x1=some (.cells (ofL [Cv a b]) true 0))(Inv:Mem->Prop)(h0:Inv mr)(hb:∀M j,Inv M->Inv (M.bump j))(hI:∀M,Inv M->mr.next<=M.next∧M.get x1=some (.cells (ofL [Cv a b]) true 0)∧Grow mr M)
  (s:∀M w,Inv M->(w=a∨w=b)->∃u m',zgt EE.P lp [Fv w] M u m'∧u= .bool true∧M.next<=m'.next∧Inv m'):∃u m2,Con EE.P 333 [.func (.yield lp) #[] #[],PT x1] mr u m2∧Inv m2:=by
 refine Con.raw zai zEs (bA rfl) _ ?_;simp only[XX,XY,zH2,yA,yB,yC,hx,XG];refine CallI.rcon (s _ a (hb _ _ h0) (.inl rfl)) (by simp) λu m' hm'=>?_;obtain⟨rfl,n3,hI'⟩:=hm';obtain⟨n4,hx4,hg4⟩:=hI _ hI';simp only[XX,XY,zH2,yA,yB,yC,hx4,n4,XG];refine CallI.rcon (s _ b (hb _ _ hI') (.inr rfl)) (by simp) λu m2 hm2=>?_;obtain⟨rfl,n5,hI2⟩:=hm2;obtain⟨n6,hx6,hg6⟩:=hI _ hI2;simp only[XX,yA];exact⟨hg6,hI2⟩
end
section
variable{m mr M:Mem}{n x y u v:Int}{a b w:Nat}
theorem zEL:Wd 13916122848574832640 (-524288):=by have e:FloatKind.f64.nearest (-524288)=13916122848574832640:=kr;rw[<-e];exact Wd.int (by decide)
theorem zEy:Wd 4692750811720056832 524288:=by have e:FloatKind.f64.nearest 524288=4692750811720056832:=kr;rw[<-e];exact Wd.int (by decide)
abbrev lrM(tl:List (Nat×Value)):zct:={state:= .ready,pend:=none,tmps:=T 23 tl,ps:=[7],assign:=(kO Tryz.f294.body 9),body:=(kO Tryz.f294.body 10)}
theorem zkb{lp o:Nat}{tl:List (Nat×Value)}(h3:lk tl 3=PT o)(hr:64<=mr.next)(hlp:lp<mr.next)(ho:o<mr.next)(hne:¬o=lp)(hI:Rnd mr lp o (lrM tl) (.bool true) M)(hw:Wd w v)(h1: -524288<=v)(h2:v<524288):
  ∃u m',zgt EE.P lp [Fv w] M u m'∧u= .bool true∧M.next<=m'.next∧Rnd mr lp o (lrM tl) (.bool true) m':=by
 have Ml:=hI.loop;have Mo:=hI.out;have hne2:¬lp=o:=λe=>hne e.symm;obtain⟨z,hz,hf⟩:=zuH hw (by omega);refine zgt.of zai (r:=lrM tl) Ml rfl rfl ?_;have g1:∀{ty},zcG EE.P .geq ty (Fv w) (.float .f64 13916122848574832640)=some (.bool (decide ((-524288:Int)<=v))):=zvs hw zEL;have g2:∀{ty},zcG EE.P .lss ty (Fv w) (.float .f64 4692750811720056832)=some (.bool (decide (v<(524288:Int)))):=zuB hw zEy;have g3:∀{ty p q m},eqA EE.P .eql ty p q (Fv z) (Fv w) m=some (.bool (decide (v=v))):=eqf hz hw;simp only[XX,XY,zAC,yA,yB,yC,XG,Ml,g1,g2,h1,h2];refine cZ (hf _) ?_;simp only[XX,XY,zAC,yA,yB,yC,yG,Ml,Mo,h3,hne,hne2,g3];have e0:(ofL [Value.bool true]).write 0 [Value.bool true]=ofL [Value.bool true]:=rfl;have hn:=hI.next;rw[e0];refine⟨⟨nO,λy hy e=>?_⟩,⟨nO,?_,?_,?_,λy hy e1 e2=>?_⟩⟩
 ·have k1:¬y=lp:=λe2=>by rw[e2,Ml] at e;cases e
  have k2:¬y=o:=λe2=>by rw[e2,Mo] at e;cases e
  simp only[gB,gP,k1,k2,if_false,e]
 ·refine Low.up (Low.bump (Low.put (Low.put (Low.put hI.low (by omega)) (by omega)) (by omega))) nO
 ·rw[gB,gP,if_pos rfl]
 ·rw[gB,gP,if_neg hne,gP,if_pos rfl]
 ·simp only[gB,gP,e1,e2,if_false];exact hI.old y hy e1 e2
theorem zxN(ha:Wd a x)(hb:Wd b y)(hx: -524288<=x∧x<524288)(hy: -524288<=y∧y<524288):Con EE.P 294 [Cv a b] m (.bool true) m:=by
 refine Con.of zai zHr (bA rfl) Grow.rfl λhm=>?_;simp only[XX,XY,zAC,yA,yB,yC];have e0:(ofL [Value.bool false]).write 0 [Value.bool true]=ofL [Value.bool true]:=rfl;have hN0:Nx m (((m.put (m.next+1) (.cells (ofL [Value.bool false]) true 0)).put (m.next+1) (.cells ((ofL [Value.bool false]).write 0 [Value.bool true]) true 0)).bump 5):=⟨by(try simp only[bN,nP]);omega,zad.of_low (by have:=hm.n64;(try simp only[bN,nP]);omega) (by repeat(first|exact Low.of hm nO|refine Low.put ?_ nO|refine Low.bump ?_)),λy hy=>by simp only[gB,gP,zbL hy,if_false]⟩;refine cX (zus hN0.fresh) λu M hu=>?_;obtain⟨x1,rfl,k1,k2,k3⟩:=hu;have n1:=k3.next;simp only[bN,nP] at n1 k1;have l1:=k3.fresh.lt k2;have qo:M.get (m.next+1)=some (.cells (ofL [.bool true]) true 0):=by rw[k3.old _ nO,gB,gP,if_pos rfl,e0]
 simp only[XX,zAC,yA];obtain⟨tl,htl⟩:∃tl,tl=[(6,Value.func (Fn.func 333) #[] #[PT x1]),(5,Cv a b),(3,Value.pointer (some {block:=m.next+1,off:=0})),(2,Value.bool false),(0,Cv a b)]:=⟨_,rfl⟩;have hmr:zad ((M.put M.next (.loop (lrM tl))).bump 1):=by have:=k3.fresh;exact zad.of_low (by have:=this.n64;simp only[bN,nP];omega) (Low.bump (Low.put (Low.of this nO) nO))
 have nmr:((M.put M.next (.loop (lrM tl))).bump 1).next=M.next+1:=by simp only[bN,nP]
 refine zgS (g:=333) (l':=[(3,PT (m.next+1))]) (R:=λ_ m2=>Rnd ((M.put M.next (.loop (lrM tl))).bump 1) M.next (m.next+1) (lrM tl) (.bool true) m2) [] [PT x1] (by omega) (by simp only[zwB,zc4,Nat.reduceLT,Nat.reduceEqDiff,reduceIte]) kr ?_ (λp hp=>?_) (λ_ m2 hI=>?_)
 ·rw[<-htl];have hx1:((M.put M.next (.loop (lrM tl))).bump 1).get x1=some (.cells (ofL [Cv a b]) true 0):=by rw[gB,gP,if_neg (by omega)];exact k2
  have ho1:((M.put M.next (.loop (lrM tl))).bump 1).get (m.next+1)=some (.cells (ofL [.bool true]) true 0):=by rw[gB,gP,if_neg (by omega)];exact qo
  have hl1:((M.put M.next (.loop (lrM tl))).bump 1).get M.next=some (.loop (lrM tl)):=by rw[gB,gP,if_pos rfl]
  refine zsN hx1 (Rnd ((M.put M.next (.loop (lrM tl))).bump 1) M.next (m.next+1) (lrM tl) (.bool true)) ⟨lR' _,hmr.none,hl1,ho1,λ_ _ _ _=>rfl⟩ (λM2 j h=>h.bump j) (λM2 h=>⟨h.next,?_,h.next,λy hy e=>?_⟩) (λM2 w h hw=>?_)
  ·rw[h.old x1 (by rw[nmr];omega) (by omega) (by omega)];exact hx1
  ·rw[h.old y hy (λe2=>by rw[e2,hl1] at e;cases e) (λe2=>by rw[e2,ho1] at e;cases e),e]
  ·have h3:lk tl 3=PT (m.next+1):=by rw[htl];rfl
   have h64:=hm.n64;rcases hw with rfl|rfl
   ·exact zkb h3 (by rw[nmr];omega) (by rw[nmr];omega) (by rw[nmr];omega) (by omega) h ha hx.1 hx.2
   ·exact zkb h3 (by rw[nmr];omega) (by rw[nmr];omega) (by rw[nmr];omega) (by omega) h hb hy.1 hy.2
 ·simp only[List.mem_cons,List.not_mem_nil,or_false] at hp;subst hp;exact zwi (.inl ⟨rfl,by omega⟩)
 ·have n3:=hI.next;rw[nmr] at n3;refine zb1 hI.loop ?_;have mo:=hI.out;have n5:m.next<=m2.next:=by omega
  have k6:¬m.next+1=M.next:=by omega
  simp only[XX,XY,zAC,yA,yB,yC,n5,mo,k6];refine tP rfl λy hy=>?_;rw[gB,gP,if_neg (by omega),hI.old y (by rw[nmr];omega) (by omega) (by omega),gB,gP,if_neg (by omega),k3.old y nO,gB,gP,if_neg (by omega),gP,if_neg (by omega)]
end
section
variable{m mr M:Mem}{z w:Int×Int}
theorem Zin.wrap{x y:Int}:Zin (zbK x,zbK y):=⟨zmT,zmT⟩
theorem Zin.w1(h:Zin z):Wd (Nf z.1) z.1:=Wd.int (by have:=h.1;omega)
theorem Zin.w2(h:Zin z):Wd (Nf z.2) z.2:=Wd.int (by have:=h.2;omega)
theorem Zin.may(h:Zin z):Con EE.P 294 [zC z] m (.bool true) m:=zxN h.w1 h.w2 h.1 h.2
theorem zm3(h:Zin z):Con EE.P 230 [zC z] m (zC z) m:=by refine Con.of zai zGP (bA rfl) Grow.rfl λhm=>?_;simp only[XX,XY,zHH,yA,yB,yC];refine cZ h.may ?_;simp only[XX,XY,zHH,yA,yB,yC];exact tP rfl λ_ _=>rfl
theorem zkD(h:Zin z):Con EE.P 228 [zC z] m (.tuple [In z.1,In z.2].toArray) m:=by refine Con.of zai zHf (bA rfl) Grow.rfl λhm=>?_;have c1:∀{s e M},EE.P.underlying e=some (.int .i64)->(EE.P.underlying s).isSome=true->zbU EE.P s e (Fv (Nf z.1)) M=some (In z.1):=λh1 h'=>zjK h1 h' h.w1 (by have:=h.1;omega);have c2:∀{s e M},EE.P.underlying e=some (.int .i64)->(EE.P.underlying s).isSome=true->zbU EE.P s e (Fv (Nf z.2)) M=some (In z.2):=λh1 h'=>zjK h1 h' h.w2 (by have:=h.2;omega);simp only[XX,XY,zHR,yA,yB,yC];refine cZ h.may ?_;simp only[XX,XY,zHR,yA,yB,yC,XG,zV,c1,c2];exact tP rfl λ_ _=>rfl
def w32(x:Int):BitVec 32:=BitVec.ofInt 32 x
theorem zaR{x:Int}:IntKind.u32.wrap x=((w32 x).toNat:Int):=by rw[za4];unfold w32;rw[BitVec.toNat_ofInt];omega
theorem zp6(h:Zin z):Con EE.P 172 [zC z] m (.tuple [Um (w32 z.1),Um (w32 z.2)].toArray) m:=by refine Con.of zai zGr (bA rfl) Grow.rfl λhm=>?_;simp only[XX,XY,zHQ,yA,yB,yC];refine cZ (zkD h) ?_;have hw:= @zaR;simp only[XX,XY,zHQ,yA,yB,yC,XG,hw];exact tP rfl λ_ _=>rfl
theorem zyo{P:Program}{k:IntKind}{a:Int}:unV P .neg (.int k a)=some (.int k (k.wrap (-a))):=by
 have e:unV P .neg (.int k a)=some (.int k (k.wrap (0-a))):=by cases k<;>rfl
 rw[e,Int.zero_sub]
theorem zzr(h:Zin z):Con EE.P 175 [zC z] m (zC (zbK z.1,zbK (-z.2))) m:=by refine Con.of zai zHn (bA rfl) Grow.rfl λhm=>?_;simp only[XX,XY,zHV,yA,yB,yC];refine cZ (zkD h) ?_;have hw:IntKind.i64.wrap (-z.2)= -z.2:=zae (by have:=h.2;omega) (by have:=h.2;omega);simp only[XX,XY,zHV,yA,yB,yC,zyo,hw];refine cZ zjm ?_;simp only[XX,XY,yA,yB];exact tP rfl λ_ _=>rfl
theorem zz8(h:Zin z)(g:Zin w):Con EE.P 173 [zC z,zC w] m (zC (zbK (z.1+w.1),zbK (z.2+w.2))) m:=by refine Con.of zai zEr (bA rfl) Grow.rfl λhm=>?_;have h1:=h.1;have h2:=h.2;have g1:=g.1;have g2:=g.2;obtain⟨a,a1,a2⟩:=h.w1.add g.w1 (by omega);obtain⟨b,b1,b2⟩:=h.w2.add g.w2 (by omega);have hb:∀{ty},zcG EE.P .add ty (zC z) (zC w)=some (Cv a b):=ztt a1 b1;simp only[XX,XY,zGD,yA,yB,yC];refine cZ (zm3 h) ?_;simp only[XX,XY,zGD,yA,yB];refine CallI.con1 (zm3 g) (λe _=>by injection e with e;exact⟨e,rfl⟩) ?_;simp only[XX,XY,zGD,yA,yB,hb];refine CallI.con (zwz a2 b2 (by omega) (by omega)) (by simp) ?_;simp only[XX,XY,yA,yB];exact tP rfl λ_ _=>rfl
theorem zjz{x y:Int}(hx: -524288<=x∧x<524288)(hy: -524288<=y∧y<524288):(x*y).natAbs<=274877906944:=by rw[Int.natAbs_mul];exact Nat.mul_le_mul (show x.natAbs<=524288 by omega) (show y.natAbs<=524288 by omega)
theorem zxC(h:Zin z)(g:Zin w):Con EE.P 174 [zC z,zC w] m (zC (zbK (z.1*w.1-z.2*w.2),zbK (z.1*w.2+z.2*w.1))) m:=by refine Con.of zai zFx (bA rfl) Grow.rfl λhm=>?_;have q1:=zjz h.1 g.1;have q2:=zjz h.2 g.2;have q3:=zjz h.1 g.2;have q4:=zjz h.2 g.1;obtain⟨p,p1,p2⟩:=h.w1.mul g.w1 (by omega);obtain⟨q,r1,r2⟩:=h.w2.mul g.w2 (by omega);obtain⟨r,s1,s2⟩:=h.w1.mul g.w2 (by omega);obtain⟨o,t1,t2⟩:=h.w2.mul g.w1 (by omega);obtain⟨a,a1,a2⟩:=p2.sub r2 (by omega);obtain⟨b,b1,b2⟩:=s2.add t2 (by omega);have hb:∀{ty},zcG EE.P .mul ty (zC z) (zC w)=some (Cv a b):=zuT p1 r1 s1 t1 a1 b1;simp only[XX,XY,zHk,yA,yB,yC];refine cZ (zm3 h) ?_;simp only[XX,XY,zHk,yA,yB];refine CallI.con1 (zm3 g) (λe _=>by injection e with e;exact⟨e,rfl⟩) ?_;simp only[XX,XY,zHk,yA,yB,hb];refine CallI.con (zwz a2 b2 (by omega) (by omega)) (by simp) ?_;simp only[XX,XY,yA,yB];exact tP rfl λ_ _=>rfl
end
section
variable{P:Program}{ty:TypeId}{m:Mem}{a b:BitVec 32}
theorem zgi:zcG P .and ty (Um a) (Um b)=some (Um (a&&&b)):=(zlf (P:=P) (ds:=[]) (t:=ty) (x:=U a) (y:=U b) (v:=U (a&&&b)) rfl rfl rfl rfl).2
theorem zsh:zcG P .or ty (Um a) (Um b)=some (Um (a|||b)):=(zmA (P:=P) (ds:=[]) (t:=ty) (x:=U a) (y:=U b) (v:=U (a|||b)) rfl rfl rfl rfl).2
theorem zCh:zcG P .xor ty (Um a) (Um b)=some (Um (a ^^^ b)):=by show zcm P (binOp .xor ty (U a) (U b))=_;exact zgG (show Op.intBits .xor .u32 _ _=_ by simp only[Op.intBits];show pure (Value.int .u32 (IntKind.u32.wrap ((BitVec.ofInt 32 _ ^^^ BitVec.ofInt 32 _).toNat:Int)))=_;rw[zeE,zeE])
theorem zvO:zcG P .and ty (Um a) (.int .u32 31)=some (Um (a&&&31#32)):=zgi (b:=31#32)
theorem zBZ:zcG P .and ty (Um a) (.int .u32 15)=some (Um (a&&&15#32)):=zgi (b:=15#32)
theorem zqf:zcG P .and ty (Um a) (.int .u32 65535)=some (Um (a&&&65535#32)):=zgi (b:=65535#32)
theorem ziu{yk:IntKind}{k:Int}(hk:0<=k):zcG P .shl ty (Um a) (.int yk k)=some (Um (a<<<k.toNat)):=(zj0 (P:=P) (ds:=[]) (t:=ty) (x:=U a) (y:= .int yk k) (v:=U (a<<<k.toNat)) rfl rfl rfl rfl hk).2
theorem zfz{yk:IntKind}{k:Int}(hk:0<=k):zcG P .shr ty (Um a) (.int yk k)=some (Um (a>>>k.toNat)):=(zjY (P:=P) (ds:=[]) (t:=ty) (x:=U a) (y:= .int yk k) (v:=U (a>>>k.toNat)) rfl rfl rfl rfl hk).2
theorem zE4{a b:BitVec 32}:IntKind.u32.wrap ((a.toNat:Int)-(b.toNat:Int))=((a-b).toNat:Int):=by rw[za4,BitVec.toNat_sub];omega
theorem zcH{a b:BitVec 32}:IntKind.u32.wrap ((a.toNat:Int)+(b.toNat:Int))=((a+b).toNat:Int):=by rw[za4,BitVec.toNat_add];omega
theorem zAZ{a b:BitVec 32}:IntKind.u32.wrap ((a.toNat:Int)*(b.toNat:Int))=((a*b).toNat:Int):=by
 rw[za4,BitVec.toNat_mul,Int.natCast_emod,Int.natCast_mul];have e:((2 ^ 32:Nat):Int)=4294967296:=by decide
 rw[e]
theorem zHN{a b:BitVec 32}:decide ((a.toNat:Int)=(b.toNat:Int))=decide (a=b):=by
 by_cases h:a=b
 ·simp[h]
 ·rw[decide_eq_false h,decide_eq_false λe=>h (BitVec.eq_of_toNat_eq (by omega))]
def tr(c:Bool):BitVec 32:=if c then 1#32 else 0#32
def w16(x:Int):BitVec 32:=w32 (IntKind.u16.wrap x)
structure Ins where
 op:Int
 a:Int
 b:Int
 imm:Int
def zbx(x:Ins):List Value:=[In x.op,In x.a,In x.b,In x.imm]
def zaW(x:Ins)(a b:BitVec 32):Option (BitVec 32):=
 if x.op=1 then some (w32 x.imm)
 else if x.op=2 then some ((w16 x.imm<<<16)|||(a&&&65535#32))
 else if x.op=3 then some b
 else if x.op=4 then some (a+b)
 else if x.op=5 then some (a-b)
 else if x.op=6 then some (a*b)
 else if x.op=7 then some (a&&&b)
 else if x.op=8 then some (a|||b)
 else if x.op=9 then some (a ^^^ b)
 else if x.op=10 then some (a<<<(b&&&31#32).toNat)
 else if x.op=11 then some (a>>>(b&&&31#32).toNat)
 else if x.op=12 then some (a+w32 x.imm)
 else if x.op=13 then some (tr (decide (s32 a<s32 b)))
 else if x.op=14 then some (tr (decide (a=b)))
 else none
theorem znJ{c:Bool}:Con EE.P 176 [.bool c] m (Um (tr c)) m:=by
 refine Con.of zai zEB (bA rfl) Grow.rfl λhm=>?_;cases c with
 |true=>simp only[XX,XY,zHK,yA,yB,yC];exact tP rfl λ_ _=>rfl
 |false=>simp only[XX,XY,zHK,yA,yB,yC];exact tP rfl λ_ _=>rfl
def zjT(o:Option (BitVec 32)):Value:= .tuple [Um (o.getD 0#32), .bool o.isSome].toArray
theorem zzt{x:Ins}(h:x.op=1):Con EE.P 129 [.agg (zbx x).toArray,Um a,Um b] m (zjT (zaW x a b)) m:=by obtain⟨op,xa,xb,imm⟩:=x;simp only at h;subst h;have hc:zaW ⟨1,xa,xb,imm⟩ a b=some ((w32 imm)):=rfl;rw[hc];refine Con.of zai ze0 (bA rfl) Grow.rfl λhm=>?_;have w32_wrp:= @zaR;simp only[XX,XY,zlp,yA,yB,yC,XG,zbx,w32_wrp];exact tP rfl λy hy=>by simp only[gB,gP];rw[if_neg (by omega)]
theorem zyH{x:Ins}(h:x.op=2):Con EE.P 129 [.agg (zbx x).toArray,Um a,Um b] m (zjT (zaW x a b)) m:=by obtain⟨op,xa,xb,imm⟩:=x;simp only at h;subst h;have hc:zaW ⟨2,xa,xb,imm⟩ a b=some (((w16 imm<<<16)|||(a&&&65535#32))):=rfl;rw[hc];refine Con.of zai ze0 (bA rfl) Grow.rfl λhm=>?_;have w32_wrp:= @zaR;have ew16:∀y,(IntKind.u32.wrap (IntKind.u16.wrap y))=((w16 y).toNat:Int):=λy=>zaR;have uu_shl16:∀{P ty a},zcG P .shl ty (Um a) (.int .u64 16)=some (Um (a<<<16)):=ziu (by decide);simp only[XX,XY,zlp,yA,yB,yC,yH,XG,zbx,w32_wrp,zsh,uu_shl16,zqf];exact tP rfl λy hy=>by simp only[gB,gP];rw[if_neg (by omega)]
theorem zzW{x:Ins}(h:x.op=3):Con EE.P 129 [.agg (zbx x).toArray,Um a,Um b] m (zjT (zaW x a b)) m:=by obtain⟨op,xa,xb,imm⟩:=x;simp only at h;subst h;have hc:zaW ⟨3,xa,xb,imm⟩ a b=some (b):=rfl;rw[hc];refine Con.of zai ze0 (bA rfl) Grow.rfl λhm=>?_;have w32_wrp:= @zaR;simp only[XX,XY,zlp,yA,yB,yC,yH,zbx];exact tP rfl λy hy=>by simp only[gB,gP];rw[if_neg (by omega)]
theorem zxh{x:Ins}(h:x.op=4):Con EE.P 129 [.agg (zbx x).toArray,Um a,Um b] m (zjT (zaW x a b)) m:=by obtain⟨op,xa,xb,imm⟩:=x;simp only at h;subst h;have hc:zaW ⟨4,xa,xb,imm⟩ a b=some ((a+b)):=rfl;rw[hc];refine Con.of zai ze0 (bA rfl) Grow.rfl λhm=>?_;have w32_wrp:= @zaR;simp only[XX,XY,zlp,yA,yB,yC,yH,zbx,zcH];exact tP rfl λy hy=>by simp only[gB,gP];rw[if_neg (by omega)]
theorem zzu{x:Ins}(h:x.op=5):Con EE.P 129 [.agg (zbx x).toArray,Um a,Um b] m (zjT (zaW x a b)) m:=by obtain⟨op,xa,xb,imm⟩:=x;simp only at h;subst h;have hc:zaW ⟨5,xa,xb,imm⟩ a b=some ((a-b)):=rfl;rw[hc];refine Con.of zai ze0 (bA rfl) Grow.rfl λhm=>?_;have w32_wrp:= @zaR;simp only[XX,XY,zlp,yA,yB,yC,yH,zbx,zE4];exact tP rfl λy hy=>by simp only[gB,gP];rw[if_neg (by omega)]
theorem zzX{x:Ins}(h:x.op=6):Con EE.P 129 [.agg (zbx x).toArray,Um a,Um b] m (zjT (zaW x a b)) m:=by obtain⟨op,xa,xb,imm⟩:=x;simp only at h;subst h;have hc:zaW ⟨6,xa,xb,imm⟩ a b=some ((a*b)):=rfl;rw[hc];refine Con.of zai ze0 (bA rfl) Grow.rfl λhm=>?_;have w32_wrp:= @zaR;simp only[XX,XY,zlp,yA,yB,yC,yH,zbx,zAZ];exact tP rfl λy hy=>by simp only[gB,gP];rw[if_neg (by omega)]
theorem zzP{x:Ins}(h:x.op=7):Con EE.P 129 [.agg (zbx x).toArray,Um a,Um b] m (zjT (zaW x a b)) m:=by obtain⟨op,xa,xb,imm⟩:=x;simp only at h;subst h;have hc:zaW ⟨7,xa,xb,imm⟩ a b=some ((a&&&b)):=rfl;rw[hc];refine Con.of zai ze0 (bA rfl) Grow.rfl λhm=>?_;have w32_wrp:= @zaR;simp only[XX,XY,zlp,yA,yB,yC,yH,zbx,zgi];exact tP rfl λy hy=>by simp only[gB,gP];rw[if_neg (by omega)]
theorem zxA{x:Ins}(h:x.op=8):Con EE.P 129 [.agg (zbx x).toArray,Um a,Um b] m (zjT (zaW x a b)) m:=by obtain⟨op,xa,xb,imm⟩:=x;simp only at h;subst h;have hc:zaW ⟨8,xa,xb,imm⟩ a b=some ((a|||b)):=rfl;rw[hc];refine Con.of zai ze0 (bA rfl) Grow.rfl λhm=>?_;have w32_wrp:= @zaR;simp only[XX,XY,zlp,yA,yB,yC,yH,zbx,zsh];exact tP rfl λy hy=>by simp only[gB,gP];rw[if_neg (by omega)]
theorem zyQ{x:Ins}(h:x.op=9):Con EE.P 129 [.agg (zbx x).toArray,Um a,Um b] m (zjT (zaW x a b)) m:=by obtain⟨op,xa,xb,imm⟩:=x;simp only at h;subst h;have hc:zaW ⟨9,xa,xb,imm⟩ a b=some ((a ^^^ b)):=rfl;rw[hc];refine Con.of zai ze0 (bA rfl) Grow.rfl λhm=>?_;have w32_wrp:= @zaR;simp only[XX,XY,zlp,yA,yB,yC,yH,zbx,zCh];exact tP rfl λy hy=>by simp only[gB,gP];rw[if_neg (by omega)]
theorem zvm{x:Ins}(h:x.op=10):Con EE.P 129 [.agg (zbx x).toArray,Um a,Um b] m (zjT (zaW x a b)) m:=by obtain⟨op,xa,xb,imm⟩:=x;simp only at h;subst h;have hc:zaW ⟨10,xa,xb,imm⟩ a b=some ((a<<<(b&&&31#32).toNat)):=rfl;rw[hc];refine Con.of zai ze0 (bA rfl) Grow.rfl λhm=>?_;have w32_wrp:= @zaR;have uu_shl31:∀{P ty a} {b:BitVec 32},zcG P .shl ty (Um a) (Um b)=some (Um (a<<<b.toNat)):=ziu (Int.natCast_nonneg _);simp only[XX,XY,zlp,yA,yB,yC,yH,zbx,zvO,uu_shl31];exact tP rfl λy hy=>by simp only[gB,gP];rw[if_neg (by omega)]
theorem zuf{x:Ins}(h:x.op=11):Con EE.P 129 [.agg (zbx x).toArray,Um a,Um b] m (zjT (zaW x a b)) m:=by obtain⟨op,xa,xb,imm⟩:=x;simp only at h;subst h;have hc:zaW ⟨11,xa,xb,imm⟩ a b=some ((a>>>(b&&&31#32).toNat)):=rfl;rw[hc];refine Con.of zai ze0 (bA rfl) Grow.rfl λhm=>?_;have w32_wrp:= @zaR;have uu_shr31:∀{P ty a} {b:BitVec 32},zcG P .shr ty (Um a) (Um b)=some (Um (a>>>b.toNat)):=zfz (Int.natCast_nonneg _);simp only[XX,XY,zlp,yA,yB,yC,yH,zbx,zvO,uu_shr31];exact tP rfl λy hy=>by simp only[gB,gP];rw[if_neg (by omega)]
theorem zuG{x:Ins}(h:x.op=12):Con EE.P 129 [.agg (zbx x).toArray,Um a,Um b] m (zjT (zaW x a b)) m:=by obtain⟨op,xa,xb,imm⟩:=x;simp only at h;subst h;have hc:zaW ⟨12,xa,xb,imm⟩ a b=some ((a+w32 imm)):=rfl;rw[hc];refine Con.of zai ze0 (bA rfl) Grow.rfl λhm=>?_;have w32_wrp:= @zaR;simp only[XX,XY,zlp,yA,yB,yC,yH,XG,zbx,w32_wrp];exact tP rfl λy hy=>by simp only[gB,gP];rw[if_neg (by omega)]
theorem zvo{x:Ins}(h:x.op=13):Con EE.P 129 [.agg (zbx x).toArray,Um a,Um b] m (zjT (zaW x a b)) m:=by obtain⟨op,xa,xb,imm⟩:=x;simp only at h;subst h;have hc:zaW ⟨13,xa,xb,imm⟩ a b=some ((tr (decide (s32 a<s32 b)))):=rfl;rw[hc];refine Con.of zai ze0 (bA rfl) Grow.rfl λhm=>?_;have w32_wrp:= @zaR;simp only[XX,XY,zlp,yA,yB,yC,yH,XG,zbx];refine cZ znJ ?_;simp only[XX,XY,yA,yB];exact tP rfl λy hy=>by simp only[gB,gP];rw[if_neg (by omega)]
theorem ztG{x:Ins}(h:x.op=14):Con EE.P 129 [.agg (zbx x).toArray,Um a,Um b] m (zjT (zaW x a b)) m:=by obtain⟨op,xa,xb,imm⟩:=x;simp only at h;subst h;have hc:zaW ⟨14,xa,xb,imm⟩ a b=some ((tr (decide (a=b)))):=rfl;rw[hc];refine Con.of zai ze0 (bA rfl) Grow.rfl λhm=>?_;have w32_wrp:= @zaR;simp only[XX,XY,zlp,yA,yB,yC,yH,zbx,zHN];refine cZ znJ ?_;simp only[XX,XY,yA,yB];exact tP rfl λy hy=>by simp only[gB,gP];rw[if_neg (by omega)]
end
end
end Go.Ab
