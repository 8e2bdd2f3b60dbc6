/- Part. -/
import Derived.Test.YtdhcheegbnnlbaaGreatDoorR10
set_option linter.all false
open Go.Ab.Mem renaming next_bump → bN, next_put → nP, get_bump → gB, get_put → gP
open Nat renaming le_of_ble_eq_true → bA, le_add_right_of_le → lA, lt_of_lt_of_le → lL, le_refl → lR', le_trans → lT
open List renaming getD_eq_getElem?_getD → gD', getElem?_eq_getElem → gE', length_append → aL, append_assoc → aA, getElem?_map → gM', length_map → lM, length_set → sL
open Bool renaming false_eq_true → bF
open Go.Ab.CallI renaming ex2 → cX, con0 → cZ
open Go.Ab.TidyE renaming pure → tP
open Go.Ab.Cells renaming ofList → ofL
open Go.Ab.View renaming temps → vT
open Go.Ab.Be renaming trans → bE
open Nat renaming reduceLT → yA, reduceEqDiff → yB, reduceAdd → yC, reduceMul → yD, reduceSub → yE, reducePow → yF, reduceLeDiff → yG
open Int renaming reduceEq → yH, reduceLT → yI, reduceLE → yJ
namespace Go.Ab
open Go.Proofs
noncomputable section
set_option maxHeartbeats 4000000
set_option maxRecDepth 10000
section
variable{m m' M mr:Mem}{n:Nat}{L L' L1 L2:Loc}{X X' X1 X2:St}{v:Value}{fl:List Value}{pid:Int}
theorem FAt.put_i(h:FAt m L X){i:Nat}(hi:i<X.I.length){cs:Cells}{r:zpG}(hr:IC (L.b i) r cs)(hb:r.b=(X.i i).b):FAt (m.put (L.i i) (.cells cs true 0)) L {X with I:=X.I.set i r}:=by
 obtain⟨c0,hc0,_⟩:=h.ip i hi;have key:∀k,k<X.I.length->(X.I.set i r).getD k pipe0=if k=i then r else X.i k:=λk hk=>by
  by_cases e:k=i
  ·subst e;rw[if_pos rfl];exact zah hk
  ·rw[if_neg e];exact zav λe2=>e e2.symm
 have keb:∀k,k<X.I.length->((X.I.set i r).getD k pipe0).b=(X.i k).b:=λk hk=>by
  rw[key k hk];split
  ·rename_i e;rw[e,hb]
  ·rfl
 refine⟨?_,?_,?_,?_,?_,?_,h.lP,h.lG,h.lC,by rw[h.lI];simp,h.lF,by rw[h.lb];simp,h.nd,h.dm,h.ls.put0 (by decide) hc0,h.fs.put0 (by decide) hc0,h.ss.put0 (by decide) hc0,λk hk=>?_,h.dl,h.df,h.ds,λk y hk=>h.db k y (by simpa using hk),λy hy=>⟨(h.sep y hy).1,λk hk=>(h.sep y hy).2 k (by simpa using hk)⟩,h.lt,h.d64,h.pi,h.pf⟩
 ·obtain⟨c1,h1,h2⟩:=h.fl;exact⟨c1,by rw[gP,if_neg (h.f_i hi)];exact h1,⟨h2.n,h2.cores,h2.frames,h2.procs,h2.cap,h2.prog,h2.lv,h2.fv,h2.contents,h2.files,h2.pipes,h2.next,h2.halted,h2.sv⟩⟩
 ·intro k hk;obtain⟨c1,h1,h2⟩:=h.pr k hk;exact⟨c1,by rw[gP,if_neg (h.p_i hk hi)];exact h1,h2⟩
 ·intro k hk;obtain⟨c1,h1,h2⟩:=h.pg k hk;exact⟨c1,by rw[gP,if_neg (h.g_i hk hi)];exact h1,h2⟩
 ·intro k hk;obtain⟨c1,h1,h2⟩:=h.ct k hk;exact⟨c1,by rw[gP,if_neg (h.c_i hk hi)];exact h1,h2⟩
 ·intro k hk;have hk':k<X.I.length:=by simpa using hk
  by_cases e:k=i
  ·subst e;refine⟨cs,by rw[gP,if_pos rfl],?_⟩;show IC _ ((X.I.set k r).getD k pipe0) cs;rw[zah hk'];exact hr
  ·obtain⟨c1,h1,h2⟩:=h.ip k hk';refine⟨c1,by rw[gP,if_neg (λe2=>e (h.ij_i hk' hi e2))];exact h1,?_⟩;show IC _ ((X.I.set i r).getD k pipe0) c1;rw[zav λe2=>e e2.symm];exact h2
 ·intro k hk;obtain⟨c1,h1,h2⟩:=h.xs k hk;exact⟨c1,by rw[gP,if_neg (λe=>h.i_x hi hk e.symm)];exact h1,h2⟩
 ·have hk':k<X.I.length:=by simpa using hk
  have:=(h.bs k hk').put0 (by decide) hc0 (o:= .cells cs true 0);show SlV _ 1 _ ((X.I.set i r).getD k pipe0).b.length (((X.I.set i r).getD k pipe0).b.map By);rw[keb k hk'];exact this
theorem FAt.set_b(h:FAt m L X){M:Mem}{v':Value}{i:Nat}(hi:i<X.I.length){B:List (BitVec 8)}{cf:Cells}(f1:m.get (L.i i)=some (.cells cf true 0))(f2:IC (L.b i) (X.i i) cf)(hn:m.next<=M.next)(hid:∀y,slB v'=some y->m.next<=y∧y<M.next)(h64:64<=m.next)
  (hold:∀y,y<m.next->M.get y=m.get y) (hsl:SlV M 1 v' B.length (B.map By)):
  FAt (M.put (L.i i) (.cells (cf.write 0 [v']) true 0)) {L with bv:=L.bv.set i v',D:=λy=>L.D y∨slB v'=some y} {X with I:=X.I.set i {X.i i with b:=B}}:=by
 have hi':∀y∈L.ids,M.get y=m.get y:=λy hy=>hold y (h.ids_lt hy);have hsd:∀{z n:Nat} {v:Value} {fl:List Value},z≠0->SlV m z v n fl->(∀y,slB v=some y->L.D y)->SlV (M.put (L.i i) (.cells (cf.write 0 [v']) true 0)) z v n fl:=λ{z n v fl} hz hv hd=>hv.keep λy o hy ho=>by have h1:y≠L.i i:=λe=>hv.ne0 hz f1 (by rw[hy,e]);rw[gP,if_neg h1,hold y (h.lt y (hd y hy))];exact ho
 have hlb:=h.lb;refine⟨?_,λk hk=>?_,λk hk=>?_,λk hk=>?_,λk hk=>?_,λk hk=>?_,h.lP,h.lG,h.lC,by rw[h.lI];simp,h.lF,by simp[hlb],h.nd,λy hy=> .inl (h.dm y hy),hsd (by decide) h.ls h.dl,hsd (by decide) h.fs h.df,hsd (by decide) h.ss h.ds,λk hk=>?_,λy hy=> .inl (h.dl y hy),λy hy=> .inl (h.df y hy),λy hy=> .inl (h.ds y hy),λk y hk hy=>?_,λy hy=>⟨(h.sep y hy).1,λk hk=>?_⟩,λy hy=>?_,λy hy=>?_,h.pi,h.pf⟩
 ·obtain⟨c1,a1,a2⟩:=h.fl;exact⟨c1,by rw[gP,if_neg (h.f_i hi),hi' _ h.mf];exact a1,⟨a2.n,a2.cores,a2.frames,a2.procs,a2.cap,a2.prog,a2.lv,a2.fv,a2.contents,a2.files,a2.pipes,a2.next,a2.halted,a2.sv⟩⟩
 ·obtain⟨c1,a1,a2⟩:=h.pr k hk;exact⟨c1,by rw[gP,if_neg (h.p_i hk hi),hi' _ (h.mp hk)];exact a1,a2.move rfl (λ_ _=>rfl) (λ_ _ _=>rfl) (λ_ _ _=>rfl) (λ_ _=>rfl) λ_ _=>rfl⟩
 ·obtain⟨c1,a1,a2⟩:=h.pg k hk;exact⟨c1,by rw[gP,if_neg (h.g_i hk hi),hi' _ (h.mg hk)];exact a1,a2.move rfl⟩
 ·obtain⟨c1,a1,a2⟩:=h.ct k hk;exact⟨c1,by rw[gP,if_neg (h.c_i hk hi),hi' _ (h.mc hk)];exact a1,a2.move⟩
 ·have hk':k<X.I.length:=by simpa using hk
  by_cases e:k=i
  ·subst e;refine⟨_,by rw[gP,if_pos rfl],?_⟩;show IC ((L.bv.set k v').getD k _) ((X.I.set k _).getD k pipe0) _;rw[zah hk',zah (by omega)];exact⟨by rw[zap,f2.n],zbu (by rw[f2.n];decide),(zaa (.inr (bA rfl))).trans f2.readers,(zaa (.inr (bA rfl))).trans f2.writers⟩
  ·obtain⟨c1,a1,a2⟩:=h.ip k hk';refine⟨c1,by rw[gP,if_neg (λe2=>e (h.ij_i hk' hi e2)),hi' _ (h.mi hk')];exact a1,?_⟩;show IC ((L.bv.set i v').getD k _) ((X.I.set i _).getD k pipe0) _;rw[zav λe2=>e e2.symm,zav λe2=>e e2.symm];exact a2
 ·obtain⟨c1,a1,a2⟩:=h.xs k hk;exact⟨c1,by rw[gP,if_neg (λe=>h.i_x hi hk e.symm),hi' _ (h.mx hk)];exact a1,a2.move rfl⟩
 ·have hk':k<X.I.length:=by simpa using hk
  show SlV _ 1 ((L.bv.set i v').getD k _) ((X.I.set i {X.i i with b:=B}).getD k pipe0).b.length (((X.I.set i {X.i i with b:=B}).getD k pipe0).b.map By);by_cases e:k=i
  ·subst e;rw[zah hk',zah (by omega)];exact hsl.put0 (by decide) ((hi' _ (h.mi hk')).trans f1)
  ·rw[zav λe2=>e e2.symm,zav λe2=>e e2.symm];exact hsd (by decide) (h.bs k hk') λy=>h.db k y hk'
 ·have hk':k<X.I.length:=by simpa using hk
  have hy:slB ((L.bv.set i v').getD k (.slice none 0 0))=some y:=hy;by_cases e:k=i
  ·subst e;rw[zah (by omega)] at hy;exact .inr hy
  ·rw[zav λe2=>e e2.symm] at hy;exact .inl (h.db k y hk' hy)
 ·have hk':k<X.I.length:=by simpa using hk
  intro hy2;have hy2:slB ((L.bv.set i v').getD k (.slice none 0 0))=some y:=hy2;by_cases e:k=i
  ·subst e;rw[zah (by omega)] at hy2;have:=(hid y hy2).1;have:=h.lt y (h.dl y hy);omega
  ·rw[zav λe2=>e e2.symm] at hy2;exact(h.sep y hy).2 k hk' hy2
 ·rcases hy with hy|hy
  ·exact lL (h.lt y hy) (by rw[nP];exact hn)
  ·rw[nP];exact(hid y hy).2
 ·rcases hy with hy|hy
  ·exact h.d64 y hy
  ·have:=(hid y hy).1;omega
theorem IC.w_readers{r:zpG}{cs:Cells}(h:IC v r cs){x:Int}:IC v {r with readers:=x} (cs.write 1 [In x]):=⟨by rw[zap,h.n],(zaa (.inl (bA rfl))).trans h.bv,zak (by rw[h.n];decide),(zaa (.inr (bA rfl))).trans h.writers⟩
theorem IC.w_writers{r:zpG}{cs:Cells}(h:IC v r cs){x:Int}:IC v {r with writers:=x} (cs.write 2 [In x]):=⟨by rw[zap,h.n],(zaa (.inl (bA rfl))).trans h.bv,(zaa (.inl (bA rfl))).trans h.readers,zak (by rw[h.n];decide)⟩
theorem Fd.own{b:Nat}{o:zaS}(h:FAt m L X)(hm:zad m)(hb:b∈L.ids):Fd L.D m (m.put b o):=by obtain⟨cs,hc⟩:=h.cell0 hb;exact(Fd.refl hm).put (.inl (h.dm _ hb)) h.lt (.inl (by rw[hc];simp))
theorem FAt.be_p(h:FAt m L X)(hm:zad m){i:Nat}(hi:i<X.P.length){cs:Cells}{r:zb9}(hr:PC L r cs):Be m L {X with P:=X.P.set i r} (m.put (L.p i) (.cells cs true 0)):=⟨L,h.put_p hi hr,Lx.refl,Fd.own h hm (h.mp hi)⟩
theorem FAt.be_x(h:FAt m L X)(hm:zad m){i:Nat}(hi:i<X.F.length){cs:Cells}{r:zfi}(hr:XC L r cs):Be m L {X with F:=X.F.set i r} (m.put (L.x i) (.cells cs true 0)):=⟨L,h.put_x hi hr,Lx.refl,Fd.own h hm (h.mx hi)⟩
def zeO(X:St)(pid g:Int):St:=match zbO X pid with
 |none=>X
 |some i=>if decide ((X.p i).wait=0)=false∧zjI (zcl (X.p i).sig g).1=true then zaI (zaZ {X with P:=X.P.set i {X.p i with sig:=(zcl (X.p i).sig g).1}} i 4) i else{X with P:=X.P.set i {X.p i with sig:=(zcl (X.p i).sig g).1}}
theorem zDG{s:Sg}{g:Int}(h:s.h.length=16):(zcl s g).1.h.length=16:=by unfold zcl;split<;>exact h
theorem ziV(h:FAt m L X)(hm:zad m)(ht:Tb m)(hg:GX X)(hs:X.seen.length<99999)(hf:X.fut.length<100000){g:Int}:∃u m',Con EE.P 51 [PT L.f,In pid,In g] m u m'∧Be m L (zeO X pid g) m':=by
 refine Con.raw zai zIE (bA rfl) _ ?_;have h64:=hm.n64;simp only[XX,XY,F51,yA,yB,yC];refine cZ (zf6 (h.bump _) hg) ?_;cases hl:zbO X pid with
 |none=>simp only[XX,XY,F51,yA,yB,yC,pV];exact zcY.fin (by unfold zeO;rw[hl]) (Be.same h hm _)
 |some i=>
  obtain⟨hi,_,_⟩:=zeK h hl;obtain⟨cs,h1,h2⟩:=h.pr i hi;have h16:=h2.okh;have hh:=h2.sig;have hlt:=h.ids_lt (h.mp hi);simp only[XX,XY,F51,yA,yB,yC,pV,h1,hh];refine cZ (zAW h16) ?_;have h16':=zDG (g:=g) h16;have ho:= @zbv (zcl (X.p i).sig g).1;have hln:=za6 h16';have k1:27+19<=cs.n:=by rw[h2.n];decide
  have hp:=h2.w_sig (x:=(zcl (X.p i).sig g).1) hln h16';have hw:=hp.sig;have hwt:(cs.write 27 (sgL (zcl (X.p i).sig g).1)).nth 46=some (In (X.p i).wait):=hp.wait;have hB1:=h.be_p hm hi hp;cases hw0:decide ((X.p i).wait=0) with
  |true=>simp only[XX,XY,F51,yA,yB,yC,h1,ho,hln,k1,hwt,hw0];refine zcY.fin ?_ (hB1.bump _);unfold zeO;simp only[hl,hw0,Bool.true_eq_false,false_and,if_false]
  |false=>
   simp only[XX,XY,F51,yA,yB,yC,h1,ho,hln,k1,hwt,hw0,hw];refine cZ (zz9 h16') ?_;cases hw1:zjI (zcl (X.p i).sig g).1 with
   |false=>simp only[XX,XY,F51,yA,yB];refine zcY.fin ?_ (hB1.bump _);unfold zeO;simp only[hl,hw1,bF,and_false,if_false]
   |true=>
    simp only[XX,XY,F51,yA,yB,yC];have hA1:=(h.put_p hi hp).bump 40;refine cX (za1 ((h.put_p hi hp).bump _) hB1.fresh.bump (ht.put (h.d64 _ (h.dm _ (h.mp hi)))|>.bump _) (by simpa using hi) (Nat.lt_trans hs (by decide))) λu M hB2=>?_;have hB2:=hB2.of_bump;have nx:=hB2.next;rw[nP] at nx;obtain⟨L1,a1,a2,a3⟩:=hB2;have ep:L.p i=L1.p i:=(a2.p (by rw[h.lP];exact hi)).symm;simp only[XX,XY,F51,yA,yB,yC,nx];rw[ep];refine cX (zfP (a1.bump _) a3.fresh.bump (by simpa [zaZ,zar,zfR] using hi) hf) λu M' hB3=>?_;have hB3:=hB3.of_bump;have nx3:=hB3.next;have nx4:m.next<=M'.next:=by omega
    simp only[XX,yA];refine zcY.fin ?_ (bE Lx.refl (Fd.own h hm (h.mp hi)) (bE a2 a3 hB3));unfold zeO;simp only[hl,hw0,hw1,and_self,if_true]
end
section
variable{m m' M mr:Mem}{n:Nat}{L L' L1 L2:Loc}{X X' X1 X2:St}{v:Value}{fl:List Value}{pid:Int}
theorem zgD{w:Int}{q:Nat}{l:List Nat}:∀{X:St},∃P' S,wakeI X w q l={X with P:=P',fut:=S}∧P'.length=X.P.length∧S.length<=X.fut.length:=by
 induction l with
 |nil=>intro X;exact⟨X.P,X.fut,rfl,rfl,lR' _⟩
 |cons i l ih=>
  intro X;obtain⟨P',S,h1,h2,h3⟩:=ih (X:=if wkB w q X i then zaI X i else X);refine⟨P',S,?_,?_,?_⟩
  ·show wakeI (if wkB w q X i then zaI X i else X) w q l=_;rw[h1];split<;>rfl
  ·rw[h2];split
   ·simp[zaI]
   ·rfl
  ·refine lT h3 ?_;split
   ·exact List.length_filter_le _ _
   ·exact lR' _
theorem GX.set_x(h:GX X){x:Nat}{r:zfi}(hr:r.p<X.I.length):GX {X with F:=X.F.set x r}:=
 ⟨h.lp,h.pr,h.fr,h.cp,h.co,h.nx,h.pg,λi hi=>⟨(h.fd i hi).1,λk x' hx=>by
  show x'<(X.F.set x r).length;rw[sL];exact(h.fd i hi).2 k x' hx⟩,h.pp,h.fc,h.fp,h.gc,h.cb,λx' hx=>by
  obtain⟨h1,h2|h2⟩:=zbD (d:=zaE) hx
  ·show((X.F.set x r).getD x' zaE).p<_;rw[h2];exact h.xp x' h1
  ·show((X.F.set x r).getD x' zaE).p<_;rw[h2];exact hr,h.ib⟩
theorem GX.set_files(h:GX X){n:Int}:GX {X with files:=n}:=⟨h.lp,h.pr,h.fr,h.cp,h.co,h.nx,h.pg,h.fd,h.pp,h.fc,h.fp,h.gc,h.cb,h.xp,h.ib⟩
theorem GX.set_pipes(h:GX X){n:Int}:GX {X with pipes:=n}:=⟨h.lp,h.pr,h.fr,h.cp,h.co,h.nx,h.pg,h.fd,h.pp,h.fc,h.fp,h.gc,h.cb,h.xp,h.ib⟩
theorem GX.set_i(h:GX X){q:Nat}{r:zpG}(hr:(r.b.length:Int)<=X.cap):GX {X with I:=X.I.set q r}:=
 ⟨h.lp,h.pr,h.fr,h.cp,h.co,h.nx,h.pg,h.fd,λi hi q' hq=>by
  show q'<(X.I.set q r).length;rw[sL];exact h.pp i hi q' hq,h.fc,h.fp,h.gc,h.cb,λx hx=>by
  show _<(X.I.set q r).length;rw[sL];exact h.xp x hx,λq' hq=>by
  obtain⟨h1,h2|h2⟩:=zbD (d:=pipe0) hq
  ·show(((X.I.set q r).getD q' pipe0).b.length:Int)<=_;rw[h2];exact h.ib q' h1
  ·show(((X.I.set q r).getD q' pipe0).b.length:Int)<=_;rw[h2];exact hr⟩
def dropC(X:St)(q:Nat):St:=if IntKind.i64.wrap ((X.i q).readers+(X.i q).writers)=0 then{X with pipes:=IntKind.i64.wrap (X.pipes-1)} else X
def zcu(X:St)(x:Nat):St:=if 0<IntKind.i64.wrap ((X.x x).refs-1) then{X with F:=X.F.set x {X.x x with refs:=IntKind.i64.wrap ((X.x x).refs-1)}} else
 if(X.x x).write then dropC (if IntKind.i64.wrap ((X.i (X.x x).p).writers-1)=0 then zcx {X with F:=X.F.set x {X.x x with refs:=IntKind.i64.wrap ((X.x x).refs-1)},files:=IntKind.i64.wrap (X.files-1),I:=X.I.set (X.x x).p {X.i (X.x x).p with writers:=IntKind.i64.wrap ((X.i (X.x x).p).writers-1)}} 2 (X.x x).p else{X with F:=X.F.set x {X.x x with refs:=IntKind.i64.wrap ((X.x x).refs-1)},files:=IntKind.i64.wrap (X.files-1),I:=X.I.set (X.x x).p {X.i (X.x x).p with writers:=IntKind.i64.wrap ((X.i (X.x x).p).writers-1)}}) (X.x x).p
 else dropC (if IntKind.i64.wrap ((X.i (X.x x).p).readers-1)=0 then zcx {X with F:=X.F.set x {X.x x with refs:=IntKind.i64.wrap ((X.x x).refs-1)},files:=IntKind.i64.wrap (X.files-1),I:=X.I.set (X.x x).p {X.i (X.x x).p with readers:=IntKind.i64.wrap ((X.i (X.x x).p).readers-1)}} 3 (X.x x).p else{X with F:=X.F.set x {X.x x with refs:=IntKind.i64.wrap ((X.x x).refs-1)},files:=IntKind.i64.wrap (X.files-1),I:=X.I.set (X.x x).p {X.i (X.x x).p with readers:=IntKind.i64.wrap ((X.i (X.x x).p).readers-1)}}) (X.x x).p
theorem zqq(h:FAt m L X)(hm:zad m)(hg:GX X)(hf:X.fut.length<100000){x:Nat}(hx:x<X.F.length):∃u m',Con EE.P 122 [PT L.f,PT (L.x x)] m u m'∧Be m L (zcu X x) m':=by
 refine Con.raw zai zF8 (bA rfl) _ ?_;obtain⟨cx,h1,h2⟩:=h.xs x hx;obtain⟨q,hqE⟩:∃q,q=(X.x x).p:=⟨_,rfl⟩;have hq:q<X.I.length:=by rw[hqE];exact hg.xp x hx
 obtain⟨ci,q1,q2⟩:=h.ip q hq;obtain⟨cf,f1,f2⟩:=h.fl;have x2:=h2.refs;have hX:=h2.w_refs (x:=IntKind.i64.wrap ((X.x x).refs-1));have y1:(cx.write 2 [In (IntKind.i64.wrap ((X.x x).refs-1))]).nth 2=some (In (IntKind.i64.wrap ((X.x x).refs-1))):=hX.refs;have y2:(cx.write 2 [In (IntKind.i64.wrap ((X.x x).refs-1))]).nth 0=some (PT (L.i q)):=by rw[hqE];exact hX.p
 have y3:(cx.write 2 [In (IntKind.i64.wrap ((X.x x).refs-1))]).nth 1=some (.bool (X.x x).write):=hX.write;have k1:2+1<=cx.n:=by rw[h2.n];decide
 have k2:8+1<=cf.n:=by rw[f2.n];decide
 have k3:2+1<=ci.n:=by rw[q2.n];decide
 have k4:1+1<=ci.n:=by rw[q2.n];decide
 have k6:9+1<=cf.n:=by rw[f2.n];decide
 have n1:¬L.f=L.x x:=h.f_x hx;have n2:¬L.i q=L.x x:=h.i_x hq hx;have n3:¬L.i q=L.f:=λe=>h.f_i hq e.symm;have n4:¬L.x x=L.i q:=λe=>h.i_x hq hx e.symm;have n5:¬L.x x=L.f:=λe=>h.f_x hx e.symm;have n6:¬L.f=L.i q:=h.f_i hq;have hA1:=h.put_x hx hX;have hF1:Fd L.D m (m.put (L.x x) (.cells (cx.write 2 [In (IntKind.i64.wrap ((X.x x).refs-1))]) true 0)):=Fd.own h hm (h.mx hx);by_cases h0:0<IntKind.i64.wrap ((X.x x).refs-1)
 ·have d0:=decide_eq_true h0;simp only[XX,XY,zrV,yA,yB,yC,h1,x2,y1,d0,k1];refine zcY.fin (by unfold zcu;rw[if_pos h0]) (⟨L,hA1.bump _,Lx.refl,hF1.bump _⟩)
 have d0:=decide_eq_false h0;have hA2:=hA1.s_files (cf:=cf) (x:=IntKind.i64.wrap (X.files-1)) (by rw[gP,if_neg n1];exact f1);have hF2:Fd L.D m ((m.put (L.x x) (.cells (cx.write 2 [In (IntKind.i64.wrap ((X.x x).refs-1))]) true 0)).put L.f (.cells (cf.write 8 [In (IntKind.i64.wrap (X.files-1))]) true 0)):=hF1.trans (Fd.own hA1 hF1.fresh hA1.mf) λy hy=> .inl hy;have hgx:(X.x x).p<X.I.length:=by rw[<-hqE];exact hq
 have hib:=hg.ib q hq;have hg3:∀r w:Int,GX {X with F:=X.F.set x {X.x x with refs:=IntKind.i64.wrap ((X.x x).refs-1)},files:=IntKind.i64.wrap (X.files-1),I:=X.I.set q {X.i q with readers:=r,writers:=w}}:=λr w=>((hg.set_x (x:=x) (r:={X.x x with refs:=IntKind.i64.wrap ((X.x x).refs-1)}) hgx).set_files (n:=IntKind.i64.wrap (X.files-1))).set_i (q:=q) (r:={X.i q with readers:=r,writers:=w}) hib;cases hwr:(X.x x).write
 rotate_left
 ·
  have hP:=q2.w_writers (x:=IntKind.i64.wrap ((X.i q).writers-1));have hA3:=hA2.put_i (r:={X.i q with writers:=IntKind.i64.wrap ((X.i q).writers-1)}) hq hP rfl;have hF3:Fd L.D m (((m.put (L.x x) (.cells (cx.write 2 [In (IntKind.i64.wrap ((X.x x).refs-1))]) true 0)).put L.f (.cells (cf.write 8 [In (IntKind.i64.wrap (X.files-1))]) true 0)).put (L.i q) (.cells (ci.write 2 [In (IntKind.i64.wrap ((X.i q).writers-1))]) true 0)):=hF2.trans (Fd.own hA2 hF2.fresh (hA2.mi hq)) λy hy=> .inl hy;have w1:(ci.write 2 [In (IntKind.i64.wrap ((X.i q).writers-1))]).nth 1=some (In (X.i q).readers):=hP.readers;have w2:(ci.write 2 [In (IntKind.i64.wrap ((X.i q).writers-1))]).nth 2=some (In (IntKind.i64.wrap ((X.i q).writers-1))):=hP.writers;by_cases hz:IntKind.i64.wrap ((X.i q).writers-1)=0
  ·have dz:=decide_eq_true hz;simp only[XX,XY,zrV,yA,yB,yC,h1,x2,y1,y2,y3,hwr,d0,k1,k2,k3,n1,n2,n3,n4,n5,f1,f2.files,q1,q2.writers,w2,dz];refine cX (zjB (hA3.bump _) hF3.fresh.bump (hg3 _ _) hf (q:=q) (by simpa using hq)) λu M hB=>?_;have hB:=hB.of_bump;have nx:=hB.next;simp only[nP] at nx;obtain⟨P',S,eX,lP',lS⟩:=zgD (X:={X with F:=X.F.set x {X.x x with refs:=IntKind.i64.wrap ((X.x x).refs-1)},files:=IntKind.i64.wrap (X.files-1),I:=X.I.set q {X.i q with writers:=IntKind.i64.wrap ((X.i q).writers-1)}}) (w:=2) (q:=q) (l:=X.l);obtain⟨L1,a1,a2,a3⟩:=hB;have ex:L1.x x=L.x x:=a2.x (by rw[h.lF];exact hx);have ei:L1.i q=L.i q:=a2.i (by rw[h.lI];exact hq);have ef:L1.f=L.f:=a2.f;have eW:zcx {X with F:=X.F.set x {X.x x with refs:=IntKind.i64.wrap ((X.x x).refs-1)},files:=IntKind.i64.wrap (X.files-1),I:=X.I.set q {X.i q with writers:=IntKind.i64.wrap ((X.i q).writers-1)}} 2 q=_:=eX;rw[eW] at a1;obtain⟨cx',e1,e2⟩:=a1.xs x (by simpa using hx);have e3:=e2.p;have eg:((X.F.set x {X.x x with refs:=IntKind.i64.wrap ((X.x x).refs-1)}).getD x zaE)={X.x x with refs:=IntKind.i64.wrap ((X.x x).refs-1)}:=zah hx;have e4:cx'.nth 0=some (PT (L.i q)):=by rw[e3,<-ei];show some (PT (L1.i ((X.F.set x _).getD x zaE).p))=_;rw[eg,hqE]
   rw[ex] at e1;obtain⟨ci',g1,g2⟩:=a1.ip q (by simpa using hq);have g3:ci'.nth 1=some (In (X.i q).readers):=by rw[g2.readers];show some (In ((X.I.set q _).getD q pipe0).readers)=_;rw[zah hq]
   have g4:ci'.nth 2=some (In (IntKind.i64.wrap ((X.i q).writers-1))):=by rw[g2.writers];show some (In ((X.I.set q _).getD q pipe0).writers)=_;rw[zah hq]
   rw[ei] at g1;obtain⟨cf',b1,b2⟩:=a1.fl;have b3:=b2.pipes;have k5:9+1<=cf'.n:=by rw[b2.n];decide
   have hB4:Be m L _ M:=⟨L1,a1,a2.cast (by simp only[nP]),hF3.trans a3 λy hy=> .inl hy⟩;have edr:zcu X x=dropC {X with F:=X.F.set x {X.x x with refs:=IntKind.i64.wrap ((X.x x).refs-1)},files:=IntKind.i64.wrap (X.files-1),I:=X.I.set q {X.i q with writers:=IntKind.i64.wrap ((X.i q).writers-1)},P:=P',fut:=S} q:=by subst hqE;unfold zcu;rw[if_neg h0,if_pos hwr,if_pos hz,eW]
   have hfld:((X.I.set q {X.i q with writers:=IntKind.i64.wrap ((X.i q).writers-1)}).getD q pipe0)={X.i q with writers:=IntKind.i64.wrap ((X.i q).writers-1)}:=zah hq;rw[ef] at b1;by_cases hs:IntKind.i64.wrap ((X.i q).readers+IntKind.i64.wrap ((X.i q).writers-1))=0
   ·have ds:=decide_eq_true hs;simp only[XX,XY,zrV,yA,yB,yC,nx,e1,e4,g1,g3,g4,b1,b3,k5,ds,lA];have hA5:=a1.s_pipes (cf:=cf') (x:=IntKind.i64.wrap (X.pipes-1)) (by rw[ef];exact b1);rw[ef] at hA5;refine zcY.fin (edr.trans ?_) (bE (a2.cast (by simp only[nP])) (hF3.trans a3 λy hy=> .inl hy) (⟨L1,hA5.bump _,Lx.refl,(by have:=Fd.own (o:= .cells (cf'.write 9 [In (IntKind.i64.wrap (X.pipes-1))]) true 0) a1 a3.fresh a1.mf;rw[ef] at this;exact this.bump _)⟩));unfold dropC;show(if IntKind.i64.wrap (((X.I.set q _).getD q pipe0).readers+((X.I.set q _).getD q pipe0).writers)=0 then _ else _)=_;rw[hfld];exact if_pos hs
   ·have ds:=decide_eq_false hs;simp only[XX,XY,zrV,yA,yB,nx,e1,e4,g1,g3,g4,ds];refine zcY.fin (edr.trans ?_) (hB4.bump _);unfold dropC;show(if IntKind.i64.wrap (((X.I.set q _).getD q pipe0).readers+((X.I.set q _).getD q pipe0).writers)=0 then _ else _)=_;rw[hfld];exact if_neg hs
  ·have dz:=decide_eq_false hz;have edr:zcu X x=dropC {X with F:=X.F.set x {X.x x with refs:=IntKind.i64.wrap ((X.x x).refs-1)},files:=IntKind.i64.wrap (X.files-1),I:=X.I.set q {X.i q with writers:=IntKind.i64.wrap ((X.i q).writers-1)}} q:=by subst hqE;unfold zcu;rw[if_neg h0,if_pos hwr,if_neg hz]
   have hfld:((X.I.set q {X.i q with writers:=IntKind.i64.wrap ((X.i q).writers-1)}).getD q pipe0)={X.i q with writers:=IntKind.i64.wrap ((X.i q).writers-1)}:=zah hq;have w3:(cf.write 8 [In (IntKind.i64.wrap (X.files-1))]).nth 9=some (In X.pipes):=(zaa (.inr (bA rfl))).trans f2.pipes;by_cases hs:IntKind.i64.wrap ((X.i q).readers+IntKind.i64.wrap ((X.i q).writers-1))=0
   ·have ds:=decide_eq_true hs;simp only[XX,XY,zrV,yA,yB,yC,h1,x2,y1,y2,y3,hwr,d0,k1,k2,k3,k6,n1,n2,n3,n4,n5,n6,f1,f2.files,w3,q1,q2.writers,w1,w2,dz,ds];have hA5:=hA3.s_pipes (cf:=cf.write 8 [In (IntKind.i64.wrap (X.files-1))]) (x:=IntKind.i64.wrap (X.pipes-1)) (by rw[gP,if_neg n6,gP,if_pos rfl]);refine zcY.fin (edr.trans ?_) (⟨L,hA5.bump _,Lx.refl,(hF3.trans (Fd.own hA3 hF3.fresh hA3.mf) λy hy=> .inl hy).bump _⟩);unfold dropC;show(if IntKind.i64.wrap (((X.I.set q _).getD q pipe0).readers+((X.I.set q _).getD q pipe0).writers)=0 then _ else _)=_;rw[hfld];exact if_pos hs
   ·have ds:=decide_eq_false hs;simp only[XX,XY,zrV,yA,yB,yC,h1,x2,y1,y2,y3,hwr,d0,k1,k2,k3,n1,n2,n3,n4,n5,f1,f2.files,q1,q2.writers,w1,w2,dz,ds];refine zcY.fin (edr.trans ?_) (⟨L,hA3.bump _,Lx.refl,hF3.bump _⟩);unfold dropC;show(if IntKind.i64.wrap (((X.I.set q _).getD q pipe0).readers+((X.I.set q _).getD q pipe0).writers)=0 then _ else _)=_;rw[hfld];exact if_neg hs
 ·
  have hP:=q2.w_readers (x:=IntKind.i64.wrap ((X.i q).readers-1));have hA3:=hA2.put_i (r:={X.i q with readers:=IntKind.i64.wrap ((X.i q).readers-1)}) hq hP rfl;have hF3:Fd L.D m (((m.put (L.x x) (.cells (cx.write 2 [In (IntKind.i64.wrap ((X.x x).refs-1))]) true 0)).put L.f (.cells (cf.write 8 [In (IntKind.i64.wrap (X.files-1))]) true 0)).put (L.i q) (.cells (ci.write 1 [In (IntKind.i64.wrap ((X.i q).readers-1))]) true 0)):=hF2.trans (Fd.own hA2 hF2.fresh (hA2.mi hq)) λy hy=> .inl hy;have w1:(ci.write 1 [In (IntKind.i64.wrap ((X.i q).readers-1))]).nth 1=some (In (IntKind.i64.wrap ((X.i q).readers-1))):=hP.readers;have w2:(ci.write 1 [In (IntKind.i64.wrap ((X.i q).readers-1))]).nth 2=some (In (X.i q).writers):=hP.writers;by_cases hz:IntKind.i64.wrap ((X.i q).readers-1)=0
  ·have dz:=decide_eq_true hz;simp only[XX,XY,zrV,yA,yB,yC,h1,x2,y1,y2,y3,hwr,d0,k1,k2,k4,n1,n2,n3,n4,n5,f1,f2.files,q1,q2.readers,w1,dz];refine cX (zjB (hA3.bump _) hF3.fresh.bump (hg3 _ _) hf (q:=q) (by simpa using hq)) λu M hB=>?_;have hB:=hB.of_bump;have nx:=hB.next;simp only[nP] at nx;obtain⟨P',S,eX,lP',lS⟩:=zgD (X:={X with F:=X.F.set x {X.x x with refs:=IntKind.i64.wrap ((X.x x).refs-1)},files:=IntKind.i64.wrap (X.files-1),I:=X.I.set q {X.i q with readers:=IntKind.i64.wrap ((X.i q).readers-1)}}) (w:=3) (q:=q) (l:=X.l);obtain⟨L1,a1,a2,a3⟩:=hB;have ex:L1.x x=L.x x:=a2.x (by rw[h.lF];exact hx);have ei:L1.i q=L.i q:=a2.i (by rw[h.lI];exact hq);have ef:L1.f=L.f:=a2.f;have eW:zcx {X with F:=X.F.set x {X.x x with refs:=IntKind.i64.wrap ((X.x x).refs-1)},files:=IntKind.i64.wrap (X.files-1),I:=X.I.set q {X.i q with readers:=IntKind.i64.wrap ((X.i q).readers-1)}} 3 q=_:=eX;rw[eW] at a1;obtain⟨cx',e1,e2⟩:=a1.xs x (by simpa using hx);have e3:=e2.p;have eg:((X.F.set x {X.x x with refs:=IntKind.i64.wrap ((X.x x).refs-1)}).getD x zaE)={X.x x with refs:=IntKind.i64.wrap ((X.x x).refs-1)}:=zah hx;have e4:cx'.nth 0=some (PT (L.i q)):=by rw[e3,<-ei];show some (PT (L1.i ((X.F.set x _).getD x zaE).p))=_;rw[eg,hqE]
   rw[ex] at e1;obtain⟨ci',g1,g2⟩:=a1.ip q (by simpa using hq);have g3:ci'.nth 1=some (In (IntKind.i64.wrap ((X.i q).readers-1))):=by rw[g2.readers];show some (In ((X.I.set q _).getD q pipe0).readers)=_;rw[zah hq]
   have g4:ci'.nth 2=some (In (X.i q).writers):=by rw[g2.writers];show some (In ((X.I.set q _).getD q pipe0).writers)=_;rw[zah hq]
   rw[ei] at g1;obtain⟨cf',b1,b2⟩:=a1.fl;have b3:=b2.pipes;have k5:9+1<=cf'.n:=by rw[b2.n];decide
   have hB4:Be m L _ M:=⟨L1,a1,a2.cast (by simp only[nP]),hF3.trans a3 λy hy=> .inl hy⟩;have edr:zcu X x=dropC {X with F:=X.F.set x {X.x x with refs:=IntKind.i64.wrap ((X.x x).refs-1)},files:=IntKind.i64.wrap (X.files-1),I:=X.I.set q {X.i q with readers:=IntKind.i64.wrap ((X.i q).readers-1)},P:=P',fut:=S} q:=by subst hqE;unfold zcu;rw[if_neg h0,if_neg (by rw[hwr];decide),if_pos hz,eW]
   have hfld:((X.I.set q {X.i q with readers:=IntKind.i64.wrap ((X.i q).readers-1)}).getD q pipe0)={X.i q with readers:=IntKind.i64.wrap ((X.i q).readers-1)}:=zah hq;rw[ef] at b1;by_cases hs:IntKind.i64.wrap (IntKind.i64.wrap ((X.i q).readers-1)+(X.i q).writers)=0
   ·have ds:=decide_eq_true hs;simp only[XX,XY,zrV,yA,yB,yC,nx,e1,e4,g1,g3,g4,b1,b3,k5,ds,lA];have hA5:=a1.s_pipes (cf:=cf') (x:=IntKind.i64.wrap (X.pipes-1)) (by rw[ef];exact b1);rw[ef] at hA5;refine zcY.fin (edr.trans ?_) (bE (a2.cast (by simp only[nP])) (hF3.trans a3 λy hy=> .inl hy) (⟨L1,hA5.bump _,Lx.refl,(by have:=Fd.own (o:= .cells (cf'.write 9 [In (IntKind.i64.wrap (X.pipes-1))]) true 0) a1 a3.fresh a1.mf;rw[ef] at this;exact this.bump _)⟩));unfold dropC;show(if IntKind.i64.wrap (((X.I.set q _).getD q pipe0).readers+((X.I.set q _).getD q pipe0).writers)=0 then _ else _)=_;rw[hfld];exact if_pos hs
   ·have ds:=decide_eq_false hs;simp only[XX,XY,zrV,yA,yB,nx,e1,e4,g1,g3,g4,ds];refine zcY.fin (edr.trans ?_) (hB4.bump _);unfold dropC;show(if IntKind.i64.wrap (((X.I.set q _).getD q pipe0).readers+((X.I.set q _).getD q pipe0).writers)=0 then _ else _)=_;rw[hfld];exact if_neg hs
  ·have dz:=decide_eq_false hz;have edr:zcu X x=dropC {X with F:=X.F.set x {X.x x with refs:=IntKind.i64.wrap ((X.x x).refs-1)},files:=IntKind.i64.wrap (X.files-1),I:=X.I.set q {X.i q with readers:=IntKind.i64.wrap ((X.i q).readers-1)}} q:=by subst hqE;unfold zcu;rw[if_neg h0,if_neg (by rw[hwr];decide),if_neg hz]
   have hfld:((X.I.set q {X.i q with readers:=IntKind.i64.wrap ((X.i q).readers-1)}).getD q pipe0)={X.i q with readers:=IntKind.i64.wrap ((X.i q).readers-1)}:=zah hq;have w3:(cf.write 8 [In (IntKind.i64.wrap (X.files-1))]).nth 9=some (In X.pipes):=(zaa (.inr (bA rfl))).trans f2.pipes;by_cases hs:IntKind.i64.wrap (IntKind.i64.wrap ((X.i q).readers-1)+(X.i q).writers)=0
   ·have ds:=decide_eq_true hs;simp only[XX,XY,zrV,yA,yB,yC,h1,x2,y1,y2,y3,hwr,d0,k1,k2,k4,k6,n1,n2,n3,n4,n5,n6,f1,f2.files,w3,q1,q2.readers,w1,w2,dz,ds];have hA5:=hA3.s_pipes (cf:=cf.write 8 [In (IntKind.i64.wrap (X.files-1))]) (x:=IntKind.i64.wrap (X.pipes-1)) (by rw[gP,if_neg n6,gP,if_pos rfl]);refine zcY.fin (edr.trans ?_) (⟨L,hA5.bump _,Lx.refl,(hF3.trans (Fd.own hA3 hF3.fresh hA3.mf) λy hy=> .inl hy).bump _⟩);unfold dropC;show(if IntKind.i64.wrap (((X.I.set q _).getD q pipe0).readers+((X.I.set q _).getD q pipe0).writers)=0 then _ else _)=_;rw[hfld];exact if_pos hs
   ·have ds:=decide_eq_false hs;simp only[XX,XY,zrV,yA,yB,yC,h1,x2,y1,y2,y3,hwr,d0,k1,k2,k4,n1,n2,n3,n4,n5,f1,f2.files,q1,q2.readers,w1,w2,dz,ds];refine zcY.fin (edr.trans ?_) (⟨L,hA3.bump _,Lx.refl,hF3.bump _⟩);unfold dropC;show(if IntKind.i64.wrap (((X.I.set q _).getD q pipe0).readers+((X.I.set q _).getD q pipe0).writers)=0 then _ else _)=_;rw[hfld];exact if_neg hs
end
structure Sh(k:Nat)(X Y:St):Prop where
 P:X.P.length<=Y.P.length
 F:X.F.length<=Y.F.length
 I:X.I.length<=Y.I.length
 G:X.G.length<=Y.G.length
 C:X.C.length<=Y.C.length
 fut:Y.fut.length<=X.fut.length+k
 sn:Y.seen.length<=X.seen.length+k
 gx:GX Y
section
variable{X Y Z:St}{i j k:Nat}
theorem Sh.refl(h:GX X):Sh 0 X X:=⟨lR' _,lR' _,lR' _,lR' _,lR' _,lR' _,lR' _,h⟩
theorem Sh.trans(h:Sh j X Y)(g:Sh k Y Z):Sh (j+k) X Z:=⟨lT h.P g.P,lT h.F g.F,lT h.I g.I,lT h.G g.G,lT h.C g.C,by have:=h.fut;have:=g.fut;omega,by have:=h.sn;have:=g.sn;omega,g.gx⟩
theorem Sh.up(h:Sh j X Y)(e:j<=k):Sh k X Y:=⟨h.P,h.F,h.I,h.G,h.C,by have:=h.fut;omega,by have:=h.sn;omega,h.gx⟩
theorem Sh.see(h:GX X){a b:Int}{v:BitVec 32}:Sh 1 X (zfR X i a b v):=⟨lR' _,lR' _,lR' _,lR' _,lR' _,Nat.le_add_right _ _,by simp[zfR],h.see⟩
theorem Sh.set_p(h:GX X){r:zb9}(hr:PX X r):Sh 0 X {X with P:=X.P.set i r}:=⟨by simp,lR' _,lR' _,lR' _,lR' _,lR' _,lR' _,h.set_p hr⟩
theorem Sh.answer(h:GX X)(hi:i<X.P.length){v:BitVec 32}:Sh 1 X (zar X i v):=⟨by simp[zar,zfR],lR' _,lR' _,lR' _,lR' _,Nat.le_add_right _ _,by simp[zar,zfR],h.answer hi⟩
theorem Sh.code(h:GX X)(hi:i<X.P.length){c:Int}:Sh 1 X (zaZ X i c):=Sh.answer h hi
theorem Sh.ready(h:GX X)(hi:i<X.P.length):Sh 0 X (zaI X i):=⟨by simp[zaI],lR' _,lR' _,lR' _,lR' _,List.length_filter_le _ _,lR' _,h.ready hi⟩
theorem Sh.unmaps{l:List Nat}(h:GX X)(hi:i<X.P.length):Sh 0 X (zaY X i l):=by obtain⟨a1,a2,a3,a4,a5,a6,a7,a8,a9⟩:=zcV (X:=X) (i:=i) (l:=l);exact⟨by omega,by rw[a5];exact lR' _,by rw[a4];exact lR' _,by rw[a2];exact lR' _,by omega,by rw[a7];exact lR' _,by rw[a8];exact lR' _,h.unmaps hi⟩
theorem Sh.wake{w:Int}{q:Nat}{l:List Nat}(h:GX X)(hl:∀j∈l,j<X.P.length):Sh 0 X (wakeI X w q l):=by have hg:=h.wakeI (w:=w) (q:=q) hl;obtain⟨P',S,e,a1,a2⟩:=zgD (X:=X) (w:=w) (q:=q) (l:=l);rw[e] at hg⊢;exact⟨by show _<=P'.length;omega,lR' _,lR' _,lR' _,lR' _,a2,lR' _,hg⟩
theorem Sh.child{pid:Int}(h:GX X)(hl:∀j∈X.l,j<X.P.length):Sh 0 X (zbs X pid):=by
 unfold zbs;cases e:zbO X pid with
 |none=>exact Sh.refl h
 |some i=>
  simp only;split
  ·refine Sh.ready h (hl i ?_);unfold zbO at e;split at e
   ·rename_i j hj;split at e
    ·cases e;exact List.mem_of_find?_eq_some hj
    ·cases e
   ·cases e
  ·exact Sh.refl h
theorem zgz{pid:Int}(e:zbO X pid=some i):i∈X.l:=by
 unfold zbO at e;split at e
 ·rename_i j hj;split at e
  ·cases e;exact List.mem_of_find?_eq_some hj
  ·cases e
 ·cases e
theorem Sh.post{pid g:Int}(h:GX X)(hl:∀j∈X.l,j<X.P.length):Sh 1 X (zeO X pid g):=by
 unfold zeO;cases e:zbO X pid with
 |none=>exact(Sh.refl h).up (by omega)
 |some i=>
  have hi:=hl i (zgz e);have h1:=Sh.set_p (i:=i) h (r:={X.p i with sig:=(zcl (X.p i).sig g).1}) ((h.px hi).w rfl rfl (.inl rfl) (.inl rfl));simp only;split
  ·have h2:=Sh.code (i:=i) (c:=4) h1.gx (by simpa using hi);have h3:=Sh.ready (i:=i) h2.gx (by simpa [zaZ,zar,zfR] using hi);exact((h1.trans h2).trans h3).up (by omega)
  ·exact h1.up (by omega)
theorem GX.set_halted(h:GX X){b:Bool}:GX {X with halted:=b}:=⟨h.lp,h.pr,h.fr,h.cp,h.co,h.nx,h.pg,h.fd,h.pp,h.fc,h.fp,h.gc,h.cb,h.xp,h.ib⟩
theorem Sh.dropC{q:Nat}(h:GX X):Sh 0 X (dropC X q):=by
 unfold Go.Ab.dropC;split
 ·exact⟨lR' _,lR' _,lR' _,lR' _,lR' _,lR' _,lR' _,h.set_pipes⟩
 ·exact Sh.refl h
theorem Sh.drop{x:Nat}(h:GX X)(hx:x<X.F.length)(hl:∀j∈X.l,j<X.P.length):Sh 0 X (zcu X x):=by
 have hp:=h.xp x hx;have hib:=h.ib _ hp;have g1:=h.set_x (x:=x) (r:={X.x x with refs:=IntKind.i64.wrap ((X.x x).refs-1)}) hp;have g2:=g1.set_files (n:=IntKind.i64.wrap (X.files-1));have g3:∀r w:Int,Sh 0 X {X with F:=X.F.set x {X.x x with refs:=IntKind.i64.wrap ((X.x x).refs-1)},files:=IntKind.i64.wrap (X.files-1),I:=X.I.set (X.x x).p {X.i (X.x x).p with readers:=r,writers:=w}}:=λr w=>
  ⟨lR' _,by simp,by simp,lR' _,lR' _,lR' _,lR' _,g2.set_i (q:=(X.x x).p) (r:={X.i (X.x x).p with readers:=r,writers:=w}) hib⟩
 unfold zcu;split
 ·exact⟨lR' _,by simp,lR' _,lR' _,lR' _,lR' _,lR' _,g1⟩
 ·split
  ·have h3:=g3 (X.i (X.x x).p).readers (IntKind.i64.wrap ((X.i (X.x x).p).writers-1));split
   ·have h4:=Sh.wake (w:=2) (q:=(X.x x).p) (l:=X.l) h3.gx hl;exact(h3.trans h4).trans (Sh.dropC h4.gx)
   ·exact h3.trans (Sh.dropC h3.gx)
  ·have h3:=g3 (IntKind.i64.wrap ((X.i (X.x x).p).readers-1)) (X.i (X.x x).p).writers;split
   ·have h4:=Sh.wake (w:=3) (q:=(X.x x).p) (l:=X.l) h3.gx hl;exact(h3.trans h4).trans (Sh.dropC h4.gx)
   ·exact h3.trans (Sh.dropC h3.gx)
end
section
variable{m m' M mr:Mem}{n:Nat}{L L' L1 L2:Loc}{X X' X1 X2:St}{v:Value}{fl:List Value}{pid:Int}
theorem FAt.addDs(h:FAt m L X){Q:Nat->Prop}(hQ:∀y,Q y->y<m.next∧64<=y):FAt m {L with D:=λy=>L.D y∨Q y} X:=
 ⟨by obtain⟨c,a1,a2⟩:=h.fl;exact⟨c,a1,⟨a2.n,a2.cores,a2.frames,a2.procs,a2.cap,a2.prog,a2.lv,a2.fv,a2.contents,a2.files,a2.pipes,a2.next,a2.halted,a2.sv⟩⟩,
  λk hk=>by obtain⟨c1,a1,a2⟩:=h.pr k hk;exact⟨c1,a1,a2.move rfl (λ_ _=>rfl) (λ_ _ _=>rfl) (λ_ _ _=>rfl) (λ_ _=>rfl) λ_ _=>rfl⟩,
  λk hk=>by obtain⟨c1,a1,a2⟩:=h.pg k hk;exact⟨c1,a1,a2.move rfl⟩,
  λk hk=>by obtain⟨c1,a1,a2⟩:=h.ct k hk;exact⟨c1,a1,a2.move⟩,
  λk hk=>by obtain⟨c1,a1,a2⟩:=h.ip k hk;exact⟨c1,a1,a2⟩,
  λk hk=>by obtain⟨c1,a1,a2⟩:=h.xs k hk;exact⟨c1,a1,a2.move rfl⟩,
  h.lP,h.lG,h.lC,h.lI,h.lF,h.lb,h.nd,λy hy=> .inl (h.dm y hy),h.ls,h.fs,h.ss,h.bs,λy hy=> .inl (h.dl y hy),λy hy=> .inl (h.df y hy),λy hy=> .inl (h.ds y hy),λk y hk hy=> .inl (h.db k y hk hy),h.sep,
  λy hy=>hy.elim (h.lt y) λe=>(hQ y e).1,λy hy=>hy.elim (h.d64 y) λe=>(hQ y e).2,h.pi,h.pf⟩
theorem FAt.addD(h:FAt m L X){b:Nat}(hb:b<m.next)(h64:64<=b):FAt m {L with D:=λy=>L.D y∨y=b} X:=h.addDs λy hy=>by omega
theorem Be.ofDs{L2:Loc}{Q:Nat->Prop}(h:Be M {L2 with D:=λy=>L2.D y∨Q y} X m')(hx:Lx m.next L L2)(hf:Fd L.D m M)(hQ:∀y,Q y->L.D y∨m.next<=y):Be m L X m':=by
 obtain⟨L7,a1,a2,a3⟩:=h;have hn:=hf.next;refine⟨L7,a1,⟨a2.f.trans hx.f,?_,?_,?_,?_,?_,λy hy=>?_⟩,hf.trans a3 λy hy=>?_⟩
 ·obtain⟨l1,e1⟩:=hx.P;obtain⟨l2,e2⟩:=a2.P;exact⟨l1++l2,by rw[e2];show L2.P++l2=_;rw[e1,aA]⟩
 ·obtain⟨l1,e1⟩:=hx.G;obtain⟨l2,e2⟩:=a2.G;exact⟨l1++l2,by rw[e2];show L2.G++l2=_;rw[e1,aA]⟩
 ·obtain⟨l1,e1⟩:=hx.C;obtain⟨l2,e2⟩:=a2.C;exact⟨l1++l2,by rw[e2];show L2.C++l2=_;rw[e1,aA]⟩
 ·obtain⟨l1,e1⟩:=hx.I;obtain⟨l2,e2⟩:=a2.I;exact⟨l1++l2,by rw[e2];show L2.I++l2=_;rw[e1,aA]⟩
 ·obtain⟨l1,e1⟩:=hx.F;obtain⟨l2,e2⟩:=a2.F;exact⟨l1++l2,by rw[e2];show L2.F++l2=_;rw[e1,aA]⟩
 ·rcases a2.D y hy with(h1|h1)|h1
  ·exact hx.D y h1
  ·exact hQ y h1
  ·exact .inr (by omega)
 ·rcases hy with h1|h1
  ·exact hx.D y h1
  ·exact hQ y h1
theorem zo7{r:zct}{x1 x2 g z1 z2:Nat}{cap:List Value}(hM:zad M)(hA:FAt M L X)(hg:GX X)(hx1:M.get x1=some (.cells (ofL [PT L.f]) true z1))(hx2:M.get x2=some (.cells (ofL [.func (.func g) #[] cap.toArray]) true z2))(hx:¬L.D x2)(hcg:zab EE.P g=true)
  (hrr:r.state= .ready∧r.pend=none) (F:Nat->St) (hF0:F 0=X) (G:Nat->Mem->Prop) (hG0:∀M1,(∀y,y<M.next->M1.get y=M.get y)->G 0 M1) (hGb:∀i M j,G i M->G i (M.bump j))
  (hstep:∀k M' L2,k<X.l.length->zad M'->FAt M' L2 (F k)->Lx M.next L L2->¬L2.D M.next->M.next<M'.next->M'.get M.next=some (.loop r)->(∀y,y<M.next->¬L.D y->M'.get y=M.get y)->G k M'->
   ∃b,(∀j,Con EE.P g (PT (L.p (X.l.getD k 0))::cap) (M'.bump j) (.bool b) (M'.bump j))∧(b=false->F (k+1)=F k∧G (k+1) M')∧(b=true->∀j,∃u m',zgt EE.P M.next [PT (L.p (X.l.getD k 0))] (M'.bump j) u m'∧u= .bool true∧M'.next+j<=m'.next∧Be M' {L2 with D:=λy=>L2.D y∨L.D y} (F (k+1)) m'∧G (k+1) m')):
  ∃u m2,Con EE.P 101 ([]++ [.func (.yield M.next) #[] #[]]++ [PT x1,PT x2]) ((M.put M.next (.loop r)).bump 1) u m2∧(∃r:zct,m2.get M.next=some (.loop r)∧r.state= .ready∧r.pend=none)∧(∀o,Be M L (F X.l.length) (m2.put M.next o))∧G X.l.length m2∧M.next<m2.next:=by
 have hmr:zad ((M.put M.next (.loop r)).bump 1):=zad.of_low (by have:=hM.n64;simp only[bN,nP];omega) (Low.bump (Low.put (Low.of hM nO) nO));have hAr:FAt ((M.put M.next (.loop r)).bump 1) L X:=(hA.new' (j:=0)).bump 1;have l1:=hM.lt hx1;have l2:=hM.lt hx2;have hlD:¬L.D M.next:=λe=>by have:=hA.lt _ e;omega
 have hlp:((M.put M.next (.loop r)).bump 1).get M.next=some (.loop r):=gA;obtain⟨u,m2,h1,M1,hn1,hI,hGe⟩:=zjy (z1:=z1) (z2:=z2) (lp:=M.next) (x1:=x1) (x2:=x2) (g:=g) (cap:=cap) hmr hAr hg (by rw[gB,gP,if_neg (by omega)];exact hx1) (by rw[gB,gP,if_neg (by omega)];exact hx2) hcg L.D
  (λy hy=>⟨by have:=hA.lt _ hy;simp only[bN,nP];omega,λe=>hx (e▸hy)⟩)
  (λM1 i M2=>Be M1 L (F i) M2∧G i M2) (λM1 hn=>⟨⟨L,by rw[hF0];exact hAr.nx hn,Lx.refl,Fd.refl hn.fresh⟩,hG0 _ λy hy=>by rw[hn.old y nO];(simp only[gB,gP];repeat(first|rw[if_neg (by omega)]|rw[if_pos trivial]|rw[if_pos (by omega)]))⟩) (λM1 i M2 j hI=>⟨hI.1.bump j,hGb _ _ _ hI.2⟩) (λM1 i M2 hn hI=>by
   obtain⟨⟨L2,a1,a2,a3⟩,_⟩:=hI;exact⟨a3.next,λy hy hy2=>a3.old y hy hy2,λy hy e=>a3.low y hy e⟩) (λM1 i M2 j hn hi hI=>by
   obtain⟨⟨L2,a1,a2,a3⟩,hGi⟩:=hI;have n1:=hn.next;simp only[bN,nP] at n1;have hx2:Lx M.next L L2:=⟨a2.f,a2.P,a2.G,a2.C,a2.I,a2.F,λy hy=>(a2.D y hy).imp id λe=>by omega⟩;have hD2:¬L2.D M.next:=λe=>(a2.D _ e).elim hlD λe=>by omega
   have n2:=a3.next;obtain⟨b,b1,b2,b3⟩:=hstep i M2 L2 hi a3.fresh a1 hx2 hD2 (by omega) (by rw[a3.old _ (by omega) hlD,hn.old _ nO];exact hlp) (λy hy hy2=>by rw[a3.old y (by omega) hy2,hn.old y nO];(simp only[gB,gP];repeat(first|rw[if_neg (by omega)]|rw[if_pos trivial]|rw[if_pos (by omega)]))) hGi;exact⟨b,b1 _,λe=>by rw[(b2 e).1];exact⟨⟨L2,a1,a2,a3⟩,(b2 e).2⟩,λe j2=>by obtain⟨u,m',c1,c2,c3,c4,c5⟩:=b3 e j2;exact⟨u,m',c1,c2,c3,Be.ofDs c4 a2 a3 λy hy=> .inl hy,c5⟩⟩)
 have hB:Be ((M.put M.next (.loop r)).bump 1) L (F X.l.length) m2:=bE Lx.refl (Fd.of_nx hn1) hI;obtain⟨k1,k2⟩:=hB.of_loop hA;have n3:=hB.next;simp only[bN,nP] at n3;exact⟨u,m2,h1,⟨r,k1,hrr.1,hrr.2⟩,k2,hGe,by omega⟩
end
section
variable{m m' M mr:Mem}{n:Nat}{L L' L1 L2:Loc}{X X' X1 X2 Y:St}{v:Value}{fl:List Value}{pid:Int}
theorem Be.tb(hB:Be m L X m')(hA:FAt m L X1)(hm:zad m)(ht:Tb m):Tb m':=by obtain⟨L1,a1,a2,a3⟩:=hB;exact ht.fd a3 hm hA.d64
def zo4(X:St)(i:Nat)(s:BitVec 32):St:={X with P:=X.P.set i {X.p i with state:=2,status:=s}}
def exitA(X:St)(i:Nat)(s:BitVec 32):St:=zei (zo4 (zaI (zfR X i 4 0 s) i) i s) i
def zeT(X:St)(i k:Nat):Option Nat->St
 |none=>{X with P:=X.P.set i {X.p i with fds:=(X.p i).fds.set k none}}
 |some x=>zcu {X with P:=X.P.set i {X.p i with fds:=(X.p i).fds.set k none}} x
def zaO(X:St)(i:Nat)(F:List (Option Nat))(l:List Nat):St:=l.foldl (λY k=>zeT Y i k (F.getD k none)) X
theorem zgp{i k:Nat}{F:List (Option Nat)}{l:List Nat}:zaO X i F (l++ [k])=zeT (zaO X i F l) i k (F.getD k none):=by unfold zaO;rw[List.foldl_append];rfl
def orphS(i:Nat)(Y:St×Bool)(j:Nat):St×Bool:=if(Y.1.p j).parent=(Y.1.p i).pid then({Y.1 with P:=Y.1.P.set j {Y.1.p j with parent:=1}},Y.2||decide ((Y.1.p j).state=2)) else Y
def orphI(i:Nat)(l:List Nat)(Y:St×Bool):St×Bool:=l.foldl (orphS i) Y
def exitD(Z:St×Bool)(i:Nat):St:=zbs (if Z.2 then zbs Z.1 1 else Z.1) ((if Z.2 then zbs Z.1 1 else Z.1).p i).parent
def exitB(Y:St)(i:Nat):St:=if(Y.p i).pid=1 then{Y with halted:=true} else zeO (exitD (orphI i Y.l (Y,false)) i) ((exitD (orphI i Y.l (Y,false)) i).p i).parent 12
def zCn(X:St)(i:Nat)(s:BitVec 32):St:=zaO (exitA X i s) i ((exitA X i s).p i).fds (List.range 8)
def zjR(X:St)(i:Nat)(s:BitVec 32):St:=exitB (zCn X i s) i
theorem zzn{i:Nat}{s:BitVec 32}:(exitA X i s).F=X.F:=by unfold exitA zei;exact(zcV (X:=zo4 (zaI (zfR X i 4 0 s) i) i s) (i:=i) (l:=List.range 64)).2.2.2.2.1
theorem Sh.dead{i:Nat}{s:BitVec 32}(h:GX X)(hi:i<X.P.length):Sh 0 X (zo4 X i s):=Sh.set_p h (r:={X.p i with state:=2,status:=s}) ((h.px hi).w rfl rfl (.inl rfl) (.inl rfl))
theorem Sh.exitA{i:Nat}{s:BitVec 32}(h:GX X)(hi:i<X.P.length):Sh 1 X (exitA X i s):=by have h1:=Sh.see (i:=i) (a:=4) (b:=0) (v:=s) h;have h2:=Sh.ready (i:=i) h1.gx hi;have h3:=Sh.dead (i:=i) (s:=s) h2.gx (lL hi h2.P);have h4:=Sh.unmaps (i:=i) (l:=List.range 64) h3.gx (lL (lL hi h2.P) h3.P);exact((h1.trans h2).trans h3).trans h4
def Lk(X:St):Prop:=∀j∈X.l,j<X.P.length
theorem FAt.lkk(h:FAt m L X):Lk X:=h.pi
theorem zqF{x:Nat}:(zcu X x).l=X.l∧(zcu X x).P.length=X.P.length:=by
 have hc:∀{Y:St} {q:Nat},(dropC Y q).l=Y.l∧(dropC Y q).P=Y.P:=λ{Y q}=>by unfold dropC;split<;>exact⟨rfl,rfl⟩
 have hw:∀{Y:St} {w:Int} {q:Nat},(zcx Y w q).l=Y.l∧(zcx Y w q).P.length=Y.P.length:=λ{Y w q}=>by obtain⟨P',S,e,a1,a2⟩:=zgD (X:=Y) (w:=w) (q:=q) (l:=Y.l);unfold zcx;rw[e];exact⟨rfl,a1⟩
 unfold zcu;split
 ·exact⟨rfl,rfl⟩
 ·split
  ·refine⟨hc.1.trans ?_,?_⟩
   ·split
    ·exact hw.1
    ·rfl
   ·rw[hc.2];split
    ·exact hw.2
    ·rfl
  ·refine⟨hc.1.trans ?_,?_⟩
   ·split
    ·exact hw.1
    ·rfl
   ·rw[hc.2];split
    ·exact hw.2
    ·rfl
theorem zvj{i k:Nat}{x:Option Nat}:(zeT X i k x).l=X.l∧(zeT X i k x).P.length=X.P.length:=by
 cases x with
 |none=>exact⟨rfl,by simp[zeT]⟩
 |some x=>exact⟨zqF.1,zqF.2.trans (by simp)⟩
theorem Sh.close{i k:Nat}{x:Option Nat}(h:GX X)(hi:i<X.P.length)(hl:Lk X)(hx:∀y,x=some y->y<X.F.length):Sh 0 X (zeT X i k x):=by
 have h1:=Sh.set_p (i:=i) h (r:={X.p i with fds:=(X.p i).fds.set k none}) ((h.px hi).s_fds λg hg=>by cases hg);cases x with
 |none=>exact h1
 |some y=>exact h1.trans (Sh.drop h1.gx (hx y rfl) λj hj=>by simpa using hl j hj)
theorem Sh.closes{i:Nat}{F:List (Option Nat)}(hF:∀k y,F.getD k none=some y->y<X.F.length)(h:GX X)(hi:i<X.P.length)(hl:Lk X):∀{l:List Nat},Sh 0 X (zaO X i F l)∧(zaO X i F l).l=X.l∧(zaO X i F l).P.length=X.P.length:=by
 intro l;rw[<-List.reverse_reverse l]
 induction l.reverse with
 |nil=>exact⟨Sh.refl h,rfl,rfl⟩
 |cons k r ih=>rw[List.reverse_cons,zgp];obtain⟨i1,i2,i3⟩:=ih;obtain⟨c1,c2⟩:=zvj (X:=zaO X i F r.reverse) (i:=i) (k:=k) (x:=F.getD k none);refine⟨i1.trans (Sh.close i1.gx (by omega) (λj hj=>by rw[i2] at hj;rw[i3];exact hl j hj) λy hy=>lL (hF k y hy) i1.F),c1.trans i2,c2.trans i3⟩
theorem znM{i j:Nat}{Z:St×Bool}:∃P',(orphS i Z j).1={Z.1 with P:=P'}∧P'.length=Z.1.P.length:=by
 unfold orphS;split
 ·exact⟨_,rfl,by simp⟩
 ·exact⟨Z.1.P,rfl,rfl⟩
theorem zfC{i:Nat}{l:List Nat}:∀{Z:St×Bool},∃P',(orphI i l Z).1={Z.1 with P:=P'}∧P'.length=Z.1.P.length:=by
 induction l with
 |nil=>intro Z;exact⟨Z.1.P,rfl,rfl⟩
 |cons j l ih=>
  intro Z;obtain⟨P1,a1,a2⟩:=znM (i:=i) (j:=j) (Z:=Z);obtain⟨P2,b1,b2⟩:=ih (Z:=orphS i Z j);refine⟨P2,?_,?_⟩
  ·show(orphI i l (orphS i Z j)).1=_;rw[b1,a1]
  ·rw[b2,a1];exact a2
theorem GX.orphI{i:Nat}{l:List Nat}:∀{Z:St×Bool},GX Z.1->(∀j∈l,j<Z.1.P.length)->GX (orphI i l Z).1:=by
 induction l with
 |nil=>intro Z h _;exact h
 |cons j l ih=>
  intro Z h hl;show GX (Go.Ab.orphI i l (orphS i Z j)).1;have hj:=hl j List.mem_cons_self;obtain⟨P1,a1,a2⟩:=znM (i:=i) (j:=j) (Z:=Z);refine ih ?_ λk hk=>?_
  ·unfold orphS;split
   ·exact h.set_p (r:={Z.1.p j with parent:=1}) ((h.px hj).w rfl rfl (.inl rfl) (.inl rfl))
   ·exact h
  ·rw[a1];show k<P1.length;rw[a2];exact hl k (List.mem_cons_of_mem _ hk)
theorem zio{i k:Nat}{Z:St×Bool}(hk:k<X.l.length):orphI i (X.l.take (k+1)) Z=orphS i (orphI i (X.l.take k) Z) (X.l.getD k 0):=by unfold orphI;rw[zkc hk,List.foldl_append];rfl
theorem zDp(h:FAt m L X){i j b z:Nat}(hi:i<X.P.length)(hj:j<X.P.length)(hb:m.get b=some (.cells (ofL [PT (L.p i)]) true z)):Con EE.P 123 [PT (L.p j),PT b] m (.bool (decide ((X.p j).parent=(X.p i).pid))) m:=by refine Con.of zai zFK (bA rfl) Grow.rfl λhm=>?_;obtain⟨c1,h1,h2⟩:=h.pr i hi;obtain⟨c2,h3,h4⟩:=h.pr j hj;simp only[XX,XY,zJq,yA,yB,yC,h1,h3,hb,h2.pid,h4.parent];exact tP rfl λ_ _=>rfl
theorem FAt.put1(h:FAt m L X){b:Nat}{c:Cells}{o:zaS}(hb:m.get b=some (.cells c true 0))(hc:c.n=1):FAt (m.put b o) L X:=by
 have key:∀{y:Nat} {cs:Cells},m.get y=some (.cells cs true 0)->cs.n≠1->y≠b:=λ{y cs} h1 h2 e=>by rw[e,hb] at h1;cases h1;exact h2 hc
 refine⟨?_,?_,?_,?_,?_,?_,h.lP,h.lG,h.lC,h.lI,h.lF,h.lb,h.nd,h.dm,h.ls.put0 (by decide) hb,h.fs.put0 (by decide) hb,h.ss.put0 (by decide) hb,λk hk=>(h.bs k hk).put0 (by decide) hb,h.dl,h.df,h.ds,h.db,h.sep,h.lt,h.d64,h.pi,h.pf⟩
 ·obtain⟨c1,h1,h2⟩:=h.fl;exact⟨c1,by rw[gP,if_neg (key h1 (by rw[h2.n];decide))];exact h1,h2⟩
 ·intro k hk;obtain⟨c1,h1,h2⟩:=h.pr k hk;exact⟨c1,by rw[gP,if_neg (key h1 (by rw[h2.n];decide))];exact h1,h2⟩
 ·intro k hk;obtain⟨c1,h1,h2⟩:=h.pg k hk;exact⟨c1,by rw[gP,if_neg (key h1 (by rw[h2.n];decide))];exact h1,h2⟩
 ·intro k hk;obtain⟨c1,h1,h2⟩:=h.ct k hk;exact⟨c1,by rw[gP,if_neg (key h1 (by rw[h2.n];decide))];exact h1,h2⟩
 ·intro k hk;obtain⟨c1,h1,h2⟩:=h.ip k hk;exact⟨c1,by rw[gP,if_neg (key h1 (by rw[h2.n];decide))];exact h1,h2⟩
 ·intro k hk;obtain⟨c1,h1,h2⟩:=h.xs k hk;exact⟨c1,by rw[gP,if_neg (key h1 (by rw[h2.n];decide))];exact h1,h2⟩
theorem zoN{lp j k b:Nat}{tl:List (Nat×Value)}{lf:Bool}{c:Cells}(t7:lk tl 7=PT b)(hF:zad M)(hA:FAt M L X)(hl:M.get lp=some (.loop {state:= .ready,pend:=none,tmps:=T 84 tl,ps:=[57],assign:=(kO Tryz.f79.body 31),body:=(kO Tryz.f79.body 32)}))(hD:¬L.D lp)(hDb:L.D b)(hb:M.get b=some (.cells c true 0))(hc:c.n=1)(hc0:c.nth 0=some (.bool lf))(hj:j<X.P.length):
  ∃u m',zgt EE.P lp [PT (L.p j)] (M.bump k) u m'∧u= .bool true∧M.next+k<=m'.next∧Be M L {X with P:=X.P.set j {X.p j with parent:=1}} m'∧∃c,m'.get b=some (.cells c true 0)∧c.n=1∧c.nth 0=some (.bool (lf||decide ((X.p j).state=2))):=by
 have hlt:=hF.lt hl;have hbt:=hF.lt hb;obtain⟨cs,h1,h2⟩:=hA.pr j hj;have hpl:=hA.ids_lt (hA.mp hj);have hbp:¬b=L.p j:=λe=>by rw[e,h1] at hb;cases hb;have:=h2.n;omega
 have hbp':¬L.p j=b:=λe=>hbp e.symm;have hlp1:¬lp=L.p j:=λe=>hD (e▸hA.dm _ (hA.mp hj));have hlp2:¬L.p j=lp:=λe=>hlp1 e.symm;have hlb:¬lp=b:=λe=>hD (e▸hDb);have hlb':¬b=lp:=λe=>hlb e.symm;have k1:2+1<=cs.n:=by rw[h2.n];decide
 have k2:0+1<=c.n:=by omega
 have hp:=h2.w_parent (x:=1);have hst:(cs.write 2 [In 1]).nth 3=some (In (X.p j).state):=hp.state;have hkey:∀(o1 o:zaS) (o2:zaS) J,M.get lp=some o->Be (M.bump J) L {X with P:=X.P.set j {X.p j with parent:=1}} ((((((M.bump J).put lp o1).put (L.p j) (.cells (cs.write 2 [In 1]) true 0)).put b o2).put lp o)):=λo1 o o2 J hlo=>by
  have hAb:FAt ((M.bump J).put lp o1) L X:=(hA.bump J).new hD;have hFb:zad ((M.bump J).put lp o1):=hF.bump.put nO;have hA1:=hAb.put_p hj hp;have hb1:((((M.bump J).put lp o1).put (L.p j) (.cells (cs.write 2 [In 1]) true 0))).get b=some (.cells c true 0):=by rw[gP,if_neg hbp,gP,if_neg hlb',gB];exact hb
  refine Be.loop (M:=M.bump J) (o1:=o1) (by rw[gB];exact hlo) nO hD ⟨L,hA1.put1 hb1 hc,Lx.refl,?_⟩;exact(Fd.own hAb hFb (hAb.mp hj)).put (.inl hDb) hAb.lt (.inl (by rw[hb1];simp))
 simp only[zbp] at hkey;refine zgt.of zai (by rw[gB];exact hl) rfl rfl ?_;cases hlf:lf<;>cases hd:decide ((X.p j).state=2)
 all_goals
  rw[hlf] at hc0;simp only[XX,XY,F79,yA,yB,yC,yG,hl,t7,h1,hb,hbp,hlp1,hlp2,hlb,hlb',k1,k2,hst,hc0,hd,Bool.or_true,Bool.or_false];exact⟨Be.grow_b (hkey _ _ _ _ hl) (by omega),Be.of_bump (hkey _ _ _ _ hl),_,rfl,by rw[zap];exact hc,zbu (by omega)⟩
end
section
variable{m m' M mr:Mem}{n:Nat}{L L' L1 L2:Loc}{X X' X1 X2 Y:St}{v:Value}{fl:List Value}{pid:Int}
theorem zJl:pV none= .pointer none:=rfl
theorem zJs{b:Nat}:pV (some b)=PT b:=rfl
theorem zsj{i:Nat}{F:List (Option Nat)}:zaO X i F (List.range 0)=X:=rfl
theorem zjO(h:FAt m L X)(hm:zad m)(ht:Tb m)(hg:GX X){i:Nat}(hi:i<X.P.length)(hs:X.seen.length<99990)(hf:X.fut.length<99990){s:BitVec 32}:∃u m',Con EE.P 79 [PT (L.p i),Um s] m u m'∧Be m L (zjR X i s) m':=by
 refine Con.raw zai zJd (bA rfl) _ ?_;obtain⟨cs,h1,h2⟩:=h.pr i hi;have hlt:=h.ids_lt (h.mp hi);have ne0:¬L.p i=m.next:=by omega
 have hDb:¬L.D m.next:=λe=>by have:=h.lt _ e;omega
 simp only[XX,XY,F79,yA,yB,yC,h1,h2.f,ne0];refine CallI.gen (λM=>FAt M L X∧Nx m M∧M.get m.next=some (.cells (ofL [PT (L.p i)]) true 0)∧m.next<M.next) ⟨(h.new' (j:=0)).bump _,⟨by(try simp only[bN,nP]);omega,zad.of_low (by have:=hm.n64;(try simp only[bN,nP]);omega) (by repeat(first|exact Low.of hm nO|refine Low.put ?_ nO|refine Low.bump ?_)),λy hy=>by simp only[gB,gP,zb3 hy,if_false]⟩,gA,nO⟩ λM0 hM0=>?_;obtain⟨hA0,hN0,hb0,hl0⟩:=hM0;have hF0:=hN0.fresh;have ht0:Tb M0:=ht.nx hm hN0;have hbx:∀{X':St} {M:Mem},Be M0 L X' M->M.get m.next=some (.cells (ofL [PT (L.p i)]) true 0)∧m.next<=M.next:=λhB=>⟨(hB.old hl0 hDb).trans hb0,by have:=hB.next;omega⟩;refine cX (znp hA0 hF0 hi (by omega)) λu M1 hB1=>?_;have hB1:Be M0 L (zfR X i 4 0 s) M1:=hB1;obtain⟨b1,n1⟩:=hbx hB1;have S1:=Sh.see (i:=i) (a:=4) (b:=0) (v:=s) hg;obtain⟨L1,a1,x1,f1⟩:=hB1;have ep1:L1.p i=L.p i:=x1.p (by rw[h.lP];exact hi);simp only[XX,XY,F79,yA,yB,yC,b1,n1];refine cX (by rw[<-ep1];exact zfP (a1.bump _) f1.fresh.bump hi (by have:=S1.fut;omega)) λu M2 hB2=>?_;have hB2:Be M0 L (zaI (zfR X i 4 0 s) i) M2:=bE x1 f1 hB2.of_bump;obtain⟨b2,n2⟩:=hbx hB2;have S2:=S1.trans (Sh.ready (i:=i) S1.gx hi);have hi2:i<(zaI (zfR X i 4 0 s) i).P.length:=lL hi S2.P;obtain⟨L2,a2,x2,f2⟩:=hB2;have ep2:L2.p i=L.p i:=x2.p (by rw[h.lP];exact hi);obtain⟨c2,p1,p2⟩:=a2.pr i hi2;have hp4:=(p2.w_state (x:=2)).w_status (x:=s);have k1:3+1<=c2.n:=by rw[p2.n];decide
 have k2:4+1<=c2.n:=by rw[p2.n];decide
 have hq1:=p1;rw[ep2] at hq1;have nb2:¬m.next=L.p i:=by omega
 simp only[XX,XY,F79,yA,yB,yC,b2,n2,hq1,k1,k2,nb2,lA];refine CallI.gen (λM=>Be M0 L (zo4 (zaI (zfR X i 4 0 s) i) i s) M) ?_ λM3 hB3=>?_
 ·rw[<-ep2];refine⟨L2,a2.upd_p hi2 hp4 nO gA (λy hy hne=>gA),x2,?_⟩;have hFp:=(Fd.own (o:= .cells (c2.write 3 [In 2]) true 0) a2 f2.fresh (a2.mp hi2));have hA3:=a2.put_p hi2 (p2.w_state (x:=2));exact(f2.trans (hFp.trans (Fd.own hA3 hFp.fresh (hA3.mp (by simpa using hi2))) λy hy=> .inl hy) λy hy=>x2.D y hy).bump _
 obtain⟨b3,n3⟩:=hbx hB3;have S3:=S2.trans (Sh.dead (i:=i) (s:=s) S2.gx hi2);have hi3:i<(zo4 (zaI (zfR X i 4 0 s) i) i s).P.length:=lL hi S3.P;obtain⟨L3,a3,x3,f3⟩:=hB3;have ep3:L3.p i=L.p i:=x3.p (by rw[h.lP];exact hi);refine cX (by rw[<-ep3];exact zlF a3 f3.fresh S3.gx hi3) λu M4 hB4=>?_;have hB4:Be M0 L (exitA X i s) M4:=bE x3 f3 hB4;obtain⟨b4,n4⟩:=hbx hB4;have S4:Sh 1 X (exitA X i s):=Sh.exitA hg hi;have hEX:zjR X i s=exitB (zaO (exitA X i s) i ((exitA X i s).p i).fds (List.range 8)) i:=rfl;have hEF:(exitA X i s).F=X.F:=zzn;rw[hEX];generalize exitA X i s=E at hB4 S4 hEF⊢;have hi4:i<E.P.length:=lL hi S4.P;have hB4':=hB4;obtain⟨L4,a4,x4,f4⟩:=hB4;have ep4:L4.p i=L.p i:=x4.p (by rw[h.lP];exact hi);obtain⟨c4,q1,q2⟩:=a4.pr i hi4;obtain⟨F,hFE⟩:∃F,F=(E.p i).fds:=⟨_,rfl⟩;rw[<-hFE];have hFd:∀k y,F.getD k none=some y->y<X.F.length:=λk y hy=>by rw[hFE] at hy;have:=(S4.gx.fd i hi4).2 k y hy;rw[hEF] at this;exact this
 have hFl:F.length=8:=by rw[hFE];exact(S4.gx.fd i hi4).1
 have hfd:c4.sub 52 8=some (F.map λx=>pV (x.map L.x)):=by rw[q2.fds,<-hFE];exact congrArg some (zrD λk y hy=>x4.x (by rw[h.lF];exact hFd k y hy))
 rw[ep4] at q1;simp only[XX,XY,F79,yA,yB,yC,b4,n4,q1,hfd];have hl8:(F.map λx=>pV (x.map L.x)).length=8:=by rw[lM];exact hFl
 refine WX.loop_of (λk tt M=>∃j:Nat,j<=8∧k=8-j∧tt=T 84 [(31,In j),(30, .agg (F.map λx=>pV (x.map L.x)).toArray),(4,PT L.f),(2,PT m.next),(1,Um s),(0,PT (L.p i))]∧Be M0 L (zaO E i F (List.range j)) M) ?_ (k:=8) (t1:=T 84 [(31,In (0:Nat)),(30, .agg (F.map λx=>pV (x.map L.x)).toArray),(4,PT L.f),(2,PT m.next),(1,Um s),(0,PT (L.p i))]) (vT ⟨rfl,rfl,rfl,rfl,rfl,rfl,trivial⟩) ⟨0,by omega,rfl,rfl,by rw[zsj];exact hB4'.bump _⟩;rintro kk tt M ⟨j,hj,rfl,rfl,hB⟩;obtain⟨b5,n5⟩:=hbx hB;obtain⟨S5,sl5,sp5⟩:=Sh.closes (i:=i) (F:=F) (λk y hy=>by rw[hEF];exact hFd k y hy) S4.gx hi4 a4.lkk (l:=List.range j);have S5':=S4.trans S5;have hi5:=lL hi S5'.P;have hBB:=hB;obtain⟨L5,a5,x5,f5⟩:=hB;have ep5:L5.p i=L.p i:=x5.p (by rw[h.lP];exact hi);obtain⟨c5,r1,r2⟩:=a5.pr i hi5;have r1':=r1;rw[ep5] at r1;by_cases hj2:j<8
 ·have g1:(j:Int)<8:=by omega
  have g2:(0:Int)<=j:=by omega
  have g3:(j:Int)<((8:Nat):Int):=by omega
  have hw:IntKind.i64.wrap ((j:Int)+1)=((j+1:Nat):Int):=by rw[zae (by omega) (by omega)];omega
  have hix:ixV EE.P 79 (.agg (F.map λx=>pV (x.map L.x)).toArray) (In j)=some (pV ((F.getD j none).map L.x)):=by rw[zf2 zfH g2 g3,zjJ,zfm,znY,Int.toNat_natCast,Nat.mul_one,gM',gD',gE' (by omega)];rfl
  have k3:52+(j+1)<=c5.n:=by rw[r2.n];omega
  have hp5:=r2.s_fds hj2 (x:=none);have hnb:¬m.next=L.p i:=by omega
  have hBP:Be M L5 {zaO E i F (List.range j) with P:=(zaO E i F (List.range j)).P.set i {(zaO E i F (List.range j)).p i with fds:=((zaO E i F (List.range j)).p i).fds.set j none}} (M.put (L5.p i) (.cells (c5.write (52+j) [.pointer none]) true 0)):=a5.be_p f5.fresh hi5 hp5;have eS:zaO E i F (List.range (j+1))=zeT (zaO E i F (List.range j)) i j (F.getD j none):=by rw[List.range_succ,zgp]
  cases hx:F.getD j none with
  |none=>rw[hx] at hix eS;simp only[XX,XY,F79,yA,yB,yC,zJl,g1,g2,g3,hix,b5,n5,r1,k3,hw,zac,lA];refine⟨8-(j+1),_,_,by omega,vT (l':=[(31,In ((j+1:Nat):Int)),(30, .agg (F.map λx=>pV (x.map L.x)).toArray),(4,PT L.f),(2,PT m.next),(1,Um s),(0,PT (L.p i))]) ⟨rfl,rfl,rfl,rfl,rfl,rfl,trivial⟩,j+1,by omega,rfl,rfl,?_⟩;rw[eS,<-ep5];exact(bE x5 f5 hBP).bump _
  |some x=>
   rw[hx] at hix eS;have hxl:=hFd j x hx;have ex:L5.x x=L.x x:=x5.x (by rw[h.lF];exact hxl);have ef:L5.f=L.f:=x5.f;have S6:=Sh.set_p (i:=i) S5.gx (r:={(zaO E i F (List.range j)).p i with fds:=((zaO E i F (List.range j)).p i).fds.set j none}) ((S5.gx.px hi5).s_fds λg hg=>by cases hg);simp only[XX,XY,F79,yA,yB,yC,zJs,g1,g2,g3,hix,b5,n5,r1,k3,lA];refine cX (by rw[<-ex,<-ef,<-ep5];exact zqq ((a5.put_p hi5 hp5).bump _) hBP.fresh.bump S6.gx (show(zaO E i F (List.range j)).fut.length<100000 by have:=S5'.fut;omega) (lL hxl (lT S5'.F S6.F))) λu M6 hB6=>?_;have hFp:Fd L5.D M (M.put (L.p i) (.cells (c5.write (52+j) [.pointer none]) true 0)):=by rw[<-ep5];exact Fd.own a5 f5.fresh (a5.mp hi5)
   rw[ep5] at hB6;have hB7:Be M0 L (zaO E i F (List.range (j+1))) M6:=by rw[eS];exact bE x5 f5 (bE Lx.refl hFp hB6.of_bump)
   obtain⟨b7,n7⟩:=hbx hB7;simp only[XX,XY,F79,yA,yB,yC,n7,hw,zac];exact⟨8-(j+1),_,_,by omega,vT (l':=[(31,In ((j+1:Nat):Int)),(30, .agg (F.map λx=>pV (x.map L.x)).toArray),(4,PT L.f),(2,PT m.next),(1,Um s),(0,PT (L.p i))]) ⟨rfl,rfl,rfl,rfl,rfl,rfl,trivial⟩,j+1,by omega,rfl,rfl,hB7.bump _⟩
 ·obtain rfl:j=8:=by omega
  have g1:¬((8:Nat):Int)<8:=by omega
  have eM:exitB (zaO E i F (List.range 8)) i=exitB (zaO E i F (List.range 8)) i:=rfl;generalize zaO E i F (List.range 8)=Y at hBB a5 hi5 r1 r2 r1' S5' sl5 sp5⊢;have hF5:=f5.fresh;obtain⟨cf,e1,e2⟩:=a5.fl;have ef5:L5.f=L.f:=x5.f;have nfb:¬L.f=m.next:=λe=>hDb (e▸h.dm _ h.mf);have k6:11+1<=cf.n:=by rw[e2.n];decide
  have e1':=e1;rw[ef5] at e1;by_cases hp1:(Y.p i).pid=1
  ·have d1:=decide_eq_true hp1;simp only[XX,XY,F79,yA,yB,yC,yE,g1,b5,n5,r1,r2.pid,d1,e1,k6,zam,lA];have hA6:=a5.s_halted (x:=true) e1';have hF6:Fd L5.D M (M.put L5.f (.cells (cf.write 11 [.bool true]) true 0)):=Fd.own a5 hF5 a5.mf;rw[ef5] at hA6 hF6;refine zcY.fin (by unfold exitB;rw[if_pos hp1]) (bE Lx.refl (Fd.of_nx hN0) (bE x5 f5 ⟨L5,hA6.bump _,Lx.refl,hF6.bump _⟩))
  ·have d1:=decide_eq_false hp1;simp only[XX,XY,F79,yA,yB,yC,yE,g1,b5,n5,r1,r2.pid,d1,zam,lA];have hN5:∀(M:Mem) (hm:zad M) (o1 o2:zaS),Nx M (((M.put (M.next+6) o1).put (M.next+6) o2).bump 11):=λM hm o1 o2=>⟨by(try simp only[bN,nP]);omega,zad.of_low (by have:=hm.n64;(try simp only[bN,nP]);omega) (by repeat(first|exact Low.of hm nO|refine Low.put ?_ nO|refine Low.bump ?_)),λy hy=>by simp only[gB,gP,zbL hy,if_false]⟩;refine CallI.gen (λM7=>Be M0 L Y M7∧(∃c,M7.get (M.next+6)=some (.cells c true 0)∧c.n=1∧c.nth 0=some (.bool false))∧M.next+6<M7.next) ⟨⟨L5,a5.nx (hN5 M hF5 _ _),x5,f5.trans (Fd.of_nx (D:=L5.D) (hN5 M hF5 _ _)) λy hy=>x5.D y hy⟩,⟨_,gA,rfl,rfl⟩,nO⟩ λM7 hM7=>?_;obtain⟨hB7,⟨cb,hb7,hc7,hc70⟩,hl7⟩:=hM7;obtain⟨bb7,nn7⟩:=hbx hB7;obtain⟨L7,a7,x7,f7⟩:=hB7;have ef7:L7.f=L.f:=x7.f;have ep7:L7.p i=L.p i:=x7.p (by rw[h.lP];exact hi);refine cX (by rw[<-ef7];exact zjF (L:=L7) (x:= .func (.func 123) #[] #[PT m.next]) f7.fresh rfl) λu M8 hv=>?_;obtain⟨y1,y2,rfl,y3,y4,y5,y6,y7,hn8⟩:=hv;have nx8:=hn8.next;have n8:m.next<=M8.next:=by omega
   have h64:=hF5.n64;obtain⟨L8,hL8⟩:∃L8:Loc,L8={L7 with D:=λy=>L7.D y∨y=M.next+6}:=⟨_,rfl⟩;have A8:FAt M8 L8 Y:=by rw[hL8];exact(a7.nx hn8).addD (by omega) (by omega)
   have D8:L8.D (M.next+6):=by rw[hL8];exact .inr rfl
   have pL8:∀j,L8.p j=L7.p j:=λj=>by rw[hL8]
   have fL8:L8.f=L7.f:=by rw[hL8]
   have hb8:M8.get (M.next+6)=some (.cells cb true 0):=hn8.keep f7.fresh hb7;have bx8:M8.get m.next=some (.cells (ofL [PT (L.p i)]) true 0):=hn8.keep f7.fresh bb7;have ndx:¬L8.D m.next:=λe=>by
    rw[hL8] at e;rcases e with e|e
    ·exact(x7.D _ e).elim hDb λe=>by omega
    ·omega
   simp only[XX,F79,yA];refine zgS (g:=101) (l':=[(7,PT (M.next+6)),(4,PT L.f),(2,PT m.next)]) (R:=λ_ m2=>(∃r:zct,m2.get M8.next=some (.loop r)∧r.state= .ready∧r.pend=none)∧(∀o,Be M8 L8 (orphI i Y.l (Y,false)).1 (m2.put M8.next o))∧(∃c,m2.get (M.next+6)=some (.cells c true 0)∧c.n=1∧c.nth 0=some (.bool (orphI i Y.l (Y,false)).2))∧M8.next<m2.next) [] [PT y1,PT y2] (by omega) (by simp only[zwB,zc4,Nat.reduceLT,Nat.reduceEqDiff,reduceIte]) kr ?_ (λp hp=>?_) (λ_ m2 hI=>?_)
   ·have ee:orphI i Y.l (Y,false)=orphI i (Y.l.take Y.l.length) (Y,false):=by rw[List.take_length]
    rw[ee];refine zo7 (g:=123) (cap:=[PT m.next]) hn8.fresh A8 S5'.gx (by rw[fL8];exact y5) y6 (λe=>by
     rw[hL8] at e;rcases e with e|e
     ·have:=a7.lt _ e;omega
     ·omega) kr ⟨rfl,rfl⟩ (λk=>(orphI i (Y.l.take k) (Y,false)).1) rfl (λk Mx=>∃c,Mx.get (M.next+6)=some (.cells c true 0)∧c.n=1∧c.nth 0=some (.bool (orphI i (Y.l.take k) (Y,false)).2)) (λM1 ho=>⟨cb,(ho _ (by omega)).trans hb8,hc7,hc70⟩) (λi Mx j hx=>hx) λk M' L9 hk hF' hA' hx' hD' hn' hl' ho' hG'=>?_
    obtain⟨c,g1,g2,g3⟩:=hG';obtain⟨P',eP,lP⟩:=zfC (i:=i) (l:=Y.l.take k) (Z:=(Y,false));have hlen:(orphI i (Y.l.take k) (Y,false)).1.P.length=Y.P.length:=by rw[eP];exact lP
    have hjk:Y.l.getD k 0<Y.P.length:=a7.lk hk;have ep9:L8.p (Y.l.getD k 0)=L9.p (Y.l.getD k 0):=(hx'.p (by rw[A8.lP];exact hjk)).symm;have epi:L9.p i=L.p i:=(hx'.p (by rw[A8.lP];exact hi5)).trans ((pL8 i).trans ep7);refine⟨decide (((orphI i (Y.l.take k) (Y,false)).1.p (Y.l.getD k 0)).parent=((orphI i (Y.l.take k) (Y,false)).1.p i).pid),λj=>?_,λe=>?_,λe j=>?_⟩
    ·rw[ep9];exact zDp (z:=0) (hA'.bump j) (by rw[hlen];exact hi5) (by rw[hlen];exact hjk) (by rw[epi,gB,ho' _ (by omega) ndx];exact bx8)
    ·have et:orphI i (Y.l.take (k+1)) (Y,false)=orphI i (Y.l.take k) (Y,false):=by rw[zio hk];unfold orphS;rw[if_neg (of_decide_eq_false e)]
     exact⟨congrArg (·.1) et,c,g1,g2,by rw[et];exact g3⟩
    ·have et:orphI i (Y.l.take (k+1)) (Y,false)=({(orphI i (Y.l.take k) (Y,false)).1 with P:=(orphI i (Y.l.take k) (Y,false)).1.P.set (Y.l.getD k 0) {(orphI i (Y.l.take k) (Y,false)).1.p (Y.l.getD k 0) with parent:=1}},(orphI i (Y.l.take k) (Y,false)).2||decide (((orphI i (Y.l.take k) (Y,false)).1.p (Y.l.getD k 0)).state=2)):=by rw[zio hk];unfold orphS;rw[if_pos (of_decide_eq_true e)]
     obtain⟨u,m',r1,r2,r3,r4,r5⟩:=zoN (k:=j) (j:=Y.l.getD k 0) (b:=M.next+6) rfl hF' (hA'.addDs (Q:=L8.D) λy hy=>⟨by have:=A8.lt _ hy;omega,A8.d64 _ hy⟩) hl' (λe=>e.elim hD' λe=>by have:=A8.lt _ e;omega) (.inr D8) g1 g2 g3 (by rw[hlen];exact hjk);refine⟨u,m',by rw[ep9];exact r1,r2,r3,?_,?_⟩
     ·show Be M' _ (orphI i (Y.l.take (k+1)) (Y,false)).1 m';rw[et];exact r4
     ·rw[et];exact r5
   ·simp only[List.mem_cons,List.not_mem_nil,or_false] at hp;have:=h.ids_lt h.mf;rcases hp with rfl|rfl|rfl<;>exact zgn (by omega)
   ·obtain⟨⟨r,q1,q2,q3⟩,q4,⟨c,q5,q6,q7⟩,q8⟩:=hI;obtain⟨st,pe,tm,ps,sa,bd⟩:=r;simp only at q2 q3;subst q2 q3;refine zb1 q1 ?_;have hB9:∀o,Be M0 L (orphI i Y.l (Y,false)).1 (m2.put M8.next o):=λo=>by have:=q4 o;rw[hL8] at this;exact Be.ofDs (m:=M0) (L:=L) this x7 (f7.trans (Fd.of_nx (D:=L7.D) hn8) λy hy=>x7.D y hy) λy hy=> .inr (by have:=f5.next;omega)
    have ne9:¬M.next+6=M8.next:=by omega
    have n9:m.next<=m2.next:=by omega
    have hgo:=S5'.gx.orphI (i:=i) (l:=Y.l) (Z:=(Y,false)) a7.lkk;have hiZ:i<(orphI i Y.l (Y,false)).1.P.length:=by obtain⟨P',eP,lP⟩:=zfC (i:=i) (l:=Y.l) (Z:=(Y,false));rw[eP];show i<P'.length;rw[lP];exact hi5
    have SZ:Sh 1 X (orphI i Y.l (Y,false)).1:=by
     obtain⟨P',eP,lP⟩:=zfC (i:=i) (l:=Y.l) (Z:=(Y,false));have h1:=S5';refine⟨?_,?_,?_,?_,?_,?_,?_,hgo⟩<;>rw[eP]
     ·show _<=P'.length;rw[lP];exact h1.P
     ·exact h1.F
     ·exact h1.I
     ·exact h1.G
     ·exact h1.C
     ·exact h1.fut
     ·exact h1.sn
    have hX:exitB Y i=zeO (exitD (orphI i Y.l (Y,false)) i) ((exitD (orphI i Y.l (Y,false)) i).p i).parent 12:=by unfold exitB;rw[if_neg hp1]
    have ne10:¬m.next=M8.next:=by omega
    rw[hX];generalize orphI i Y.l (Y,false)=Z at hB9 q4 q7 hiZ SZ hgo⊢;obtain⟨bZ0,_⟩:=hbx (hB9 (.loop ⟨.exhausted,none,tm,ps,sa,bd⟩));have bZ:m2.get m.next=some (.cells (ofL [PT (L.p i)]) true 0):=by rw[gP,if_neg ne10] at bZ0;exact bZ0
    cases hz:Z.2 with
    |true=>
     rw[hz] at q7;obtain⟨LZ,aZ,xZ,fZ⟩:=hB9 (.loop ⟨.exhausted,none,tm,ps,sa,bd⟩);have efZ:LZ.f=L.f:=xZ.f;simp only[XX,XY,F79,yA,yB,yC,n9,q5,q7,ne9,lA];refine cX (by rw[<-efZ];exact zjn (pid:=1) (aZ.bump _) fZ.fresh.bump hgo (by have:=SZ.fut;omega)) λu Ma hBa=>?_;have hBa:Be M0 L (zbs Z.1 1) Ma:=bE xZ fZ hBa.of_bump;have SW:Sh 1 X (zbs Z.1 1):=SZ.trans (Sh.child hgo aZ.lkk);have eD:exitD Z i=zbs (zbs Z.1 1) ((zbs Z.1 1).p i).parent:=by unfold exitD;simp only[hz,if_true]
     rw[eD];generalize zbs Z.1 1=W at hBa SW⊢;obtain⟨bw,nw⟩:=hbx hBa;obtain⟨Lw,aw,xw,fw⟩:=hBa;have hiw:=lL hi SW.P;have efw:Lw.f=L.f:=xw.f;have epw:Lw.p i=L.p i:=xw.p (by rw[h.lP];exact hi);obtain⟨cw,w1,w2⟩:=aw.pr i hiw;rw[epw] at w1;simp only[XX,XY,F79,yA,yB,yC,bw,nw,w1,w2.parent];refine cX (by rw[<-efw];exact zjn (aw.bump _) fw.fresh.bump SW.gx (by have:=SW.fut;omega)) λu Mb hBb=>?_;have hBb:Be M0 L (zbs W (W.p i).parent) Mb:=bE xw fw hBb.of_bump;have SV:Sh 1 X (zbs W (W.p i).parent):=SW.trans (Sh.child SW.gx aw.lkk);generalize zbs W (W.p i).parent=V at hBb SV⊢;have htb:=hBb.tb hA0 hF0 ht0;obtain⟨bv,nv⟩:=hbx hBb;obtain⟨Lv,av,xv,fv⟩:=hBb;have hiv:=lL hi SV.P;have efv:Lv.f=L.f:=xv.f;have epv:Lv.p i=L.p i:=xv.p (by rw[h.lP];exact hi);obtain⟨cv,v1,v2⟩:=av.pr i hiv;rw[epv] at v1;simp only[XX,XY,F79,yA,yB,yC,bv,nv,v1,v2.parent];refine cX (by rw[<-efv];exact ziV (av.bump _) fv.fresh.bump (htb.bump _) SV.gx (by have:=SV.sn;omega) (by have:=SV.fut;omega)) λu Mc hBc=>?_;have hBc:=bE Lx.refl (Fd.of_nx hN0) (bE xv fv hBc.of_bump);have nc:=hBc.next;simp only[XX,yA];exact hBc.raw
    |false=>
     rw[hz] at q7;have hBa:=hB9 (.loop ⟨.exhausted,none,tm,ps,sa,bd⟩);have eD:exitD Z i=zbs Z.1 (Z.1.p i).parent:=by unfold exitD;simp only[hz,bF,if_false]
     rw[eD];have SW:=SZ;generalize Z.1=W at hBa SW⊢;obtain⟨Ma,hMa⟩:∃Ma,Ma=m2.put M8.next (.loop ⟨.exhausted,none,tm,ps,sa,bd⟩):=⟨_,rfl⟩;rw[<-hMa] at hBa⊢;have q5b:Ma.get (M.next+6)=some (.cells c true 0):=by rw[hMa,gP,if_neg ne9];exact q5
     have n9b:m.next<=Ma.next:=by rw[hMa,nP];exact n9
     obtain⟨bw,nw⟩:=hbx hBa;obtain⟨Lw,aw,xw,fw⟩:=hBa;have hiw:=lL hi SW.P;have efw:Lw.f=L.f:=xw.f;have epw:Lw.p i=L.p i:=xw.p (by rw[h.lP];exact hi);obtain⟨cw,w1,w2⟩:=aw.pr i hiw;rw[epw] at w1;simp only[XX,XY,F79,yA,yB,yC,q5b,n9b,q7,bw,w1,w2.parent,lA];refine cX (by rw[<-efw];exact zjn (aw.bump _) fw.fresh.bump SW.gx (by have:=SW.fut;omega)) λu Mb hBb=>?_;have hBb:Be M0 L (zbs W (W.p i).parent) Mb:=bE xw fw hBb.of_bump;have SV:Sh 1 X (zbs W (W.p i).parent):=SW.trans (Sh.child SW.gx aw.lkk);generalize zbs W (W.p i).parent=V at hBb SV⊢;have htb:=hBb.tb hA0 hF0 ht0;obtain⟨bv,nv⟩:=hbx hBb;obtain⟨Lv,av,xv,fv⟩:=hBb;have hiv:=lL hi SV.P;have efv:Lv.f=L.f:=xv.f;have epv:Lv.p i=L.p i:=xv.p (by rw[h.lP];exact hi);obtain⟨cv,v1,v2⟩:=av.pr i hiv;rw[epv] at v1;simp only[XX,XY,F79,yA,yB,yC,bv,nv,v1,v2.parent];refine cX (by rw[<-efv];exact ziV (av.bump _) fv.fresh.bump (htb.bump _) SV.gx (by have:=SV.sn;omega) (by have:=SV.fut;omega)) λu Mc hBc=>?_;have hBc:=bE Lx.refl (Fd.of_nx hN0) (bE xv fv hBc.of_bump);have nc:=hBc.next;simp only[XX,yA];exact hBc.raw
end
theorem zvB{E:Env}{ts e sz bytes id k n:Nat}{M:Mem}{fl new:List Value}{v x:Value}(he:zcn E.P ts e sz bytes)(h:SlV M sz v n fl)(hsrc:zdY sz x M=some (new,k))(hk:k≠0)(hnew:new.length=k*sz)(hone:new.all oneCell=true)
  (hfull:∀a c,v= .slice a n c->n=c) (hcap:(n+k)*bytes<=2 ^ 40∧n+k<=2 ^ 40):∃b M',zaV E.P id #[ts,ts] v x M=some (.slice (some ⟨b,0,none⟩) (n+k) (n+k),M'):=by
 obtain⟨h1,h2⟩:=h;have hg:¬(new.all oneCell=false∨new.length≠k*sz):=by rw[hone];simp[hnew]
 rcases h2 with⟨rfl,rfl⟩|⟨b,c,cs,rfl,k3,k4,k6,k5⟩
 ·have hf:apF sz bytes id (.slice none 0 0) (zdY sz x M) M=some (.slice (some ⟨id,0,none⟩) k k,M.put id (.cells (.ofList new) true sz)):=by rw[hsrc];simp only[apF];rw[if_neg hk,if_neg hg,if_pos (by simpa using hcap)]
  exact⟨id,_,by rw[Nat.zero_add,znP he (by rw[hf];rfl) (lR' _),hf]⟩
 ·have hnc:=hfull _ _ rfl;subst hnc;have hf:apF sz bytes id (.slice (some ⟨b,0,none⟩) n n) (zdY sz x M) M=some (.slice (some ⟨id,0,none⟩) (n+k) (n+k),(M.kill b).put id (.cells (cs.more 0 new) true sz)):=by rw[hsrc];simp only[apF];rw[if_neg hk,if_neg hg,if_pos trivial,k3];simp only[apG];rw[if_pos ⟨k4.symm,trivial,hcap⟩]
  exact⟨id,_,by rw[znP he (by rw[hf];rfl) (lR' _),hf]⟩
theorem zcU.appK{E:Env}{m M:Mem}{sz n k ts e bytes:Nat}{u:Value}{fl new:List Value}{j b1 id:Nat}(he:zcn E.P ts e sz bytes)(hby:bytes<=64)(hm:zad m)(hL:zcU m M sz u n fl)(hfull:∀a c,u= .slice a n c->n=c)(hk0:k≠0)(hk:k<=1024)(hnew:new.length=k*sz)(hone:new.all oneCell=true)
  (hb:M.next<=b1∧b1<M.next+j) (hid:M.next<=id∧id<M.next+j) (hl:n<1073741824) {K:Value×Mem->Prop}
  (hK:∀b' M',zcU m M' sz (.slice (some ⟨b',0,none⟩) (n+k) (n+k)) (n+k) (fl++new)->M'.next=M.next+j->(∀y,y<m.next->M'.get y=m.get y)->K (.slice (some ⟨b',0,none⟩) (n+k) (n+k),M')):
  okI (zaV E.P id #[ts,ts] u (.slice (some ⟨b1,0,none⟩) k k) ((M.put b1 (.cells (ofL new) true sz)).bump j)) (k:=⟨K⟩):=by
 have hnx:=hL.nx.next;have hsv:SlV ((M.put b1 (.cells (ofL new) true sz)).bump j) sz u n fl:=hL.sl.keep λy o hy ho=>by have:=hL.sl.lt hL.nx.fresh hy;rw[gB,gP,if_neg (by omega),ho]
 have hcap:(n+k)*bytes<=2 ^ 40∧n+k<=2 ^ 40:=by refine⟨lT (Nat.mul_le_mul_left _ hby) ?_,?_⟩<;>omega
 obtain⟨b',M0,he0⟩:=zvB (id:=id) he hsv (zej (by rw[hnew])) hk0 hnew hone hfull hcap;rw[he0];have key:okI (zaV E.P id #[ts,ts] u (.slice (some ⟨b1,0,none⟩) k k) ((M.put b1 (.cells (ofL new) true sz)).bump j)) (k:=⟨λp=>p=(.slice (some ⟨b',0,none⟩) (n+k) (n+k),M0)->K p⟩):=by
  refine zd3 he (k:=k) (new:=new) hsv (zej (by rw[hnew])) hk0 hnew hone (.inr hfull) hcap λv' M' hA hp=>?_;have n3:=hA.next;rw[bN,nP] at n3;have hold:∀y,y<m.next->M'.get y=m.get y:=λy hy=>by rw[hA.old y (by omega) (λe=>by have:=hL.new y e;omega),gB,gP,if_neg (by omega),hL.nx.old y hy]
  have hN:zcU m M' sz v' (n+k) (fl++new):=⟨hA.sl,⟨by omega,zad.of_low (by have:=hm.n64;omega) λy hy=>hA.low y (by omega) (by rw[gB,gP,if_neg (by omega)];exact hL.nx.fresh.none y (by omega)),hold⟩,λy hy=>by
   rcases hA.blk with⟨h1,_⟩|h1
   ·exact hL.new y (h1▸hy)
   ·rw[h1] at hy;cases hy;omega⟩
  have e1:v'= .slice (some ⟨b',0,none⟩) (n+k) (n+k):=congrArg Prod.fst hp;subst e1;exact hK _ _ hN n3 hold
 rw[he0,zgL] at key;rw[zgL];exact key rfl
section
variable{m m' M mr:Mem}{n:Nat}{L L' L1 L2:Loc}{X X' X1 X2 Y:St}{v:Value}{fl:List Value}{pid:Int}
theorem zo5:zcn EE.P 127 5 1 1:=zcn.of zbf kr (z:=[.int .u8 0]) kr rfl (by decide)
theorem zAm{x:BitVec 8}:bsV EE.P 127 1 [(0,By x)]=some ([By x],1):=kr
theorem zyN{x y z w:BitVec 8}:bsV EE.P 127 4 [(0,By x),(1,By y),(2,By z),(3,By w)]=some ([By x,By y,By z,By w],1):=kr
theorem zcz{k:Nat}(h:k<4294967296):zbU EE.P 3 36 (In k) m=some (Um (BitVec.ofNat 32 k)):=by rw[zdV zaJ zaQ];congr 2
def zdE(X:St)(i:Nat)(a:BitVec 32):Nat->Option (List (BitVec 8))
 |0=>some []
 |k+1=>match zdE X i a k with
  |none=>none
  |some l=>match zhX X i (a+BitVec.ofNat 32 k) with
   |none=>none
   |some b=>if 4096<=a.toNat then none else some (l++ [b])
theorem zeC{i:Nat}{a:BitVec 32}:∀{k:Nat} {l:List (BitVec 8)},zdE X i a k=some l->l.length=k
 |0,l,h=>by cases h;rfl
 |k+1,l,h=>by
  unfold zdE at h;split at h
  ·cases h
  ·rename_i l0 h0;split at h
   ·cases h
   ·split at h
    ·cases h
    ·cases h;rw[aL,zeC h0];rfl
theorem zf8{i:Nat}{a:BitVec 32}{k:Nat}(h:zdE X i a k=none):∀{n:Nat},k<=n->zdE X i a n=none
 |0,hk=>by
  obtain rfl:k=0:=by omega
  exact h
 |n+1,hk=>by
  by_cases e:k=n+1
  ·rw[<-e];exact h
  ·unfold zdE;rw[zf8 h (n:=n) (by omega)]
theorem zrm(h:FAt m L X)(hm:zad m)(hg:GX X){i:Nat}(hi:i<X.P.length){a:BitVec 32}{n:Nat}(hn:n<100000):
  ∃u m',Con EE.P 232 [PT (L.p i),Um a,In n] m u m'∧Nx m m'∧match zdE X i a n with
   |none=>u= .tuple [.slice none 0 0,In 14].toArray
   |some l=>∃v,u= .tuple [v,In 0].toArray∧zcU m m' 1 v n (l.map By):=by
 refine Con.raw zai zEO (bA rfl) _ ?_;simp only[XX,XY,zxi,yA,yB,yC];refine WX.loop_of (λk tt M=>∃(j:Nat) (u:Value) (l:List (BitVec 8)),j<=n∧k=n-j∧tt=T 37 [(13,In j),(12,In n),(8,u),(0,PT (L.p i)),(1,Um a)]∧zdE X i a j=some l∧zcU m M 1 u j (l.map By)) ?_ (k:=n) (t1:=T 37 [(13,In (0:Nat)),(12,In n),(8, .slice none 0 0),(0,PT (L.p i)),(1,Um a)]) (vT ⟨rfl,rfl,rfl,rfl,rfl,trivial⟩) ⟨0,_,[],by omega,rfl,rfl,rfl,(zcU.nil hm).bump _⟩;rintro kk tt M ⟨j,u,l,hj,rfl,rfl,hr,hN⟩;have nx:=hN.nx.next;have hA:=h.nx hN.nx;by_cases hj2:j<n
 ·have g1:=decide_eq_true (show(j:Int)<(n:Int) by omega);have hw:IntKind.i64.wrap ((j:Int)+1)=((j+1:Nat):Int):=by rw[zae (by omega) (by omega)];omega
  have hcv:∀M,zbU EE.P 3 36 (In j) M=some (Um (BitVec.ofNat 32 j)):=λM=>zcz (by omega);simp only[XX,XY,zxi,yA,yB,yC,g1,hcv,zcH,nx,lA];refine cZ (zr9 (hA.bump _) hg hi) ?_;have eS:zdE X i a (j+1)=match zhX X i (a+BitVec.ofNat 32 j) with
   |none=>none
   |some b=>if 4096<=a.toNat then none else some (l++ [b]):=by
   show(match zdE X i a j with|none=>none|some l=>_)=_;rw[hr]
  cases hb:zhX X i (a+BitVec.ofNat 32 j) with
  |none=>rw[hb] at eS;have e0:=zf8 (X:=X) (i:=i) (a:=a) eS (n:=n) (by omega);rw[zIk,e0];simp only[XX,XY,zxi,yA,yB,yC,nx,zbC,lA];exact⟨(hN.bump _).raw,hN.nx.bump _,rfl⟩
  |some b=>
   rw[hb] at eS;have e1:byV (some b)= .tuple [By b, .bool true].toArray:=rfl;rw[e1];by_cases ha:4096<=a.toNat
   ·have d1:=decide_eq_true (show(4096:Int)<=(a.toNat:Int) by omega);simp only[ha,if_true] at eS;have e0:=zf8 (X:=X) (i:=i) (a:=a) eS (n:=n) (by omega);rw[e0];simp only[XX,XY,zxi,yA,yB,yC,nx,d1,zbC,lA];exact⟨(hN.bump _).raw,hN.nx.bump _,rfl⟩
   ·have d1:=decide_eq_false (show¬(4096:Int)<=(a.toNat:Int) by omega);simp only[ha,if_false] at eS;have hlen:=zeC hr;simp only[XX,XY,zxi,yA,yB,yC,nx,d1,zAm,lA];refine zcU.app1 zo5 (by decide) hm hN rfl rfl ⟨by omega,by omega⟩ ⟨by omega,by omega⟩ (by omega) λv' M' hN' hn' _=>?_;have n4:m.next<=M'.next:=by omega
    simp only[XX,XY,zxi,yA,yB,yC,hw,n4,zac];exact⟨n-(j+1),_,_,by omega,vT (l':=[(13,In ((j+1:Nat):Int)),(12,In n),(8,v'),(0,PT (L.p i)),(1,Um a)]) ⟨rfl,rfl,rfl,rfl,rfl,trivial⟩,j+1,v',l++ [b],by omega,rfl,rfl,eS,by rw[List.map_append];exact hN'.bump _⟩
 ·obtain rfl:j=n:=by omega
  have g1:=decide_eq_false (show¬(j:Int)<(j:Int) by omega);simp only[XX,XY,zxi,yA,yB,yC,g1,nx,zam,lA];refine⟨(hN.bump _).raw,hN.nx.bump _,?_⟩;rw[hr];exact⟨u,rfl,hN.bump _⟩
def zb4(w:BitVec 32):List (BitVec 8):=[w.setWidth 8,(w>>>8).setWidth 8,(w>>>16).setWidth 8,(w>>>24).setWidth 8]
theorem zz5{w:BitVec 32}:zbU EE.P 36 5 (Um w) m=some (By (w.setWidth 8)):=by rw[zdV (show EE.P.underlying 5=some (.int .u8) by kernel_rfl) zaJ];congr 2
theorem zxf{b:BitVec 8}:zbU EE.P 5 36 (By b) m=some (Um (b.setWidth 32)):=by rw[zdV zaJ (show EE.P.underlying 5=some (.int .u8) by kernel_rfl)];congr 2;have:=b.isLt;rw[za4,BitVec.toNat_setWidth];omega
theorem zje(hm:zad m){ws:List (BitVec 32)}{n:Nat}(hv:SlV m 1 v n (ws.map Um))(hn:n<1000):∃u m',Con EE.P 54 [v] m u m'∧zcU m m' 1 u (n*4) ((ws.flatMap zb4).map By):=by
 refine Con.raw zai zIl (bA rfl) _ ?_;have hl:ws.length=n:=by have:=hv.len;simpa using this
 have hlenA:∀M,lenA EE.P 22 v M=some (In n):=λM=>hv.lenA zhj;simp only[XX,XY,F54,yA,yB,yC,hlenA];refine WX.loop_of (λk tt M=>∃(j:Nat) (u:Value),j<=n∧k=n-j∧tt=T 28 [(8,In j),(7,In n),(6,v),(3,u),(0,v)]∧zcU m M 1 u (j*4) (((ws.take j).flatMap zb4).map By)∧∀a c,u= .slice a (j*4) c->j*4=c) ?_ (k:=n) (t1:=T 28 [(8,In (0:Nat)),(7,In n),(6,v),(3, .slice none 0 0),(0,v)]) (vT ⟨rfl,rfl,rfl,rfl,rfl,trivial⟩) ⟨0,_,by omega,rfl,rfl,by rw[Nat.zero_mul,List.take_zero];exact(zcU.nil hm).bump _,λa c e=>by cases e;rfl⟩;rintro kk tt M ⟨j,u,hj,rfl,rfl,hN,hfu⟩;have nx:=hN.nx.next;by_cases hj2:j<n
 ·have g1:(j:Int)<(n:Int):=by omega
  have d1:=decide_eq_true g1;have g2:(0:Int)<=(j:Int):=by omega
  have hw:IntKind.i64.wrap ((j:Int)+1)=((j+1:Nat):Int):=by rw[zae (by omega) (by omega)];omega
  obtain⟨b,c,cs,rfl,k1,k2,k3,k4⟩:=hv.cons (by omega);have hbl:=hm.lt k1;have k1':M.get b=some (.cells cs true 1):=hN.nx.keep hm k1;have hq:cs.nth j=some (Um (ws.getD j 0#32)):=by rw[zbV (by omega),k4 j (by simp;omega),gD',gM',gD',gE' (by omega)];rfl
  have e1:=zfz (P:=EE.P) (ty:=36) (a:=ws.getD j 0#32) (yk:= .u64) (k:=8) (by decide);have e2:=zfz (P:=EE.P) (ty:=36) (a:=ws.getD j 0#32) (yk:= .u64) (k:=16) (by decide);have e3:=zfz (P:=EE.P) (ty:=36) (a:=ws.getD j 0#32) (yk:= .u64) (k:=24) (by decide);have t8:Int.toNat 8=8:=rfl;have t16:Int.toNat 16=16:=rfl;have t24:Int.toNat 24=24:=rfl;have hbn:∀k,¬b=M.next+k:=λk=>by omega
  have hbn0:¬b=M.next:=by omega
  simp only[XX,XY,F54,yA,yB,yC,g1,g2,nx,k1',hq,e1,e2,e3,t8,t16,t24,zz5,zyN,lA];refine zcU.appK zo5 (by decide) hm hN hfu (k:=4) (by decide) (by decide) rfl rfl ⟨by omega,by omega⟩ ⟨by omega,by omega⟩ (by omega) λb' M' hN' hn' _=>?_;have n4:m.next<=M'.next:=by omega
  simp only[XX,XY,F54,yA,yB,yC,hw,n4,zac];refine⟨n-(j+1),_,_,by omega,vT (l':=[(8,In ((j+1:Nat):Int)),(7,In n),(6, .slice (some ⟨b,0,none⟩) n c),(3, .slice (some ⟨b',0,none⟩) (j*4+4) (j*4+4)),(0, .slice (some ⟨b,0,none⟩) n c)]) ⟨rfl,rfl,rfl,rfl,rfl,trivial⟩,j+1,_,by omega,rfl,rfl,?_,λa c e=>by injection e with _ _ e3;omega⟩;have et:ws.take (j+1)=ws.take j++ [ws.getD j 0#32]:=by rw[List.take_add_one,gE' (by omega),gD',gE' (by omega)];rfl
  rw[et,List.flatMap_append,List.map_append,show(j+1)*4=j*4+4 by omega];exact hN'.bump _
 ·obtain rfl:j=n:=by omega
  have g1:¬(j:Int)<(j:Int):=by omega
  have d1:=decide_eq_false g1;simp only[XX,XY,F54,yA,yB,yC,g1,nx,zam,lA];rw[List.take_of_length_le (by omega)] at hN;exact⟨(hN.bump _).raw,hN.bump _⟩
def w4(l:List (BitVec 8)):BitVec 32:=(((l.getD 0 0#8).setWidth 32|||((l.getD 1 0#8).setWidth 32)<<<8)|||((l.getD 2 0#8).setWidth 32)<<<16)|||((l.getD 3 0#8).setWidth 32)<<<24
def zdt(X:St)(i:Nat)(a:BitVec 32):Option (BitVec 32):=(zdE X i a 4).map w4
def wdV(x:Option (BitVec 32)):Value:= .tuple [Um (x.getD 0#32), .bool x.isSome].toArray
theorem zmu(h:FAt m L X)(hg:GX X){i:Nat}(hi:i<X.P.length){a:BitVec 32}:
  Con EE.P 188 [PT (L.p i),Um a] m (wdV (zdt X i a)) m:=by
 refine Con.of zai zGo (bA rfl) Grow.rfl λhm=>?_;simp only[XX,XY,zED,yA,yB,yC];refine cX (zrm (n:=4) (h.bump _) hm.bump hg hi (by decide)) λu M hM=>?_;obtain⟨hn1,hM⟩:=hM;have hn1:=hn1.of_bump;have nx:=hn1.next;unfold zdt;cases hr:zdE X i a 4 with
 |none=>rw[hr] at hM;subst hM;simp only[XX,XY,zED,yA,yB,yC,yH,nx,lA];exact tP rfl λy hy=>by(simp only[gB];repeat(first|rw[if_neg (by omega)]|rw[if_pos trivial]|rw[if_pos (by omega)]));exact hn1.old y hy
 |some l=>
  rw[hr] at hM;obtain⟨v,rfl,hN⟩:=hM;have hl:=zeC hr;obtain⟨b,c,cs,rfl,k1,k2,k3,k4⟩:=hN.sl.cons (by decide);have hq:∀k,k<4->cs.nth k=some (By (l.getD k 0#8)):=λk hk=>by rw[zbV (by omega),k4 k (by simp;omega),gD',gM',gD',gE' (by omega)];rfl
  have q0:=hq 0 (by decide);have q1:=hq 1 (by decide);have q2:=hq 2 (by decide);have q3:=hq 3 (by decide);have g0:(0:Int)<=0:=by decide
  have g1:(0:Int)<=1:=by decide
  have g2:(0:Int)<=2:=by decide
  have g3:(0:Int)<=3:=by decide
  have i0:(0:Int)<((4:Nat):Int):=by decide
  have i1:(1:Int)<((4:Nat):Int):=by decide
  have i2:(2:Int)<((4:Nat):Int):=by decide
  have i3:(3:Int)<((4:Nat):Int):=by decide
  have t0:Int.toNat 0=0:=rfl;have t1:Int.toNat 1=1:=rfl;have t2:Int.toNat 2=2:=rfl;have t3:Int.toNat 3=3:=rfl;have t8:Int.toNat 8=8:=rfl;have t16:Int.toNat 16=16:=rfl;have t24:Int.toNat 24=24:=rfl;have e1:∀x:BitVec 32,zcG EE.P .shl 36 (Um x) (.int .u64 8)=some (Um (x<<<8)):=λx=>ziu (k:=8) (by decide);have e2:∀x:BitVec 32,zcG EE.P .shl 36 (Um x) (.int .u64 16)=some (Um (x<<<16)):=λx=>ziu (k:=16) (by decide);have e3:∀x:BitVec 32,zcG EE.P .shl 36 (Um x) (.int .u64 24)=some (Um (x<<<24)):=λx=>ziu (k:=24) (by decide);simp only[XX,XY,zED,yA,yB,yC,nx,k1,q0,q1,q2,q3,g0,g1,g2,g3,i0,i1,i2,i3,t0,t1,t2,t3,zxf,e1,e2,e3,zsh,lA];exact tP rfl λy hy=>by(simp only[gB];repeat(first|rw[if_neg (by omega)]|rw[if_pos trivial]|rw[if_pos (by omega)]));exact hn1.old y hy
end
end
end Go.Ab
