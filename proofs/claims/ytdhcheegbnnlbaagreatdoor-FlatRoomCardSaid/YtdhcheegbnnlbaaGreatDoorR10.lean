/- Part. -/
import Derived.Test.YtdhcheegbnnlbaaGreatDoorR09
set_option linter.all false
open Go.Ab.Mem renaming next_bump → bN, next_put → nP, get_bump → gB, get_put → gP
open Nat renaming le_of_ble_eq_true → bA, le_add_right_of_le → lA, le_refl → lR', le_trans → lT
open List renaming getD_eq_getElem?_getD → gD', getElem?_eq_getElem → gE', append_assoc → aA, getElem?_append_left → aB', getElem?_append_right → aC', getElem?_map → gM', length_set → sL
open Bool renaming and_eq_true → bT, false_eq_true → bF
open Go.Ab.CallI renaming ex2 → cX, con0 → cZ
open Go.Ab.TidyE renaming pure → tP
open Go.Ab.Cells renaming ofList → ofL
open Go.Ab.View renaming temps → vT
open Go.Ab.Be renaming trans → bE
open Nat renaming reduceLT → yA, reduceEqDiff → yB, reduceAdd → yC, reduceMul → yD, reduceSub → yE, reducePow → yF, reduceLeDiff → yG
open Int renaming reduceEq → yH, reduceLT → yI, reduceLE → yJ
namespace Go.Ab
open Go.Proofs
noncomputable section
set_option maxHeartbeats 4000000
set_option maxRecDepth 10000
section
variable{m m' M mr:Mem}{n:Nat}{L L' L1:Loc}{X X1 X2:St}{v:Value}{fl:List Value}{pid:Int}
theorem zxH{c:Cpu}{k:Nat}:(zbm c).all (zaP k)=true:=by unfold zbm;rw[List.all_append,List.all_append,List.all_map,List.all_map,bT,bT];refine⟨⟨List.all_eq_true.2 λx _=>?_,List.all_eq_true.2 λx _=>?_⟩,?_⟩<;>(try cases k)<;>rfl
theorem zdQ{c:Cpu}:(zbm c).all oneCell=true:=by unfold zbm;rw[List.all_append,List.all_append,List.all_map,List.all_map,bT,bT];exact⟨⟨List.all_eq_true.2 λx _=>rfl,List.all_eq_true.2 λx _=>rfl⟩,rfl⟩
def zkl(X:St):St:={X with seen:=[]}
theorem zmI(h:FAt m L X)(hm:zad m):∃u m',Con EE.P 47 [PT L.f] m u m'∧u=L.sv∧Be m L (zkl X) m'∧SlV m' 4 L.sv X.seen.length (X.seen.flatMap zpm):=by
 refine Con.raw zai zIL (bA rfl) _ ?_;obtain⟨cf,f1,f2⟩:=h.fl;have hlt:=h.ids_lt h.mf;have k1:12+1<=cf.n:=by rw[f2.n];decide
 simp only[XX,XY,F47,yA,yB,yC,f1,f2.sv,k1];have hres:=h.set_sv (M:=m.bump 12) (id:=m.next) (v':= .slice none 0 0) (S:=[]) f1 f2 nO nO hm.n64 (λy _ _=>rfl) SlV.nil (.inr (.inr rfl));rw[<-zbp] at*
 have hF:Fd L.D m ((m.bump 12).put L.f (.cells (cf.write 12 [.slice none 0 0]) true 0)):=((Fd.refl hm).bump 12).put (.inl (h.dm _ h.mf)) h.lt (.inl (by rw[gB,f1];simp));refine hF.raw ⟨rfl,⟨_,hres,⟨rfl,⟨[],by simp⟩,⟨[],by simp⟩,⟨[],by simp⟩,⟨[],by simp⟩,⟨[],by simp⟩,λy hy=>hy.imp id λe=>by omega⟩,hF⟩,?_⟩;exact(h.ss.bump 12).put0 (by decide) (by rw[gB];exact f1)
def zxd(X:St):List Int:=[IntKind.i64.wrap (X.frames-X.contents),IntKind.i64.wrap (X.procs-X.l.length),IntKind.i64.wrap (64-X.files),IntKind.i64.wrap (16-X.pipes)]
theorem zzE(h:FAt m L X)(hg:GX X):Con EE.P 19 [PT L.f] m (.agg ((zxd X).map In).toArray) m:=by
 refine Con.of zai zI7 (bA rfl) Grow.rfl λhm=>?_;obtain⟨cf,f1,f2⟩:=h.fl;have hlt:=h.ids_lt h.mf;have hn:X.next≠0:=by have:=hg.nx;omega
 have ne0:¬L.f=m.next:=by omega
 have hl:∀M,lenA EE.P 67 L.lv M=some (In X.l.length):=λM=>h.ls.lenA zbt;have b1:∀x y z w:Int,zaT EE.P 58 [(0,In x),(1,In y),(2,In z),(3,In w)]=some (.agg [In x,In y,In z,In w].toArray):=λx y z w=>by kernel_rfl
 simp only[XX,XY,F19,yA,yB,yC];refine cZ (zhm ((h.new' (j:=0)).bump _) hn) ?_;simp only[XX,XY,F19,yA,yB,yC,f1,f2.frames,f2.contents,f2.procs,f2.files,f2.pipes,f2.lv,hl,b1,ne0];exact tP rfl λy hy=>gA
def zEl(X:St)(pid:Int):Cpu:=match zbO X pid with
 |some i=>(X.p i).cpu
 |none=>zov
theorem zvN{c:Cpu}{b:Bool}:plain (.tuple #[.agg (zbm c).toArray, .bool b])=true:=by show((zbm c).all (zaP 4)&&((true)&&true))=true;rw[zxH];rfl
theorem zA2(h:FAt m L X)(hg:GX X):Con EE.P 15 [PT L.f,In pid] m (.tuple [.agg (zbm (zEl X pid)).toArray, .bool (zbO X pid).isSome].toArray) m:=by
 refine Con.of zai zIJ (bA rfl) Grow.rfl λhm=>?_;have b0:zaT EE.P 47 []=some (.agg (zbm zov).toArray):=kr;have h11:(zbm zov).length=11:=rfl;have ho:= @zdQ;simp only[XX,XY,F15,yA,yB,yC];refine cZ (zf6 ((h.new' (j:=0)).bump _) hg) ?_;unfold zEl;cases hl:zbO X pid with
 |none=>simp only[XX,XY,F15,yA,yB,yC,pV,b0,h11,ho,Option.isSome_none];exact tP zvN λy hy=>gA
 |some i=>
  obtain⟨hi,_,_⟩:=zeK h hl;obtain⟨cs,h1,h2⟩:=h.pr i hi;have hlt:=h.ids_lt (h.mp hi);have ne0:¬L.p i=m.next:=by omega
  have h12:=zcy h2.okc;have hw:∀c:Cells,c.n=11->(c.write 0 (zbm (X.p i).cpu)).sub 0 11=some (zbm (X.p i).cpu):=λc hc=>zay h12 (by rw[hc];decide);simp only[XX,XY,F15,yA,yB,yC,pV,h1,h2.cpu,h12,ho,ne0,hw];exact tP zvN λy hy=>gA
def zhX(X:St)(i:Nat)(a:BitVec 32):Option (BitVec 8):=(atX (X.p i) a).map λg=>(X.c (X.g g).c).b.getD (a.toNat % 64) 0#8
def byV(x:Option (BitVec 8)):Value:= .tuple [By (x.getD 0#8), .bool x.isSome].toArray
theorem zIk:byV none= .tuple [.int .u8 0, .bool false].toArray:=rfl
theorem zuc{r:znq}{cs:Cells}(h:CC L r cs)(hl:r.b.length=64){k:Nat}(hk:k<64):cs.nth k=some (By (r.b.getD k 0#8)):=by have:=zcw (k:=k) h.b hk;rw[Nat.zero_add] at this;rw[this,gM',gD',gE' (by omega)];rfl
theorem zr9(h:FAt m L X)(hg:GX X){i:Nat}(hi:i<X.P.length){a:BitVec 32}:Con EE.P 64 [PT (L.p i),Um a] m (byV (zhX X i a)) m:=by
 refine Con.of zai zIv (bA rfl) Grow.rfl λhm=>?_;simp only[XX,XY,F64,yA,yB,yC];refine cZ (zqe (h.bump _) hg hi) ?_;unfold zhX;cases ha:atX (X.p i) a with
 |none=>simp only[XX,XY,F64,yA,yB,yC,pV];exact tP rfl λ_ _=>rfl
 |some g=>
  have hgl:g<X.G.length:=by
   unfold atX at ha;split at ha
   ·cases ha
   ·exact(hg.pg i hi).2 _ _ ha
  obtain⟨cg,g1,g2⟩:=h.pg g hgl;have hcl:=hg.gc g hgl;obtain⟨cc,c1,c2⟩:=h.ct _ hcl;have q1:(0:Int)<=((a.toNat % 64:Nat):Int):=by omega
  have q2:((a.toNat % 64:Nat):Int)<((64:Nat):Int):=by omega
  have hq:=zuc c2 (hg.cb _ hcl) (k:=a.toNat % 64) (by omega);simp only[XX,XY,F64,yA,yB,yC,pV,g1,g2.c,c1,zez,q1,q2,hq];exact tP rfl λ_ _=>rfl
def zdp(X:St)(i:Nat):Bool:=decide ((X.p i).state=1)&&decide ((X.p i).wait=0)
theorem zxb(h:FAt m L X){i:Nat}(hi:i<X.P.length):Con EE.P 43 [PT (L.p i)] m (.bool (zdp X i)) m:=by
 refine Con.of zai zIt (bA rfl) Grow.rfl λhm=>?_;obtain⟨cs,h1,h2⟩:=h.pr i hi;unfold zdp;cases hd:decide ((X.p i).state=1) with
 |true=>simp only[XX,XY,F43,yA,yB,yC,h1,h2.state,h2.wait,hd];exact tP rfl λ_ _=>rfl
 |false=>simp only[XX,XY,F43,yA,yB,yC,h1,h2.state,hd,Bool.false_and];exact tP rfl λ_ _=>rfl
theorem zDN{i:Nat}:Con EE.P 49 [PT (L.p i)] m (.bool true) m:=by refine Con.of zai zIi (bA rfl) Grow.rfl λhm=>?_;simp only[XX,XY,F49,yA,yB,yC];exact tP rfl λ_ _=>rfl
theorem ziS(h:FAt m L X)(hm:zad m)(hg:GX X):∃u m',Con EE.P 14 [PT L.f] m u m'∧zcU m m' 1 u (zbM X (zdp X)).length (il (zbM X (zdp X))):=by refine Con.raw zai zH7 (bA rfl) _ ?_;simp only[XX,XY,F14,yA,yB,yC];refine cX (zpS (h.bump _) hm.bump hg (g:=43) (b:=zdp X) kr λM i hA hi=>zxb hA hi) λu M hN=>?_;have hN':=hN.of_bump;have n1:=hN'.nx.next;simp only[XX,XY,yA,yB];exact⟨hN'.raw,hN'⟩
theorem zyz(h:FAt m L X)(hm:zad m)(hg:GX X):∃u m',Con EE.P 22 [PT L.f] m u m'∧zcU m m' 1 u (zbM X λ_=>true).length (il (zbM X λ_=>true)):=by refine Con.raw zai zID (bA rfl) _ ?_;simp only[XX,XY,F22,yA,yB,yC];refine cX (zpS (h.bump _) hm.bump hg (g:=49) (b:=λ_=>true) kr λM i hA hi=>zDN) λu M hN=>?_;have hN':=hN.of_bump;have n1:=hN'.nx.next;simp only[XX,XY,yA,yB];exact⟨hN'.raw,hN'⟩
end
structure PX(X:St)(r:zb9):Prop where
 pg:r.pages.length=64∧∀k g,r.pages.getD k none=some g->g<X.G.length
 fd:r.fds.length=8∧∀k x,r.fds.getD k none=some x->x<X.F.length
 pp:∀q,r.pipe=some q->q<X.I.length
 fc:∀c,r.fut.c=some c->c<X.C.length
 fp:∀c,r.fut.p=some c->c<X.P.length
theorem GX.px{X:St}(h:GX X){i:Nat}(hi:i<X.P.length):PX X (X.p i):=⟨h.pg i hi,h.fd i hi,h.pp i hi,h.fc i hi,h.fp i hi⟩
theorem zah{α:Type}{l:List α}{i:Nat}{a d:α}(h:i<l.length):(l.set i a).getD i d=a:=by rw[gD',List.getElem?_set_self h];rfl
theorem zav{α:Type}{l:List α}{i j:Nat}{a d:α}(h:i≠j):(l.set i a).getD j d=l.getD j d:=by rw[gD',List.getElem?_set_ne h,<-gD']
theorem GX.set_p{X:St}(h:GX X){i:Nat}{r:zb9}(hr:PX X r):GX {X with P:=X.P.set i r}:=by
 have key:∀j,j<(X.P.set i r).length->(j<X.P.length)∧((X.P.set i r).getD j zbh=X.p j∨(X.P.set i r).getD j zbh=r):=λj hj=>by
  have hj':j<X.P.length:=by simpa using hj
  refine⟨hj',?_⟩;by_cases e:i=j
  ·subst e;exact .inr (zah hj')
  ·exact .inl (zav e)
 have kk:∀j,j<(X.P.set i r).length->PX X ((X.P.set i r).getD j zbh):=λj hj=>by
  obtain⟨h1,h2|h2⟩:=key j hj
  ·rw[h2];exact h.px h1
  ·rw[h2];exact hr
 exact⟨h.lp,h.pr,h.fr,h.cp,h.co,h.nx,λj hj=>(kk j hj).pg,λj hj=>(kk j hj).fd,λj hj=>(kk j hj).pp,λj hj=>(kk j hj).fc,λj hj c hc=>by have:=(kk j hj).fp c hc;show c<(X.P.set i r).length;rw[sL];exact this,h.gc,h.cb,h.xp,h.ib⟩
theorem PX.w{X:St}{r r':zb9}(h:PX X r)(e1:r'.pages=r.pages)(e2:r'.fds=r.fds)(e3:r'.pipe=r.pipe∨r'.pipe=none)(e4:r'.fut=r.fut∨r'.fut=⟨none,none,0#32⟩):PX X r':=by
 refine⟨by rw[e1];exact h.pg,by rw[e2];exact h.fd,λq hq=>?_,λc hc=>?_,λc hc=>?_⟩
 ·rcases e3 with e|e
  ·exact h.pp q (e▸hq)
  ·rw[e] at hq;cases hq
 ·rcases e4 with e|e
  ·exact h.fc c (e▸hc)
  ·rw[e] at hc;cases hc
 ·rcases e4 with e|e
  ·exact h.fp c (e▸hc)
  ·rw[e] at hc;cases hc
section
variable{X:St}{i:Nat}
theorem GX.see(h:GX X){k c:Int}{v:BitVec 32}:GX (zfR X i k c v):=⟨h.lp,h.pr,h.fr,h.cp,h.co,h.nx,h.pg,h.fd,h.pp,h.fc,h.fp,h.gc,h.cb,h.xp,h.ib⟩
theorem GX.told(h:GX X):GX (zkl X):=⟨h.lp,h.pr,h.fr,h.cp,h.co,h.nx,h.pg,h.fd,h.pp,h.fc,h.fp,h.gc,h.cb,h.xp,h.ib⟩
theorem GX.answer(h:GX X)(hi:i<X.P.length){v:BitVec 32}:GX (zar X i v):=(h.set_p (i:=i) (r:={X.p i with cpu:={(X.p i).cpu with r:=(X.p i).cpu.r.set 0 v,pc:=(X.p i).cpu.pc+4#32}}) ((h.px hi).w rfl rfl (.inl rfl) (.inl rfl))).see
theorem GX.set_fut(h:GX X){l:List Nat}:GX {X with fut:=l}:=⟨h.lp,h.pr,h.fr,h.cp,h.co,h.nx,h.pg,h.fd,h.pp,h.fc,h.fp,h.gc,h.cb,h.xp,h.ib⟩
theorem GX.ready(h:GX X)(hi:i<X.P.length):GX (zaI X i):=(h.set_p (i:=i) (r:=zfG (X.p i)) ((h.px hi).w rfl rfl (.inr rfl) (.inr rfl))).set_fut
end
section
variable{m m' M mr:Mem}{n:Nat}{L L' L1 L2:Loc}{X X' X1 X2:St}{v:Value}{fl:List Value}{pid:Int}
theorem zDD{P:Program}{ty:TypeId}{x y:Operand}{p:Addr}(h:ptT P ty=true):eqA P .eql ty x y (.pointer none) (.pointer (some p)) m=some (.bool false):=by obtain⟨e,k,hu,_⟩:=zhH h;unfold eqA;simp[hu,plain,zaP]
theorem zad.put{b:Nat}{o:zaS}(h:zad m)(hb:b<m.next):zad (m.put b o):=zad.of_low (by rw[nP];exact h.n64) λy hy=>by rw[nP] at hy;rw[gP,if_neg (by omega)];exact h.none y hy
theorem Be.of_bump{k:Nat}(h:Be (m.bump k) L X m'):Be m L X m':=by obtain⟨L2,h1,h2,h3⟩:=h;have n1:=h3.next;rw[bN] at n1;exact⟨L2,h1,⟨h2.f,h2.P,h2.G,h2.C,h2.I,h2.F,λy hy=>(h2.D y hy).imp id λe=>by rw[bN] at e;omega⟩,by omega,h3.fresh,λy hy hy2=>h3.old y nO hy2,λy hy e=>h3.low y nO e⟩
theorem Lx.cast{a b:Nat}(h:Lx a L L')(e:a=b):Lx b L L':=e▸h
theorem Be.old(h:Be m L X m'){y:Nat}(hy:y<m.next)(hD:¬L.D y):m'.get y=m.get y:=by obtain⟨L2,h1,h2,h3⟩:=h;exact h3.old y hy hD
theorem Be.next(h:Be m L X m'):m.next<=m'.next:=by obtain⟨L2,h1,h2,h3⟩:=h;exact h3.next
theorem Be.fresh(h:Be m L X m'):zad m':=by obtain⟨L2,h1,h2,h3⟩:=h;exact h3.fresh
theorem Be.grow_b{j k:Nat}(h:Be (m.bump k) L X m')(hj:j<=k):Grow (m.bump j) m':=by obtain⟨L2,h1,h2,h3⟩:=h;have n1:=h3.next;rw[bN] at n1;exact⟨by rw[bN];omega,λy hy e=>h3.low y (by rw[bN] at hy⊢;omega) e⟩
theorem Be.loop{lp:Nat}{o o1:zaS}(hl:M.get lp=some o)(hlt:lp<M.next)(hD:¬L.D lp)(hB:Be (M.put lp o1) L X m'):Be M L X (m'.put lp o):=by
 obtain⟨L2,h1,h2,h3⟩:=hB;have n1:=h3.next;rw[nP] at n1;have h2':Lx M.next L L2:=h2.cast (nP ..);refine⟨L2,h1.new (λe=>(h2'.D _ e).elim hD (λe=>by omega)),h2',by rw[nP];exact n1,zad.of_low (by rw[nP];exact h3.fresh.n64) (λy hy=>?_),λy hy hy2=>?_,λy hy e=>?_⟩
 ·rw[nP] at hy;rw[gP,if_neg (by omega)];exact h3.fresh.none y hy
 ·rw[gP];split
  ·rename_i e;rw[e,hl]
  ·rename_i e;rw[h3.old y (by rw[nP];exact hy) hy2,gP,if_neg e]
 ·have hne:¬y=lp:=λe2=>by rw[e2,hl] at e;cases e
  rw[gP,if_neg hne];exact h3.low y (by rw[nP];exact hy) (by rw[gP,if_neg hne];exact e)
theorem Be.of_loop{o:zaS}(hA:FAt M L X1)(hB:Be ((M.put M.next o).bump 1) L X m'):m'.get M.next=some o∧∀o2,Be M L X (m'.put M.next o2):=by
 obtain⟨L2,h1,h2,h3⟩:=hB;have n1:=h3.next;simp only[bN,nP] at n1;have hD:¬L.D M.next:=λe=>by have:=hA.lt _ e;omega
 refine⟨by rw[h3.old _ nO hD];(simp only[gB,gP];repeat(first|rw[if_neg (by omega)]|rw[if_pos trivial]|rw[if_pos (by omega)])),λo2=>⟨L2,h1.new (λe=>(h2.D _ e).elim hD (λe=>by simp only[bN,nP] at e;omega)),⟨h2.f,h2.P,h2.G,h2.C,h2.I,h2.F,λy hy=>(h2.D y hy).imp id λe=>by simp only[bN,nP] at e;omega⟩,by rw[nP];omega,zad.of_low (by rw[nP];exact h3.fresh.n64) (λy hy=>?_),λy hy hy2=>?_,λy hy e=>?_⟩⟩
 ·rw[nP] at hy;rw[gP,if_neg (by omega)];exact h3.fresh.none y hy
 ·rw[gP,if_neg (by omega),h3.old y nO hy2]
  (simp only[gB,gP];repeat(first|rw[if_neg (by omega)]|rw[if_pos trivial]|rw[if_pos (by omega)]))
 ·rw[gP,if_neg (by omega)];exact h3.low y nO (by rw[gB,gP,if_neg (by omega)];exact e)
theorem zkB{r:zct}{x1 x2 g z1 z2:Nat}{cap:List Value}(hM:zad M)(hA:FAt M L X)(hg:GX X)(hx1:M.get x1=some (.cells (ofL [PT L.f]) true z1))(hx2:M.get x2=some (.cells (ofL [.func (.func g) #[] cap.toArray]) true z2))(hx:¬L.D x2)(hcg:zab EE.P g=true)
  (hrr:r.state= .ready∧r.pend=none) (F:Nat->St) (hF0:F 0=X)
  (hstep:∀k M' L2,k<X.l.length->zad M'->FAt M' L2 (F k)->Lx M.next L L2->¬L2.D M.next->M.next<M'.next->M'.get M.next=some (.loop r)->(∀y,y<M.next->¬L.D y->M'.get y=M.get y)->
   ∃b,(∀j,Con EE.P g (PT (L.p (X.l.getD k 0))::cap) (M'.bump j) (.bool b) (M'.bump j))∧(b=false->F (k+1)=F k)∧(b=true->∀j,∃u m',zgt EE.P M.next [PT (L.p (X.l.getD k 0))] (M'.bump j) u m'∧u= .bool true∧M'.next+j<=m'.next∧Be M' L2 (F (k+1)) m')):
  ∃u m2,Con EE.P 101 ([]++ [.func (.yield M.next) #[] #[]]++ [PT x1,PT x2]) ((M.put M.next (.loop r)).bump 1) u m2∧(∃r:zct,m2.get M.next=some (.loop r)∧r.state= .ready∧r.pend=none)∧∀o,Be M L (F X.l.length) (m2.put M.next o):=by
 have hmr:zad ((M.put M.next (.loop r)).bump 1):=zad.of_low (by have:=hM.n64;simp only[bN,nP];omega) (Low.bump (Low.put (Low.of hM nO) nO));have hAr:FAt ((M.put M.next (.loop r)).bump 1) L X:=(hA.new' (j:=0)).bump 1;have l1:=hM.lt hx1;have l2:=hM.lt hx2;have hlD:¬L.D M.next:=λe=>by have:=hA.lt _ e;omega
 have hlp:((M.put M.next (.loop r)).bump 1).get M.next=some (.loop r):=gA;obtain⟨u,m2,h1,M1,hn1,hI⟩:=zjy (z1:=z1) (z2:=z2) (lp:=M.next) (x1:=x1) (x2:=x2) (g:=g) (cap:=cap) hmr hAr hg (by rw[gB,gP,if_neg (by omega)];exact hx1) (by rw[gB,gP,if_neg (by omega)];exact hx2) hcg L.D
  (λy hy=>⟨by have:=hA.lt _ hy;simp only[bN,nP];omega,λe=>hx (e▸hy)⟩)
  (λM1 i M2=>Be M1 L (F i) M2) (λM1 hn=>⟨L,by rw[hF0];exact hAr.nx hn,Lx.refl,Fd.refl hn.fresh⟩) (λM1 i M2 j hI=>hI.bump j) (λM1 i M2 hn hI=>by
   obtain⟨L2,a1,a2,a3⟩:=hI;exact⟨a3.next,λy hy hy2=>a3.old y hy hy2,λy hy e=>a3.low y hy e⟩) (λM1 i M2 j hn hi hI=>by
   obtain⟨L2,a1,a2,a3⟩:=hI;have n1:=hn.next;simp only[bN,nP] at n1;have hx2:Lx M.next L L2:=⟨a2.f,a2.P,a2.G,a2.C,a2.I,a2.F,λy hy=>(a2.D y hy).imp id λe=>by omega⟩;have hD2:¬L2.D M.next:=λe=>(a2.D _ e).elim hlD λe=>by omega
   have n2:=a3.next;obtain⟨b,b1,b2,b3⟩:=hstep i M2 L2 hi a3.fresh a1 hx2 hD2 (by omega) (by rw[a3.old _ (by omega) hlD,hn.old _ nO];exact hlp) (λy hy hy2=>by rw[a3.old y (by omega) hy2,hn.old y nO];(simp only[gB,gP];repeat(first|rw[if_neg (by omega)]|rw[if_pos trivial]|rw[if_pos (by omega)])));exact⟨b,b1 _,λe=>by rw[b2 e];exact⟨L2,a1,a2,a3⟩,λe j2=>by obtain⟨u,m',c1,c2,c3,c4⟩:=b3 e j2;exact⟨u,m',c1,c2,c3,bE a2 a3 c4⟩⟩)
 have hB:Be ((M.put M.next (.loop r)).bump 1) L (F X.l.length) m2:=bE Lx.refl (Fd.of_nx hn1) hI;obtain⟨k1,k2⟩:=hB.of_loop hA;exact⟨u,m2,h1,⟨r,k1,hrr.1,hrr.2⟩,k2⟩
def wkB(w:Int)(q:Nat)(X:St)(i:Nat):Bool:=decide ((X.p i).wait=w)&&decide ((X.p i).pipe=some q)
def wakeI(X:St)(w:Int)(q:Nat)(l:List Nat):St:=l.foldl (λY i=>if wkB w q Y i then zaI Y i else Y) X
def zcx(X:St)(w:Int)(q:Nat):St:=wakeI X w q X.l
theorem zis{w:Int}{q k:Nat}(hk:k<X.l.length):wakeI X w q (X.l.take (k+1))=if wkB w q (wakeI X w q (X.l.take k)) (X.l.getD k 0) then zaI (wakeI X w q (X.l.take k)) (X.l.getD k 0) else wakeI X w q (X.l.take k):=by unfold wakeI;rw[zkc hk,List.foldl_append];rfl
theorem zfb{w:Int}{q:Nat}{l:List Nat}:∀{X:St},(wakeI X w q l).P.length=X.P.length∧(wakeI X w q l).fut.length<=X.fut.length∧(wakeI X w q l).I.length=X.I.length∧(wakeI X w q l).l=X.l∧(wakeI X w q l).seen=X.seen:=by
 induction l with
 |nil=>intro X;exact⟨rfl,lR' _,rfl,rfl,rfl⟩
 |cons i l ih=>
  intro X;show(wakeI (if wkB w q X i then zaI X i else X) w q l).P.length=_∧(wakeI (if wkB w q X i then zaI X i else X) w q l).fut.length<=_∧_;obtain⟨h1,h2,h3,h4,h5⟩:=ih (X:=if wkB w q X i then zaI X i else X);split at h1
  ·rename_i hb;simp only[hb,if_true] at h2 h3 h4 h5;refine⟨by simp only[hb,if_true];rw[h1];simp[zaI],?_,?_,?_,?_⟩
   ·simp only[hb,if_true];exact lT h2 (List.length_filter_le _ _)
   ·show(wakeI (if wkB w q X i then zaI X i else X) w q l).I.length=_;simp only[hb,if_true];exact h3
   ·show(wakeI (if wkB w q X i then zaI X i else X) w q l).l=_;simp only[hb,if_true];exact h4
   ·show(wakeI (if wkB w q X i then zaI X i else X) w q l).seen=_;simp only[hb,if_true];exact h5
  ·rename_i hb;have hb':wkB w q X i=false:=eq_false_of_ne_true hb;simp only[hb',bF,if_false] at h2 h3 h4 h5;refine⟨by simp only[hb',bF,if_false];exact h1,?_,?_,?_,?_⟩
   ·simp only[hb',bF,if_false];exact h2
   ·show(wakeI (if wkB w q X i then zaI X i else X) w q l).I.length=_;simp only[hb',bF,if_false];exact h3
   ·show(wakeI (if wkB w q X i then zaI X i else X) w q l).l=_;simp only[hb',bF,if_false];exact h4
   ·show(wakeI (if wkB w q X i then zaI X i else X) w q l).seen=_;simp only[hb',bF,if_false];exact h5
theorem GX.wakeI{w:Int}{q:Nat}{l:List Nat}:∀{X:St},GX X->(∀j∈l,j<X.P.length)->GX (wakeI X w q l):=by
 induction l with
 |nil=>intro X h _;exact h
 |cons i l ih=>
  intro X h hl;show GX (Go.Ab.wakeI (if wkB w q X i then zaI X i else X) w q l);have hi:=hl i List.mem_cons_self;split
  ·exact ih (h.ready hi) λj hj=>by have:=hl j (List.mem_cons_of_mem _ hj);simpa [zaI] using this
  ·exact ih h λj hj=>hl j (List.mem_cons_of_mem _ hj)
theorem zIq(h:FAt m L X){i x1 x2 q z1 z2:Nat}{w:Int}(hi:i<X.P.length)(hq:q<X.I.length)(hp:∀q',(X.p i).pipe=some q'->q'<X.I.length)(hx1:m.get x1=some (.cells (ofL [In w]) true z1))(hx2:m.get x2=some (.cells (ofL [PT (L.i q)]) true z2)):Con EE.P 226 [PT (L.p i),PT x1,PT x2] m (.bool (wkB w q X i)) m:=by
 refine Con.of zai zGd (bA rfl) Grow.rfl λhm=>?_;obtain⟨cs,h1,h2⟩:=h.pr i hi;obtain⟨cq,q1,q2⟩:=h.ip q hq;have he:∀x y J,eqA EE.P .eql 74 x y (pV ((X.p i).pipe.map L.i)) (PT (L.i q)) (m.bump J)=some (.bool (decide ((X.p i).pipe=some q))):=λx y J=>by
  cases hpp:(X.p i).pipe with
  |none=>exact zDD zzI
  |some q'=>
   obtain⟨cr,r1,r2⟩:=h.ip q' (hp q' hpp);have hd:decide (L.i q'=L.i q)=decide (some q'=some q):=by
    by_cases e:q'=q
    ·rw[e];simp
    ·rw[decide_eq_false λe2=>e (h.ij_i (hp q' hpp) hq e2)];exact(decide_eq_false λe2=>e (Option.some.inj e2)).symm
   rw[<-hd];exact zqZ zzI r1 q1
 unfold wkB;cases hd:decide ((X.p i).wait=w) with
 |true=>simp only[XX,XY,zHv,yA,yB,yC,h1,h2.wait,h2.pipe,hx1,hx2,hd,he];exact tP rfl λ_ _=>rfl
 |false=>simp only[XX,XY,zHv,yA,yB,yC,h1,h2.wait,hx1,hd,Bool.false_and];exact tP rfl λ_ _=>rfl
theorem zoc{lp i j:Nat}{v1 v2 v3 v4 v5 v6 v7:Value}(hF:zad M)(hA:FAt M L2 X)(hl:M.get lp=some (.loop {state:= .ready,pend:=none,tmps:=T 13 [(9,v),(8,v1),(7,v2),(5,v3),(4,v4),(0,v5),(1,v6),(2,v7)],ps:=[10],assign:=(kO Tryz.f169.body 5),body:=(kO Tryz.f169.body 6)}))(hD:¬L2.D lp)(hi:i<X.P.length)(hf:X.fut.length<100000):
  ∃u m',zgt EE.P lp [PT (L2.p i)] (M.bump j) u m'∧u= .bool true∧M.next+j<=m'.next∧Be M L2 (zaI X i) m':=by
 have hlt:=hF.lt hl;refine zgt.of zai (by rw[gB];exact hl) rfl rfl ?_;have hne:∀k,¬lp=M.next+k:=λk=>by omega
 simp only[XX,XY,zFf,yA,yB,yC,hl];refine CallI.ex2L (zfP ((hA.new hD).bump _) (hF.put hlt).bump hi hf) (by simp) λu M' hB=>?_;have n3:M.next+(j+3)<=M'.next:=by obtain⟨L3,a1,a2,a3⟩:=hB;have:=a3.next;simpa only[bN,nP] using this
 have hl':=hB.old (y:=lp) nO hD;simp only[gB,gP,if_true] at hl';have n4:M.next+j<=M'.next:=by omega
 have n5:M.next+(j+1)<=M'.next:=by omega
 have n6:M.next+(j+2)<=M'.next:=by omega
 simp only[XX,XY,yA,hl',n4,n5];rw[<-zbp] at hB;have hB2:=Be.loop (M:=M.bump (j+3)) (by rw[gB];exact hl) nO hD hB;exact⟨hB2.grow_b (by omega),hB2.of_bump⟩
theorem zjB(h:FAt m L X)(hm:zad m)(hg:GX X)(hf:X.fut.length<100000){w:Int}{q:Nat}(hq:q<X.I.length):∃u m',Con EE.P 169 [PT L.f,In w,PT (L.i q)] m u m'∧Be m L (zcx X w q) m':=by
 refine Con.raw zai zHm (bA rfl) _ ?_;simp only[XX,XY,zFf,yA,yB,yC];have hN0:Nx m (((m.put m.next (.cells (ofL [In w]) true 0)).put (m.next+1) (.cells (ofL [PT (L.i q)]) true 0)).bump 5):=(nX hm);refine cX (zjF (L:=L) (x:= .func (.func 226) #[] #[PT m.next,PT (m.next+1)]) hN0.fresh rfl) λu M hv=>?_;obtain⟨x1,x2,rfl,x3,x4,x5,x6,x7,hn1⟩:=hv;have hNM:=hN0.trans hn1;have n1:=hn1.next;simp only[bN,nP] at n1 x3 x4;have hA:FAt M L X:=h.nx hNM;have c1:M.get m.next=some (.cells (ofL [In w]) true 0):=by
  rw[hn1.old _ nO]
  (simp only[gB,gP];repeat(first|rw[if_neg (by omega)]|rw[if_pos trivial]|rw[if_pos (by omega)]))
 have c2:M.get (m.next+1)=some (.cells (ofL [PT (L.i q)]) true 0):=by
  rw[hn1.old _ nO]
  (simp only[gB,gP];repeat(first|rw[if_neg (by omega)]|rw[if_pos trivial]|rw[if_pos (by omega)]))
 have n2:m.next<=M.next:=by omega
 simp only[XX,zFf,yA];refine zgS (g:=101) (l':=[]) (R:=λ_ m2=>(∃r:zct,m2.get M.next=some (.loop r)∧r.state= .ready∧r.pend=none)∧∀o,Be M L (zcx X w q) (m2.put M.next o)) [] [PT x1,PT x2] (by omega) (by simp only[zwB,zc4,Nat.reduceLT,Nat.reduceEqDiff,reduceIte]) kr ?_ (λp hp=>by cases hp) (λ_ m2 hI=>?_)
 ·have e0:wakeI X w q (X.l.take 0)=X:=rfl;have ee:zcx X w q=(λk=>wakeI X w q (X.l.take k)) X.l.length:=by simp only[List.take_length];rfl
  rw[ee];refine zkB (g:=226) (cap:=[PT m.next,PT (m.next+1)]) hn1.fresh hA hg x5 x6 (λe=>by have:=h.lt _ e;omega) kr ⟨rfl,rfl⟩ (λk=>wakeI X w q (X.l.take k)) e0 λk M' L2 hk hF' hA' hx' hD' hn' hl' ho'=>?_;obtain⟨p1,p2,p3,p4,p5⟩:=zfb (w:=w) (q:=q) (l:=X.l.take k) (X:=X);have hgk:GX (wakeI X w q (X.l.take k)):=hg.wakeI λj hj=>h.pi j (List.mem_of_mem_take hj);have hi:X.l.getD k 0<(wakeI X w q (X.l.take k)).P.length:=by rw[p1];exact h.lk hk
  have ep:L.p (X.l.getD k 0)=L2.p (X.l.getD k 0):=(hx'.p (by rw[h.lP];exact h.lk hk)).symm;have ei:L.i q=L2.i q:=(hx'.i (by rw[h.lI];exact hq)).symm;refine⟨wkB w q (wakeI X w q (X.l.take k)) (X.l.getD k 0),λj=>?_,λe=>?_,λe j=>?_⟩
  ·rw[ep];have d1:M'.get m.next=some (.cells (ofL [In w]) true 0):=by rw[ho' _ (by omega) (λe=>by have:=h.lt _ e;omega)];exact c1
   have d2:M'.get (m.next+1)=some (.cells (ofL [PT (L2.i q)]) true 0):=by rw[ho' _ (by omega) (λe=>by have:=h.lt _ e;omega),<-ei];exact c2
   exact zIq (hA'.bump j) hi (by rw[p3];exact hq) (λq' hq'=>hgk.pp _ hi q' hq') d1 d2
  ·show wakeI X w q (X.l.take (k+1))=wakeI X w q (X.l.take k);rw[zis hk,e];rfl
  ·show∃u m',zgt EE.P M.next _ _ u m'∧u= .bool true∧_∧Be M' L2 (wakeI X w q (X.l.take (k+1))) m';rw[zis hk,e,ep];exact zoc hF' hA' hl' hD' hi (by omega)
 ·obtain⟨⟨r,q1,q2,q3⟩,q4⟩:=hI;obtain⟨st,pe,tm,ps,sa,bd⟩:=r;simp only at q2 q3;subst q2 q3;refine zb1 q1 ?_;simp only[XX];exact(bE Lx.refl (Fd.of_nx hNM) (q4 _)).raw
end
section
variable{m m' M mr:Mem}{n:Nat}{L L' L1 L2:Loc}{X X' X1 X2:St}{v:Value}{fl:List Value}{pid:Int}
theorem PC.s_pages{r:zb9}{cs:Cells}(h:PC L r cs){k:Nat}(hk:k<64){x:Option Nat}:PC L {r with pages:=r.pages.set k x} (cs.write (61+k) [pV (x.map L.g)]):=h.w1_pages hk (by rw[List.map_set])
theorem PC.s_fds{r:zb9}{cs:Cells}(h:PC L r cs){k:Nat}(hk:k<8){x:Option Nat}:PC L {r with fds:=r.fds.set k x} (cs.write (52+k) [pV (x.map L.x)]):=h.w1_fds hk (by rw[List.map_set])
theorem Be.same(h:FAt m L X)(hm:zad m)(j:Nat):Be m L X (m.bump j):=⟨L,h.bump j,Lx.refl,(Fd.refl hm).bump j⟩
theorem Be.mk'{j:Nat}(h:FAt M L X)(hp:Pu L.D m M 0)(hm:zad m):Be m L X (M.bump j):=⟨L,h.bump j,Lx.refl,hp.fd hm (Nat.zero_le _)⟩
theorem zcY.and_eq{u:Value}{R:Value->Mem->Prop}(h:zcY m m' u R):zcY m m' u λw M=>w=u∧R w M:=⟨h.1,rfl,h.2⟩
theorem zcY.fin{u:Value}{Y:St}(e:Y=X)(h:Be m L X m'):zcY m m' u λ_ m'=>Be m L Y m':=by rw[e];exact h.raw
theorem FAt.s_contents(h:FAt m L X){cf:Cells}(e:m.get L.f=some (.cells cf true 0)){x:Int}:FAt (m.put L.f (.cells (cf.write 7 [In x]) true 0)) L {X with contents:=x}:=by obtain⟨c,h1,h2⟩:=h.fl;rw[e] at h1;cases h1;exact h.put_f h2.w_contents ⟨rfl,rfl,rfl,rfl,rfl,rfl,rfl,rfl⟩
theorem FAt.s_files(h:FAt m L X){cf:Cells}(e:m.get L.f=some (.cells cf true 0)){x:Int}:FAt (m.put L.f (.cells (cf.write 8 [In x]) true 0)) L {X with files:=x}:=by obtain⟨c,h1,h2⟩:=h.fl;rw[e] at h1;cases h1;exact h.put_f h2.w_files ⟨rfl,rfl,rfl,rfl,rfl,rfl,rfl,rfl⟩
theorem FAt.s_pipes(h:FAt m L X){cf:Cells}(e:m.get L.f=some (.cells cf true 0)){x:Int}:FAt (m.put L.f (.cells (cf.write 9 [In x]) true 0)) L {X with pipes:=x}:=by obtain⟨c,h1,h2⟩:=h.fl;rw[e] at h1;cases h1;exact h.put_f h2.w_pipes ⟨rfl,rfl,rfl,rfl,rfl,rfl,rfl,rfl⟩
theorem FAt.s_next(h:FAt m L X){cf:Cells}(e:m.get L.f=some (.cells cf true 0)){x:Int}:FAt (m.put L.f (.cells (cf.write 10 [In x]) true 0)) L {X with next:=x}:=by obtain⟨c,h1,h2⟩:=h.fl;rw[e] at h1;cases h1;exact h.put_f h2.w_next ⟨rfl,rfl,rfl,rfl,rfl,rfl,rfl,rfl⟩
theorem FAt.s_halted(h:FAt m L X){cf:Cells}(e:m.get L.f=some (.cells cf true 0)){x:Bool}:FAt (m.put L.f (.cells (cf.write 11 [.bool x]) true 0)) L {X with halted:=x}:=by obtain⟨c,h1,h2⟩:=h.fl;rw[e] at h1;cases h1;exact h.put_f h2.w_halted ⟨rfl,rfl,rfl,rfl,rfl,rfl,rfl,rfl⟩
def zbZ(p:zb9)(a n:Nat)(b:Bool):Bool:=if n<1∨64<n∨64<=a∨64<a+n then false else(List.range n).all λj=>(p.pages.getD (a+j) none).isSome==b
theorem nb4{x y:Operand}{a b:Bool}:eqA EE.P .neq 4 x y (.bool a) (.bool b) m=some (.bool (a !=b)):=by cases a<;>cases b<;>kernel_rfl
theorem zwf{o:Option Nat}{f:Nat->Nat}{x y:Operand}:eqA EE.P .neq 80 x y (pV (o.map f)) (.pointer none) m=some (.bool o.isSome):=by
 cases o with
 |none=>exact zoz x y m
 |some g=>exact zm1 zpD
theorem ziI(h:FAt m L X)(hg:GX X){i:Nat}(hi:i<X.P.length){a n:BitVec 32}{b:Bool}:Con EE.P 52 [PT (L.p i),Um a,Um n, .bool b] m (.bool (zbZ (X.p i) a.toNat n.toNat b)) m:=by
 refine Con.of zai zIK (bA rfl) Grow.rfl λhm=>?_;obtain⟨cs,h1,h2⟩:=h.pr i hi;have hla:=a.isLt;have hln:=n.isLt;unfold zbZ;by_cases g1:n.toNat<1
 ·have d1:decide ((n.toNat:Int)<1)=true:=decide_eq_true (by omega);rw[if_pos (.inl g1)];simp only[XX,XY,F52,yA,yB,yC,d1];exact tP rfl λ_ _=>rfl
 have d1:decide ((n.toNat:Int)<1)=false:=decide_eq_false (by omega);by_cases g2:64<n.toNat
 ·have d2:decide ((64:Int)<(n.toNat:Int))=true:=decide_eq_true (by omega);rw[if_pos (.inr (.inl g2))];simp only[XX,XY,F52,yA,yB,yC,d1,d2];exact tP rfl λ_ _=>rfl
 have d2:decide ((64:Int)<(n.toNat:Int))=false:=decide_eq_false (by omega);by_cases g3:64<=a.toNat
 ·have d3:decide ((64:Int)<=(a.toNat:Int))=true:=decide_eq_true (by omega);rw[if_pos (.inr (.inr (.inl g3)))];simp only[XX,XY,F52,yA,yB,yC,d1,d2,d3];exact tP rfl λ_ _=>rfl
 have d3:decide ((64:Int)<=(a.toNat:Int))=false:=decide_eq_false (by omega);have hw:IntKind.u32.wrap (64-(a.toNat:Int))=64-(a.toNat:Int):=by rw[za4];omega
 by_cases g4:64<a.toNat+n.toNat
 ·have d4:decide (64-(a.toNat:Int)<(n.toNat:Int))=true:=decide_eq_true (by omega);rw[if_pos (.inr (.inr (.inr g4)))];simp only[XX,XY,F52,yA,yB,yC,d1,d2,d3,hw,d4];exact tP rfl λ_ _=>rfl
 have d4:decide (64-(a.toNat:Int)<(n.toNat:Int))=false:=decide_eq_false (by omega);rw[if_neg (by omega)];have hw2:IntKind.u32.wrap ((a.toNat:Int)+(n.toNat:Int))=((a.toNat+n.toNat:Nat):Int):=by rw[za4];omega
 simp only[XX,XY,F52,yA,yB,yC,d1,d2,d3,hw,d4];refine WX.loop_of (λk tt M=>∃j q:Nat,j<=n.toNat∧k=n.toNat-j∧tt=T 43 [(9, .int .u32 ((a.toNat+j:Nat):Int)),(0,PT (L.p i)),(1,Um a),(2,Um n),(3, .bool b)]∧M=m.bump q∧(∀k,k<j->((X.p i).pages.getD (a.toNat+k) none).isSome=b)) ?_ (k:=n.toNat) (t1:=T 43 [(9, .int .u32 ((a.toNat+0:Nat):Int)),(0,PT (L.p i)),(1,Um a),(2,Um n),(3, .bool b)]) (vT ⟨rfl,rfl,rfl,rfl,rfl,trivial⟩) ⟨0,_,by omega,rfl,rfl,rfl,λk hk=>by omega⟩;rintro k tt M ⟨j,q,hj,rfl,rfl,rfl,hf⟩;by_cases hj2:j<n.toNat
 ·have g5:(((a.toNat+j:Nat):Int)<((a.toNat+n.toNat:Nat):Int)):=by omega
  have e5:=decide_eq_true g5;have g6:(0:Int)<=((a.toNat+j:Nat):Int):=by omega
  have g7:((a.toNat+j:Nat):Int)<((64:Nat):Int):=by omega
  have hq:=zhb h2 (hg.pg i hi).1 (k:=a.toNat+j) (by omega);have hw3:IntKind.u32.wrap (((a.toNat+j:Nat):Int)+1)=((a.toNat+(j+1):Nat):Int):=by rw[za4];omega
  cases hs:(((X.p i).pages.getD (a.toNat+j) none).isSome !=b) with
  |true=>
   have e:((List.range n.toNat).all λj=>((X.p i).pages.getD (a.toNat+j) none).isSome==b)=false:=by rw[List.all_eq_false];exact⟨j,List.mem_range.2 hj2,by simpa using hs⟩
   rw[e];simp only[XX,XY,F52,yA,yB,yC,hw2,e5,g6,g7,h1,hq,zwf,nb4,hs,zbC];exact tP rfl λ_ _=>rfl
  |false=>
   simp only[XX,XY,F52,yA,yB,yC,hw2,e5,g6,g7,h1,hq,zwf,nb4,hs,hw3,zac];exact⟨n.toNat-(j+1),_,_,by omega,vT (l':=[(9, .int .u32 ((a.toNat+(j+1):Nat):Int)),(0,PT (L.p i)),(1,Um a),(2,Um n),(3, .bool b)]) ⟨rfl,rfl,rfl,rfl,rfl,trivial⟩,j+1,_,by omega,rfl,rfl,rfl,λk hk=>(by
    rcases Nat.lt_or_ge k j with h1|h1
    ·exact hf k h1
    ·rw[show k=j by omega];simpa using hs)⟩
 ·have g5:¬(((a.toNat+j:Nat):Int)<((a.toNat+n.toNat:Nat):Int)):=by omega
  have e5:=decide_eq_false g5;have e:((List.range n.toNat).all λj=>((X.p i).pages.getD (a.toNat+j) none).isSome==b)=true:=by rw[List.all_eq_true];intro k hk;have:=hf k (by have:=List.mem_range.1 hk;omega);simpa using this
  rw[e];simp only[XX,XY,F52,yA,yB,yC,hw2,e5,zam];exact tP rfl λ_ _=>rfl
def zbi(X:St)(i k:Nat):St:=match(X.p i).pages.getD k none with
 |none=>X
 |some g=>{X with P:=X.P.set i {X.p i with pages:=(X.p i).pages.set k none},C:=X.C.set (X.g g).c {X.c (X.g g).c with refs:=IntKind.i64.wrap ((X.c (X.g g).c).refs-1)},contents:=if IntKind.i64.wrap ((X.c (X.g g).c).refs-1)=0 then IntKind.i64.wrap (X.contents-1) else X.contents}
theorem znI(h:FAt m L X)(hm:zad m)(hg:GX X){i k:Nat}(hi:i<X.P.length)(hk:k<64):∃u m',Con EE.P 168 [PT (L.p i),In k] m u m'∧Be m L (zbi X i k) m':=by
 refine Con.raw zai zFA (bA rfl) _ ?_;obtain⟨cs,h1,h2⟩:=h.pr i hi;have hq:=zhb h2 (hg.pg i hi).1 hk;have g1:(0:Int)<=(k:Int):=by omega
 have g2:(k:Int)<((64:Nat):Int):=by omega
 cases hp:(X.p i).pages.getD k none with
 |none=>
  rw[hp] at hq;simp only[XX,XY,zGX,yA,yB,yC,h1,g1,g2,hq,pV];have e:zbi X i k=X:=by unfold zbi;rw[hp]
  rw[e];exact(Be.same h hm _).raw
 |some g=>
  rw[hp] at hq;have hgl:=(hg.pg i hi).2 _ _ hp;obtain⟨cg,p1,p2⟩:=h.pg g hgl;have hcl:=hg.gc g hgl;obtain⟨cc,c1,c2⟩:=h.ct _ hcl;obtain⟨cf,f1,f2⟩:=h.fl;have k1:61+(k+1)<=cs.n:=by rw[h2.n];omega
  have k2:64+1<=cc.n:=by rw[c2.n];decide
  have k3:7+1<=cf.n:=by rw[f2.n];decide
  have n1:¬L.g g=L.p i:=λe=>h.p_g hi hgl e.symm;have n2:¬L.c (X.g g).c=L.p i:=λe=>h.p_c hi hcl e.symm;have n3:¬L.g g=L.c (X.g g).c:=h.g_c hgl hcl;have n4:¬L.p i=L.c (X.g g).c:=h.p_c hi hcl;have n5:¬L.f=L.p i:=h.f_p hi;have n6:¬L.f=L.c (X.g g).c:=h.f_c hcl;have hP:=h2.s_pages hk (x:=none);have hA1:=(h.put_p hi hP).put_c hcl (c2.w_refs (x:=IntKind.i64.wrap ((X.c (X.g g).c).refs-1)));have hpf:(cs.write (61+k) [.pointer none]).nth 0=some (PT L.f):=hP.f;have hcr:∀v:Value,(cc.write 64 [v]).nth 64=some v:=λv=>zak (by rw[c2.n];decide);have hpu:=Pu.own (o:= .cells (cc.write 64 [In (IntKind.i64.wrap ((X.c (X.g g).c).refs-1))]) true 0) h (h.mc hcl) (Pu.own (o:= .cells (cs.write (61+k) [.pointer none]) true 0) h (h.mp hi) (Pu.refl hm (j:=0)));by_cases hz:IntKind.i64.wrap ((X.c (X.g g).c).refs-1)=0
  ·have d1:=decide_eq_true hz;simp only[XX,XY,zGX,yA,yB,yC,h1,g1,g2,hq,pV,p1,p2.c,c1,c2.refs,k1,k2,k3,n1,n2,n3,n4,n5,n6,d1,hcr,f1,f2.contents,hpf];have hA2:=hA1.s_contents (cf:=cf) (x:=IntKind.i64.wrap (X.contents-1)) (by rw[gP,if_neg n6,gP,if_neg n5];exact f1);refine zcY.fin (Y:=zbi X i k) ?_ (Be.mk' hA2 (Pu.own h h.mf hpu) hm);unfold zbi;simp only[hp,hz,if_true]
  ·have d1:=decide_eq_false hz;simp only[XX,XY,zGX,yA,yB,yC,h1,g1,g2,hq,pV,p1,p2.c,c1,c2.refs,k1,k2,n1,n2,n3,d1,hcr];refine zcY.fin (Y:=zbi X i k) ?_ (Be.mk' hA1 hpu hm);unfold zbi;simp only[hp,hz,if_false]
theorem zgo{i k:Nat}:(zbi X i k).P.length=X.P.length∧(zbi X i k).G=X.G∧(zbi X i k).C.length=X.C.length∧(zbi X i k).I=X.I∧(zbi X i k).F=X.F∧(zbi X i k).l=X.l∧(zbi X i k).fut=X.fut∧(zbi X i k).seen=X.seen∧(zbi X i k).next=X.next:=by
 unfold zbi;split
 ·exact⟨rfl,rfl,rfl,rfl,rfl,rfl,rfl,rfl,rfl⟩
 ·exact⟨sL,rfl,sL,rfl,rfl,rfl,rfl,rfl,rfl⟩
theorem zbD{α:Type}{l:List α}{i j:Nat}{a d:α}(hj:j<(l.set i a).length):j<l.length∧((l.set i a).getD j d=l.getD j d∨(l.set i a).getD j d=a):=by
 have hj':j<l.length:=by simpa using hj
 refine⟨hj',?_⟩;by_cases e:i=j
 ·subst e;exact .inr (zah hj')
 ·exact .inl (zav e)
theorem GX.set_c(h:GX X){c:Nat}{r:znq}(hr:r.b.length=64):GX {X with C:=X.C.set c r}:=
 ⟨h.lp,h.pr,h.fr,h.cp,h.co,h.nx,h.pg,h.fd,h.pp,λi hi c' hc'=>by
  show c'<(X.C.set c r).length;rw[sL];exact h.fc i hi c' hc',h.fp,λg hg=>by
  show _<(X.C.set c r).length;rw[sL];exact h.gc g hg,λc' hc'=>by
  obtain⟨h1,h2|h2⟩:=zbD (d:=zfa) hc'
  ·show((X.C.set c r).getD c' zfa).b.length=64;rw[h2];exact h.cb c' h1
  ·show((X.C.set c r).getD c' zfa).b.length=64;rw[h2];exact hr,h.xp,h.ib⟩
theorem GX.set_contents(h:GX X){n:Int}:GX {X with contents:=n}:=⟨h.lp,h.pr,h.fr,h.cp,h.co,h.nx,h.pg,h.fd,h.pp,h.fc,h.fp,h.gc,h.cb,h.xp,h.ib⟩
theorem PX.s_pages{r:zb9}(h:PX X r){k:Nat}{x:Option Nat}(hx:∀g,x=some g->g<X.G.length):PX X {r with pages:=r.pages.set k x}:=
 ⟨⟨by rw[sL];exact h.pg.1,λj g hj=>by
  by_cases hl:j<(r.pages.set k x).length
  ·obtain⟨h1,h2|h2⟩:=zbD (d:=none) hl
   ·exact h.pg.2 j g (h2▸hj)
   ·exact hx g (h2▸hj)
  ·have hj:(r.pages.set k x).getD j none=some g:=hj;rw[gD',List.getElem?_eq_none (by omega)] at hj;cases hj⟩,h.fd,h.pp,h.fc,h.fp⟩
theorem PX.s_fds{r:zb9}(h:PX X r){k:Nat}{x:Option Nat}(hx:∀g,x=some g->g<X.F.length):PX X {r with fds:=r.fds.set k x}:=
 ⟨h.pg,⟨by rw[sL];exact h.fd.1,λj g hj=>by
  by_cases hl:j<(r.fds.set k x).length
  ·obtain⟨h1,h2|h2⟩:=zbD (d:=none) hl
   ·exact h.fd.2 j g (h2▸hj)
   ·exact hx g (h2▸hj)
  ·have hj:(r.fds.set k x).getD j none=some g:=hj;rw[gD',List.getElem?_eq_none (by omega)] at hj;cases hj⟩,h.pp,h.fc,h.fp⟩
theorem GX.unmap(h:GX X){i k:Nat}(hi:i<X.P.length):GX (zbi X i k):=by
 unfold zbi;split
 ·exact h
 ·rename_i g hp;have hgl:=(h.pg i hi).2 _ _ hp;have h1:=h.set_p (i:=i) (r:={X.p i with pages:=(X.p i).pages.set k none}) ((h.px hi).s_pages λg hg=>by cases hg);have h2:=h1.set_c (c:=(X.g g).c) (r:={X.c (X.g g).c with refs:=IntKind.i64.wrap ((X.c (X.g g).c).refs-1)}) (h.cb _ (h.gc g hgl));exact h2.set_contents (n:=if IntKind.i64.wrap ((X.c (X.g g).c).refs-1)=0 then IntKind.i64.wrap (X.contents-1) else X.contents)
def zaY(X:St)(i:Nat)(l:List Nat):St:=l.foldl (λY k=>zbi Y i k) X
theorem zgm{i k:Nat}{l:List Nat}:zaY X i (l++ [k])=zbi (zaY X i l) i k:=by unfold zaY;rw[List.foldl_append];rfl
theorem zcV{i:Nat}{l:List Nat}:∀{X:St},(zaY X i l).P.length=X.P.length∧(zaY X i l).G=X.G∧(zaY X i l).C.length=X.C.length∧(zaY X i l).I=X.I∧(zaY X i l).F=X.F∧(zaY X i l).l=X.l∧(zaY X i l).fut=X.fut∧(zaY X i l).seen=X.seen∧(zaY X i l).next=X.next:=by
 induction l with
 |nil=>intro X;exact⟨rfl,rfl,rfl,rfl,rfl,rfl,rfl,rfl,rfl⟩
 |cons k l ih=>intro X;obtain⟨a1,a2,a3,a4,a5,a6,a7,a8,a9⟩:=ih (X:=zbi X i k);obtain⟨b1,b2,b3,b4,b5,b6,b7,b8,b9⟩:=zgo (X:=X) (i:=i) (k:=k);exact⟨a1.trans b1,a2.trans b2,a3.trans b3,a4.trans b4,a5.trans b5,a6.trans b6,a7.trans b7,a8.trans b8,a9.trans b9⟩
theorem GX.unmaps{i:Nat}{l:List Nat}:∀{X:St},GX X->i<X.P.length->GX (zaY X i l):=by
 induction l with
 |nil=>intro X h _;exact h
 |cons k l ih=>intro X h hi;exact ih (h.unmap hi) (by rw[(zgo (X:=X) (i:=i) (k:=k)).1];exact hi)
def zei(X:St)(i:Nat):St:=zaY X i (List.range 64)
theorem zlF(h:FAt m L X)(hm:zad m)(hg:GX X){i:Nat}(hi:i<X.P.length):∃u m',Con EE.P 121 [PT (L.p i)] m u m'∧Be m L (zei X i) m':=by
 refine Con.raw zai zFr (bA rfl) _ ?_;simp only[XX,XY,zD5,yA];refine WX.loop_of (λk tt M=>∃j:Nat,j<=64∧k=64-j∧tt=T 10 [(3,In j),(0,PT (L.p i))]∧Be m L (zaY X i (List.range j)) M) ?_ (k:=64) (t1:=T 10 [(3,In (0:Nat)),(0,PT (L.p i))]) (vT ⟨rfl,rfl,trivial⟩) ⟨0,by omega,rfl,rfl,Be.same h hm _⟩;rintro k tt M ⟨j,hj,rfl,rfl,hB⟩;have nx:=hB.next;by_cases hj2:j<64
 ·have g1:(j:Int)<64:=by omega
  have hw:IntKind.i64.wrap ((j:Int)+1)=((j+1:Nat):Int):=by rw[zae (by omega) (by omega)];omega
  simp only[XX,XY,zD5,yA,yB,yC,g1,nx,lA];obtain⟨L1,a1,a2,a3⟩:=hB;have ep:L.p i=L1.p i:=(a2.p (by rw[h.lP];exact hi)).symm;have hi1:i<(zaY X i (List.range j)).P.length:=by rw[zcV.1];exact hi
  rw[ep];refine cX (znI (a1.bump _) a3.fresh.bump (hg.unmaps hi) hi1 hj2) λu M' hB'=>?_;have nx':=hB'.of_bump.next;have n2:m.next<=M'.next:=by omega
  simp only[XX,XY,zD5,yA,yB,yC,n2,hw,zac];refine⟨64-(j+1),_,_,by omega,vT (l':=[(3,In ((j+1:Nat):Int)),(0,PT (L1.p i))]) ⟨rfl,rfl,trivial⟩,j+1,by omega,rfl,rfl,?_⟩;rw[List.range_succ,zgm];exact Be.bump (bE a2 a3 hB'.of_bump) _
 ·obtain rfl:j=64:=by omega
  have g1:¬((64:Nat):Int)<64:=by omega
  simp only[XX,XY,zD5,yA,yB,yE,g1,nx,zam];exact(hB.bump _).raw
def zaX(X:St)(i a n:Nat):St×Int:=if zbZ (X.p i) a n true then(zaY X i ((List.range n).map (a+·)),0) else(X,22)
theorem ziy{p:zb9}{a n:Nat}{b:Bool}(h:zbZ p a n b=true):1<=n∧a+n<=64:=by
 unfold zbZ at h;split at h
 ·cases h
 ·omega
theorem zjd(h:FAt m L X)(hm:zad m)(hg:GX X){i:Nat}(hi:i<X.P.length){a n:BitVec 32}:∃u m',Con EE.P 191 [PT (L.p i),Um a,Um n] m u m'∧u=In (zaX X i a.toNat n.toNat).2∧Be m L (zaX X i a.toNat n.toNat).1 m':=by
 refine Con.raw zai zFn (bA rfl) _ ?_;simp only[XX,XY,zAa,yA,yB,yC];refine cZ (ziI (h.bump _) hg hi) ?_;unfold zaX;cases hs:zbZ (X.p i) a.toNat n.toNat true with
 |false=>simp only[XX,XY,zAa,yA,yB,yC];exact(Be.same h hm _).raw.and_eq
 |true=>
  have hl:=ziy hs;have hw2:IntKind.u32.wrap ((a.toNat:Int)+(n.toNat:Int))=((a.toNat+n.toNat:Nat):Int):=by rw[za4];omega
  simp only[XX,XY,zAa,yA,yB,yC];refine WX.loop_of (λk tt M=>∃j:Nat,j<=n.toNat∧k=n.toNat-j∧tt=T 25 [(7, .int .u32 ((a.toNat+j:Nat):Int)),(0,PT (L.p i)),(1,Um a),(2,Um n)]∧Be m L (zaY X i ((List.range j).map (a.toNat+·))) M) ?_ (k:=n.toNat) (t1:=T 25 [(7, .int .u32 ((a.toNat+0:Nat):Int)),(0,PT (L.p i)),(1,Um a),(2,Um n)]) (vT ⟨rfl,rfl,rfl,rfl,trivial⟩) ⟨0,by omega,rfl,rfl,Be.same h hm _⟩;rintro k tt M ⟨j,hj,rfl,rfl,hB⟩;have nx:=hB.next;by_cases hj2:j<n.toNat
  ·have g5:(((a.toNat+j:Nat):Int)<((a.toNat+n.toNat:Nat):Int)):=by omega
   have e5:=decide_eq_true g5;have hcv:∀M,zbU EE.P 36 3 (.int .u32 ((a.toNat+j:Nat):Int)) M=some (In ((a.toNat+j:Nat):Int)):=λM=>by rw[zdV zaQ zaJ,zae (by omega) (by omega)]
   have hw3:IntKind.u32.wrap (((a.toNat+j:Nat):Int)+1)=((a.toNat+(j+1):Nat):Int):=by rw[za4];omega
   simp only[XX,XY,zAa,yA,yB,yC,hw2,e5,hcv,nx,lA];obtain⟨L1,a1,a2,a3⟩:=hB;have ep:L.p i=L1.p i:=(a2.p (by rw[h.lP];exact hi)).symm;have hi1:i<(zaY X i ((List.range j).map (a.toNat+·))).P.length:=by rw[zcV.1];exact hi
   rw[ep];refine cX (znI (a1.bump _) a3.fresh.bump (hg.unmaps hi) hi1 (k:=a.toNat+j) (by omega)) λu M' hB'=>?_;have nx':=hB'.of_bump.next;have n2:m.next<=M'.next:=by omega
   simp only[XX,XY,zAa,yA,yB,yC,n2,hw3,zac];refine⟨n.toNat-(j+1),_,_,by omega,vT (l':=[(7, .int .u32 ((a.toNat+(j+1):Nat):Int)),(0,PT (L1.p i)),(1,Um a),(2,Um n)]) ⟨rfl,rfl,rfl,rfl,trivial⟩,j+1,by omega,rfl,rfl,?_⟩;rw[List.range_succ,List.map_append];show Be m L (zaY X i ((List.range j).map (a.toNat+·)++ [a.toNat+j])) _;rw[zgm];exact Be.bump (bE a2 a3 hB'.of_bump) _
  ·obtain rfl:j=n.toNat:=by omega
   have g5:¬(((a.toNat+n.toNat:Nat):Int)<((a.toNat+n.toNat:Nat):Int)):=by omega
   have e5:=decide_eq_false g5;simp only[XX,XY,zAa,yA,yB,yC,hw2,e5,nx,zam,lA];exact(hB.bump _).raw.and_eq
def zbs(X:St)(pid:Int):St:=match zbO X pid with
 |some i=>if(X.p i).wait=1 then zaI X i else X
 |none=>X
theorem zjn(h:FAt m L X)(hm:zad m)(hg:GX X)(hf:X.fut.length<100000):∃u m',Con EE.P 124 [PT L.f,In pid] m u m'∧Be m L (zbs X pid) m':=by
 refine Con.raw zai zE1 (bA rfl) _ ?_;simp only[XX,XY,zD4,yA,yB,yC];refine cZ (zf6 (h.bump _) hg) ?_;cases hl:zbO X pid with
 |none=>simp only[XX,XY,zD4,yA,yB,yC,pV];exact zcY.fin (by unfold zbs;rw[hl]) (Be.same h hm _)
 |some i=>
  obtain⟨hi,_,_⟩:=zeK h hl;obtain⟨cs,h1,h2⟩:=h.pr i hi;by_cases hw:(X.p i).wait=1
  ·have d1:=decide_eq_true hw;simp only[XX,XY,zD4,yA,yB,yC,pV,h1,h2.wait,hw];refine cX (zfP (h.bump _) hm.bump hi hf) λu M' hB'=>?_;have hB2:=hB'.of_bump;have nx:=hB2.next;simp only[XX,yA];exact zcY.fin (by unfold zbs;simp only[hl,hw,if_true]) hB2
  ·have d1:=decide_eq_false hw;simp only[XX,XY,zD4,yA,yB,yC,pV,h1,h2.wait,d1];exact zcY.fin (by unfold zbs;simp only[hl,hw,if_false]) (Be.same h hm _)
end
section
variable{s:Sg}{m:Mem}
theorem za6(h:s.h.length=16):(sgL s).length=19:=by simp[sgL,h]
theorem zuQ{k:Nat}:(sgL s).all (zaP k)=true:=by unfold sgL;rw[List.all_append,List.all_append,List.all_map,bT,bT];refine⟨⟨?_,List.all_eq_true.2 λx _=>?_⟩,?_⟩<;>(try cases k)<;>rfl
theorem zbv:(sgL s).all oneCell=true:=by unfold sgL;rw[List.all_append,List.all_append,List.all_map,bT,bT];exact⟨⟨rfl,List.all_eq_true.2 λx _=>rfl⟩,rfl⟩
theorem zEY:(sgL s)[0]? =some (Um s.pend):=rfl
theorem zG4:(sgL s)[1]? =some (Um s.mask):=rfl
theorem zBw(h:s.h.length=16){k:Nat}(hk:k<16):(sgL s)[2+k]? =some (Um (s.h.getD k 0#32)):=by
 unfold sgL;rw[aA,aC' (by simp),aB' (by simp;omega),gM',gD'];have:2+k- [Um s.pend,Um s.mask].length=k:=by simp
 rw[this,gE' (by omega)];rfl
theorem zHI(h:s.h.length=16):(sgL s)[18]? =some (.bool s.busy):=by unfold sgL;rw[aC' (by simp[h])];simp[h]
theorem zGx{x:BitVec 32}:(sgL s).set 0 (Um x)=sgL {s with pend:=x}:=rfl
theorem zGU{x:BitVec 32}:(sgL s).set 1 (Um x)=sgL {s with mask:=x}:=rfl
theorem zFL(h:s.h.length=16){k:Nat}{x:BitVec 32}(hk:k<16):(sgL s).set (2+k) (Um x)=sgL {s with h:=s.h.set k x}:=by
 unfold sgL;rw[aA,List.set_append_right _ _ (by simp)];have:2+k- [Um s.pend,Um s.mask].length=k:=by simp
 rw[this,List.set_append_left _ _ (by simp;omega),aA];show _++((s.h.map Um).set k (Um x)++_)=_++((s.h.set k x).map Um++_);rw[List.map_set]
theorem zAq(h:s.h.length=16){x:Bool}:(sgL s).set 18 (.bool x)=sgL {s with busy:=x}:=by unfold sgL;rw[List.set_append_right _ _ (by simp[h])];simp[h]
theorem zfK(h:s.h.length=16):(ofL (sgL s)).sub 0 19=some (sgL s):=by rw[zbN (by rw[za6 h];decide),List.drop_zero,List.take_of_length_le (by rw[za6 h];decide)]
theorem zCu{k:Nat}{v:Value}(h:s.h.length=16)(hk:k<19):((ofL (sgL s)).write k [v]).sub 0 19=some ((sgL s).set k v):=by have:=zaU (v:=v) (zfK h) hk;rwa[Nat.zero_add] at this
theorem zEv(h:s.h.length=16):(ofL (sgL s)).n=19:=by rw[zbW,za6 h]
theorem zes{t:Sg}(ht:t.h.length=16){c:Cells}(hc:c.n=19):(c.write 0 (sgL t)).sub 0 19=some (sgL t):=zay (za6 ht) (by rw[hc];decide)
abbrev SgV(s:Sg):Value:= .agg (sgL s).toArray
theorem zGJ:plain (SgV s)=true:=zuQ (k:=5)
theorem zAb{e:Int}:plain (.tuple #[SgV s,In e])=true:=by show((sgL s).all (zaP 4)&&(true&&true))=true;rw[zuQ];rfl
theorem zz3{x:BitVec 32}{e:Int}:plain (.tuple #[Um x,SgV s,In e])=true:=by show(true&&((sgL s).all (zaP 4)&&(true&&true)))=true;rw[zuQ];rfl
theorem zGa{a e:Int}:plain (.tuple #[In a,In e,SgV s])=true:=by show(true&&(true&&((sgL s).all (zaP 4)&&true)))=true;rw[zuQ];rfl
end
section
variable{P:Program}{ty:TypeId}{a b:BitVec 32}
theorem zer:zcG P .andNot ty (Um a) (Um b)=some (Um (a&&& ~~~b)):=(zg7 (P:=P) (ds:=[]) (t:=ty) (x:=U a) (y:=U b) (v:=U (a&&& ~~~b)) rfl rfl rfl rfl).2
theorem zqN:zcG P .andNot ty (Um a) (.int .u32 65534)=some (Um (a&&& ~~~65534#32)):=zer (b:=65534#32)
theorem zBn:zcG P .andNot ty (Um a) (.int .u32 512)=some (Um (a&&& ~~~512#32)):=zer (b:=512#32)
theorem zuy:zcG P .and ty (Um a) (.int .u32 1)=some (Um (a&&&1#32)):=zgi (b:=1#32)
theorem zzs:zcG P .and ty (Um a) (.int .u32 512)=some (Um (a&&&512#32)):=zgi (b:=512#32)
theorem zE5:zcG P .shr ty (Um a) (.int .u64 9)=some (Um (a>>>9)):=zfz (k:=9) (by decide)
theorem zux{k:Int}(hk:0<=k):zcG P .shl ty (.int .u32 1) (.int .i64 k)=some (Um (1#32<<<k.toNat)):=ziu (a:=1#32) hk
end
def zpt(s:Sg):Bool:=decide ((((s.pend|||s.mask)&&& ~~~65534#32).toNat:Int)=0)&&(!decide (((s.mask>>>9&&&1#32).toNat:Int)=1)&&(decide (((s.h.getD 0 0#32).toNat:Int)=0)&&decide (((s.h.getD 9 0#32).toNat:Int)=0)))
section
variable{s:Sg}{m:Mem}{g:Int}{x:BitVec 32}
theorem zg8(h:s.h.length=16):Con EE.P 118 [SgV s] m (In (if zpt s then 0 else 120)) m:=by
 refine Con.of zai zER (bA rfl) Grow.rfl λhm=>?_;have q0:=zBw h (k:=0) (by decide);have q9:=zBw h (k:=9) (by decide);have ho:= @zbv s;have hl:=za6 h;have g0:(0:Int)<=0:=by decide
 have g9:(0:Int)<=9:=by decide
 have k0:(0:Int)<((16:Nat):Int):=by decide
 have k9:(9:Int)<((16:Nat):Int):=by decide
 have t0:Int.toNat 0=0:=rfl;have t9:Int.toNat 9=9:=rfl;cases d1:decide ((((s.pend|||s.mask)&&& ~~~65534#32).toNat:Int)=0)<;>cases d2:decide (((s.mask>>>9&&&1#32).toNat:Int)=1)<;>cases d3:decide (((s.h.getD 0 0#32).toNat:Int)=0)<;>cases d4:decide (((s.h.getD 9 0#32).toNat:Int)=0)
 all_goals
  simp only[XX,XY,zIw,yA,yB,yC,zpt,d1,d2,d3,d4,q0,q9,g0,g9,k0,k9,t0,t9,zEY,zG4,zsh,zqN,zE5,zuy,Bool.and_true,Bool.and_false];exact tP rfl λy hy=>gA
def zvT(g:Int):Bool:=decide (1<=g)&&decide (g<=15)
theorem zHP:Con EE.P 134 [In g] m (.bool (zvT g)) m:=by
 refine Con.of zai zGb (bA rfl) Grow.rfl λhm=>?_;cases d1:decide (1<=g)<;>cases d2:decide (g<=15)
 all_goals
  simp only[XX,XY,zIS,yA,yB,yC,zvT,d1,d2,Bool.and_true,Bool.and_false];exact tP rfl λy hy=>rfl
theorem zmW:zvT g=true↔1<=g∧g<=15:=by unfold zvT;simp
def zcl(s:Sg)(g:Int):Sg×Int:=if zpt s=true∧zvT g=true then({s with pend:=s.pend|||(1#32<<<g.toNat)},0) else(s,120)
theorem zAW(h:s.h.length=16):Con EE.P 85 [SgV s,In g] m (.tuple [SgV (zcl s g).1,In (zcl s g).2].toArray) m:=by
 refine Con.of zai zIp (bA rfl) Grow.rfl λhm=>?_;have ho:= @zbv s;have hl:=za6 h;have hs:=zfK h;have hn:=zEv h;simp only[XX,XY,F85,yA,yB,yC,hs];refine cZ (zg8 h) ?_;have z1:zbT EE.P 73=some (SgV ⟨0#32,0#32,List.replicate 16 0#32,false⟩):=kr;have hz:(ofL (sgL ⟨0#32,0#32,List.replicate 16 0#32,false⟩)).n=19:=rfl;cases ho1:zpt s with
 |false=>
  have e:zcl s g=(s,120):=by unfold zcl;simp[ho1]
  have hw:=zes h (c:=ofL (sgL ⟨0#32,0#32,List.replicate 16 0#32,false⟩)) rfl;rw[e];simp only[XX,XY,F85,yA,yB,yC,yH,ho,hl,hs];exact tP zAb λy hy=>gA
 |true=>
  simp only[XX,XY,F85,yA,yB];refine CallI.con zHP (by simp) ?_;cases ho2:zvT g with
  |false=>
   have e:zcl s g=(s,120):=by unfold zcl;simp[ho2]
   have hw:=zes h (c:=ofL (sgL ⟨0#32,0#32,List.replicate 16 0#32,false⟩)) rfl;rw[e];simp only[XX,XY,F85,yA,yB,yC,ho,hl,hs];exact tP zAb λy hy=>gA
  |true=>
   have e:zcl s g=({s with pend:=s.pend|||(1#32<<<g.toNat)},0):=by unfold zcl;simp[ho1,ho2]
   have hg:=zmW.1 ho2;have b1:=zux (P:=EE.P) (ty:=36) (k:=g) (by omega);have hw0:=zCu (s:=s) (k:=0) (v:=Um (s.pend|||(1#32<<<g.toNat))) h (by decide);rw[zGx] at hw0;have h':({s with pend:=s.pend|||(1#32<<<g.toNat)}:Sg).h.length=16:=h;have ho':= @zbv {s with pend:=s.pend|||(1#32<<<g.toNat)};have hl':=za6 h';have hw:=zes h' (c:=ofL (sgL ⟨0#32,0#32,List.replicate 16 0#32,false⟩)) rfl;have k1:0+1<=(ofL (sgL s)).n:=by rw[hn];decide
   rw[e];simp only[XX,XY,F85,yA,yB,yC,yG,hl,b1,zEY,zsh,hw0,ho',hl'];exact tP zAb λy hy=>gA
def hI(s:Sg)(n:Nat):Int:=((s.h.getD n 0#32).toNat:Int)
def zeF(s:Sg)(n:Nat):Int:=if decide ((n:Int)=9)||(decide (hI s n=0)&& !decide ((n:Int)=12)) then 1 else if decide (hI s n=0)||decide (hI s n=1) then 0 else 2
theorem zwd(h:s.h.length=16){n:Nat}(hn:n<16):Con EE.P 120 [SgV s,In n] m (In (zeF s n)) m:=by
 refine Con.of zai zFu (bA rfl) Grow.rfl λhm=>?_;have ho:= @zbv s;have hl:=za6 h;have q:(sgL s)[2+n]? =some (.int .u32 (hI s n)):=zBw h hn;have g0:(0:Int)<=(n:Int):=by omega
 have k0:(n:Int)<((16:Nat):Int):=by omega
 unfold zeF;cases d1:decide ((n:Int)=9)<;>cases d2:decide (hI s n=0)<;>cases d3:decide ((n:Int)=12)<;>cases d4:decide (hI s n=1)
 all_goals
  simp only[XX,XY,zIU,yA,yB,yC,q,g0,k0,d1,d2,d3,d4,Bool.and_true,Bool.and_false,Bool.or_true,Bool.or_false];exact tP rfl λy hy=>gA
abbrev sg0:Sg:=⟨0#32,0#32,List.replicate 16 0#32,false⟩
def zcF(s:Sg)(x:BitVec 32):BitVec 32×Sg×Int:=if zpt s=true∧((x&&& ~~~65534#32).toNat:Int)=0 then(s.mask,{s with mask:=x&&& ~~~512#32},0) else(0#32,s,120)
theorem zBf(h:s.h.length=16):Con EE.P 183 [SgV s,Um x] m (.tuple [Um (zcF s x).1,SgV (zcF s x).2.1,In (zcF s x).2.2].toArray) m:=by
 refine Con.of zai zGV (bA rfl) Grow.rfl λhm=>?_;have ho:= @zbv s;have hl:=za6 h;have hs:=zfK h;have hn:=zEv h;have hw:=zes h (c:=ofL (sgL sg0)) rfl;have u0:(.int .u32 0:Value)=Um 0#32:=rfl;simp only[XX,XY,zD1,yA,yB,yC,hs];refine cZ (zg8 h) ?_;cases ho1:zpt s with
 |false=>
  have e:zcF s x=(0#32,s,120):=by unfold zcF;simp[ho1]
  rw[e];simp only[XX,XY,zD1,yA,yB,yC,yH,ho,hl,hs,u0];exact tP zz3 λy hy=>gA
 |true=>
  by_cases hx:((x&&& ~~~65534#32).toNat:Int)=0
  ·have d1:decide (((x&&& ~~~65534#32).toNat:Int)=((0#32:BitVec 32).toNat:Int))=true:=decide_eq_true hx;have e:zcF s x=(s.mask,{s with mask:=x&&& ~~~512#32},0):=by unfold zcF;rw[if_pos ⟨ho1,hx⟩]
   have hw0:=zCu (s:=s) (k:=1) (v:=Um (x&&& ~~~512#32)) h (by decide);rw[zGU] at hw0;have h':({s with mask:=x&&& ~~~512#32}:Sg).h.length=16:=h;have ho':= @zbv {s with mask:=x&&& ~~~512#32};have hl':=za6 h';have hw':=zes h' (c:=ofL (sgL sg0)) rfl;have k1:1+1<=(ofL (sgL s)).n:=by rw[hn];decide
   rw[e];simp only[XX,XY,zD1,yA,yB,yC,yG,hl,d1,zqN,zBn,zG4,hw0,ho',hl',u0];exact tP zz3 λy hy=>gA
  ·have d1:decide (((x&&& ~~~65534#32).toNat:Int)=((0#32:BitVec 32).toNat:Int))=false:=decide_eq_false hx;have e:zcF s x=(0#32,s,120):=by unfold zcF;rw[if_neg λh=>hx h.2]
   rw[e];simp only[XX,XY,zD1,yA,yB,yC,ho,hl,hs,d1,zqN,u0];exact tP zz3 λy hy=>gA
def zci(s:Sg)(g:Int)(x:BitVec 32):BitVec 32×Sg×Int:=if zpt s=true∧zvT g=true∧g≠9 then(s.h.getD g.toNat 0#32,{s with h:=s.h.set g.toNat x},0) else(0#32,s,120)
theorem zDU(h:s.h.length=16):Con EE.P 185 [SgV s,In g,Um x] m (.tuple [Um (zci s g x).1,SgV (zci s g x).2.1,In (zci s g x).2.2].toArray) m:=by
 refine Con.of zai zGi (bA rfl) Grow.rfl λhm=>?_;have ho:= @zbv s;have hl:=za6 h;have hs:=zfK h;have hn:=zEv h;have hw:=zes h (c:=ofL (sgL sg0)) rfl;have u0:(.int .u32 0:Value)=Um 0#32:=rfl;simp only[XX,XY,zAd,yA,yB,yC,hs];refine cZ (zg8 h) ?_;cases ho1:zpt s with
 |false=>
  have e:zci s g x=(0#32,s,120):=by unfold zci;simp[ho1]
  rw[e];simp only[XX,XY,zAd,yA,yB,yC,yH,ho,hl,hs,u0];exact tP zz3 λy hy=>gA
 |true=>
  simp only[XX,XY,zAd,yA,yB];refine CallI.con zHP (by simp) ?_;cases ho2:zvT g with
  |false=>
   have e:zci s g x=(0#32,s,120):=by unfold zci;simp[ho2]
   rw[e];simp only[XX,XY,zAd,yA,yB,yC,ho,hl,hs,u0];exact tP zz3 λy hy=>gA
  |true=>
   by_cases h9:g=9
   ·have d9:=decide_eq_true h9;have e:zci s g x=(0#32,s,120):=by unfold zci;rw[if_neg λh=>h.2.2 h9]
    rw[e];simp only[XX,XY,zAd,yA,yB,yC,ho,hl,hs,d9,u0];exact tP zz3 λy hy=>gA
   ·have d9:=decide_eq_false h9;have hg:=zmW.1 ho2;have e:zci s g x=(s.h.getD g.toNat 0#32,{s with h:=s.h.set g.toNat x},0):=by unfold zci;rw[if_pos ⟨ho1,ho2,h9⟩]
    have g0:(0:Int)<=g:=by omega
    have k0:g<((16:Nat):Int):=by omega
    have hq:=zBw h (k:=g.toNat) (by omega);have hw0:=zCu (s:=s) (k:=2+g.toNat) (v:=Um x) h (by omega);rw[zFL h (by omega)] at hw0;have h':({s with h:=s.h.set g.toNat x}:Sg).h.length=16:=by rw[sL];exact h
    have ho':= @zbv {s with h:=s.h.set g.toNat x};have hl':=za6 h';have hw':=zes h' (c:=ofL (sgL sg0)) rfl;have k1:2+(g.toNat+1)<=19:=by omega
    rw[e];simp only[XX,XY,zAd,yA,yB,yC,hl,d9,g0,k0,hq,k1,hw0,ho',hl',u0];exact tP zz3 λy hy=>gA
def zef(s:Sg):Sg×Int:=if zpt s=true∧s.busy=true then({s with busy:=false},0) else(s,120)
theorem zEC(h:s.h.length=16):Con EE.P 186 [SgV s] m (.tuple [SgV (zef s).1,In (zef s).2].toArray) m:=by
 refine Con.of zai zHi (bA rfl) Grow.rfl λhm=>?_;have ho:= @zbv s;have hl:=za6 h;have hs:=zfK h;have hw:=zes h (c:=ofL (sgL sg0)) rfl;have hb:=zHI h;simp only[XX,XY,zEa,yA,yB,yC,hs];refine cZ (zg8 h) ?_;cases ho1:zpt s with
 |false=>
  have e:zef s=(s,120):=by unfold zef;simp[ho1]
  rw[e];simp only[XX,XY,zEa,yA,yB,yC,yH,ho,hl,hs];exact tP zAb λy hy=>gA
 |true=>
  cases hbb:s.busy with
  |false=>
   have e:zef s=(s,120):=by unfold zef;simp[hbb]
   rw[e];simp only[XX,XY,zEa,yA,yB,yC,ho,hl,hs,hb,hbb];exact tP zAb λy hy=>gA
  |true=>
   have e:zef s=({s with busy:=false},0):=by unfold zef;simp[ho1,hbb]
   have hw0:=zCu (s:=s) (k:=18) (v:= .bool false) h (by decide);rw[zAq h] at hw0;have h':({s with busy:=false}:Sg).h.length=16:=h;have ho':= @zbv {s with busy:=false};have hl':=za6 h';have hw':=zes h' (c:=ofL (sgL sg0)) rfl;rw[e];simp only[XX,XY,zEa,yA,yB,yC,hl,hb,hbb,hw0,ho',hl'];exact tP zAb λy hy=>gA
theorem zBY(h:s.h.length=16):Con EE.P 234 [SgV s] m (SgV {s with pend:=0#32}) m:=by refine Con.of zai zGw (bA rfl) Grow.rfl λhm=>?_;have ho:= @zbv s;have hl:=za6 h;have hw0:=zCu (s:=s) (k:=0) (v:= .int .u32 0) h (by decide);have e0:(sgL s).set 0 (.int .u32 0)=sgL {s with pend:=0#32}:=rfl;rw[e0] at hw0;have h':({s with pend:=0#32}:Sg).h.length=16:=h;have ho':= @zbv {s with pend:=0#32};have hl':=za6 h';have hw':=zes h' (c:=ofL (sgL sg0)) rfl;simp only[XX,XY,zIm,yA,yB,yC,yG,hl,hw0,ho',hl'];exact tP zGJ λy hy=>gA
end
section
variable{s:Sg}{m mr M:Mem}{g:Int}{x:BitVec 32}
theorem zE6{n:Nat}:decide (((x>>>n&&&1#32).toNat:Int)=1)=x.getLsbD n:=by rw[BitVec.toNat_and,BitVec.toNat_ushiftRight];show decide ((((x.toNat>>>n)&&&1:Nat):Int)=1)=x.toNat.testBit n;rw[Nat.and_one_is_mod,Nat.testBit_eq_decide_div_mod_eq,Nat.shiftRight_eq_div_pow];exact decide_eq_decide.2 (by omega)
theorem zvl{lp c z:Nat}(hmr:zad mr)(hc:mr.get c=some (.cells (ofL [Um x]) true z))(Inv:Nat->Mem->Prop)(Done:Mem->Prop)(h0:Inv 1 mr)(hb:∀i M j,Inv i M->Inv i (M.bump j))(hbd:∀M j,Done M->Done (M.bump j))
  (hk:∀i M,Inv i M->M.get c=mr.get c∧Grow mr M) (hkd:∀M,Done M->Grow mr M)
  (hround:∀(i:Nat) M j,1<=i->i<=15->x.getLsbD i=true->Inv i M->∃b u m',zgt EE.P lp [In i] (M.bump j) u m'∧u= .bool b∧M.next+j<=m'.next∧(b=true->Inv (i+1) m')∧(b=false->Done m'))
  (hskip:∀(i:Nat) M,1<=i->i<=15->x.getLsbD i=false->Inv i M->Inv (i+1) M):
  ∃u m2,Con EE.P 167 [.func (.yield lp) #[] #[],PT c] mr u m2∧(Inv 16 m2∨Done m2):=by
 refine Con.raw zai zFX (bA rfl) _ ?_;simp only[XX,XY,zAh,yA,yC];refine WX.loop_of (λk tt M=>∃i:Nat,1<=i∧i<=16∧k=16-i∧tt=T 19 [(3,In i),(0, .func (.yield lp) #[] #[]),(1,PT c)]∧Inv i M) ?_ (k:=15) (t1:=T 19 [(3,In (1:Nat)),(0, .func (.yield lp) #[] #[]),(1,PT c)]) (vT ⟨rfl,rfl,rfl,trivial⟩) ⟨1,by omega,by omega,rfl,rfl,hb _ _ _ h0⟩;rintro k tt M ⟨i,hi1,hi,rfl,rfl,hI⟩;obtain⟨k1,k2⟩:=hk _ _ hI;have hnx:=k2.1;rw[hc] at k1;by_cases hi2:i<=15
 ·have g1:=decide_eq_true (show(i:Int)<=15 by omega);have hw:IntKind.i64.wrap ((i:Int)+1)=((i+1:Nat):Int):=by rw[zae (by omega) (by omega)];omega
  have e1:=zfz (P:=EE.P) (ty:=36) (a:=x) (yk:= .i64) (k:=(i:Int)) (by omega);rw[Int.toNat_natCast] at e1;have e2:=zE6 (x:=x) (n:=i);cases hbt:x.getLsbD i with
  |false=>rw[hbt] at e2;simp only[XX,XY,zAh,yA,yB,yC,g1,k1,hnx,e1,zuy,e2,hw,zac,lA];exact⟨16-(i+1),_,_,by omega,vT (l':=[(3,In ((i+1:Nat):Int)),(0, .func (.yield lp) #[] #[]),(1,PT c)]) ⟨rfl,rfl,rfl,trivial⟩,i+1,by omega,by omega,rfl,rfl,hb _ _ _ (hskip i M hi1 hi2 hbt hI)⟩
  |true=>
   rw[hbt] at e2;simp only[XX,XY,zAh,yA,yB,yC,g1,k1,hnx,e1,zuy,e2,lA];obtain⟨b,hr⟩:=hround i M _ hi1 hi2 hbt hI;refine CallI.rcon hr (by simp) λu m' hm'=>?_;obtain⟨rfl,n3,hI',hD'⟩:=hm';have n4:mr.next<=m'.next:=by omega
   cases b with
   |true=>simp only[XX,XY,zAh,yA,yB,yC,n4,hw,zac];exact⟨16-(i+1),_,_,by omega,vT (l':=[(3,In ((i+1:Nat):Int)),(0, .func (.yield lp) #[] #[]),(1,PT c)]) ⟨rfl,rfl,rfl,trivial⟩,i+1,by omega,by omega,rfl,rfl,hb _ _ _ (hI' rfl)⟩
   |false=>simp only[XX,XY,zAh,yA,yB,zbC];exact⟨hkd _ (hD' rfl), .inr (hD' rfl)⟩
 ·obtain rfl:i=16:=by omega
  have g1:=decide_eq_false (show¬((16:Nat):Int)<=15 by omega);simp only[XX,XY,zAh,yA,yB,yC,yE,g1,hnx,zam];exact⟨(hk _ _ (hb _ _ _ hI)).2, .inl (hb _ _ _ hI)⟩
theorem zDS(hm:zad m):∃u m',Con EE.P 119 [Um x] m u m'∧∃c,u= .func (.func 167) #[] [PT c].toArray∧m.next<=c∧m'.get c=some (.cells (ofL [Um x]) true 0)∧Nx m m':=by refine Con.raw zai zEt (bA rfl) _ ?_;simp only[XX,XY,zIj,yA,yB,yC];have hn:Nx m ((m.put m.next (zaS.cells (ofL [Um x]) true 0)).bump 4):=⟨by(try simp only[bN,nP]);omega,zad.of_low (by have:=hm.n64;(try simp only[bN,nP]);omega) (by repeat(first|exact Low.of hm nO|refine Low.put ?_ nO|refine Low.bump ?_)),λy hy=>by simp only[gB,gP,zb3 hy,if_false]⟩;exact⟨⟨hn.next,λy hy e=>by rw[hn.old y hy,e]⟩,m.next,rfl,lR' _,by simp only[gB,gP,if_true],hn⟩
def zbH(s:Sg)(r:BitVec 32):Nat->Nat->BitVec 32->Int×Int×BitVec 32
 |0,_,p=>(0,0,p)
 |f+1,n,p=>if r.getLsbD n then(if zeF s n=0 then zbH s r f (n+1) (p&&& ~~~(1#32<<<n)) else((n:Int),zeF s n,p&&& ~~~(1#32<<<n))) else zbH s r f (n+1) p
def zek(s:Sg):BitVec 32:=if s.busy then(s.pend&&& ~~~s.mask)&&&512#32 else s.pend&&& ~~~s.mask
def zbd(s:Sg):Int×Int×Sg:=if zpt s then((zbH s (zek s) 15 1 s.pend).1,(zbH s (zek s) 15 1 s.pend).2.1,{s with pend:=(zbH s (zek s) 15 1 s.pend).2.2,busy:=s.busy||decide ((zbH s (zek s) 15 1 s.pend).2.1=2)}) else(0,0,s)
theorem zr5{l0 i:Nat}{Q:Exit->List Value->Mem->Prop}{t:List Value}{m2:Mem}{tm:List Value}{qs:List Tmp}{sa bd:zan}(h1:m2.get l0=some (.loop ⟨.done,some (.exit i),tm,qs,sa,bd⟩))(h2:Q (.exit i) t (m2.put l0 (.loop ⟨.exhausted,some (.exit i),tm,qs,sa,bd⟩))):zDE l0 Q t m2:=
 ⟨_,h1,by simp,rfl,h2⟩
theorem zwL{k:IntKind}{n:Int}:EE.eqv (.int k n) (.int k n)=true:=by show zgZ 8 _ _=true;simp[zgZ,vEq,zlo]
theorem zCS{l:List Value}(h:∀v∈l,zgZ 7 v v=true):EE.eqv (.agg l.toArray) (.agg l.toArray)=true:=by show zgZ 8 _ _=true;show zjX (zgZ 7) _ _=true;simp only[zjX,bT,beq_self_eq_true,List.all_eq_true,List.mem_range,true_and];intro i hi;simp only[List.size_toArray] at hi;refine h _ ?_;simp[Array.getD,hi]
theorem zAF:EE.eqv (SgV s) (SgV s)=true:=zCS λv hv=>by unfold sgL at hv;simp only[List.mem_append,List.mem_cons,List.not_mem_nil,or_false,List.mem_map] at hv;rcases hv with((rfl|rfl)|⟨x,_,rfl⟩)|rfl<;>simp[zgZ,vEq,zlo]
theorem CallI.gen{Li:List zb8}{tk:zpE}{K:CI}(R:Mem->Prop)(hR:R M)(hK:∀M,R M->CallI EE Li tk M (K:=K)):CallI EE Li tk M (K:=K):=hK M hR
structure NxI(m:Mem)(s:Sg)(a b:Int)(p:BitVec 32)(M:Mem):Prop where
 c0:M.get m.next=some (.cells (ofL (sgL s)) true 0)
 c1:∃c,M.get (m.next+1)=some (.cells c true 0)∧c.n=1∧c.nth 0=some (In a)
 c2:∃c,M.get (m.next+2)=some (.cells c true 0)∧c.n=1∧c.nth 0=some (In b)
 c3:∃c,M.get (m.next+3)=some (.cells c true 0)∧c.n=19∧c.sub 0 19=some (sgL {s with pend:=p})
 old:∀y,y<m.next->M.get y=m.get y
 next:m.next+4<=M.next
theorem NxI.of{M M':Mem}{a b:Int}{p:BitVec 32}(h:NxI m s a b p M)(hn:M.next<=M'.next)(ho:∀y,y<m.next+4->M'.get y=M.get y):NxI m s a b p M':=by obtain⟨h0,⟨d1,a1,a2,a3⟩,⟨d2,b1,b2,b3⟩,⟨d3,e1,e2,e3⟩,h4,h5⟩:=h;exact⟨(ho _ (by omega)).trans h0,⟨d1,(ho _ (by omega)).trans a1,a2,a3⟩,⟨d2,(ho _ (by omega)).trans b1,b2,b3⟩,⟨d3,(ho _ (by omega)).trans e1,e2,e3⟩,λy hy=>(ho _ (by omega)).trans (h4 y hy),by omega⟩
theorem zBd{r p:BitVec 32}{i:Nat}(h1:i<=15)(hb:r.getLsbD i=false):zbH s r (16-i) i p=zbH s r (16-(i+1)) (i+1) p:=by rw[show 16-i=(16-(i+1))+1 by omega];show(if r.getLsbD i then _ else _)=_;rw[hb];rfl
theorem zBu{r p:BitVec 32}{i:Nat}(h1:i<=15)(hb:r.getLsbD i=true)(hw:zeF s i=0):zbH s r (16-i) i p=zbH s r (16-(i+1)) (i+1) (p&&& ~~~(1#32<<<i)):=by rw[show 16-i=(16-(i+1))+1 by omega];show(if r.getLsbD i then _ else _)=_;rw[hb,if_pos rfl,if_pos hw]
theorem zA3{r p:BitVec 32}{i:Nat}(h1:i<=15)(hb:r.getLsbD i=true)(hw:zeF s i≠0):zbH s r (16-i) i p=((i:Int),zeF s i,p&&& ~~~(1#32<<<i)):=by rw[show 16-i=(16-(i+1))+1 by omega];show(if r.getLsbD i then _ else _)=_;rw[hb,if_pos rfl,if_neg hw]
abbrev zDt(tt:List Value)(ps:List Nat):zct:={state:= .ready,pend:=none,tmps:=tt,ps:=ps,assign:=(kO Tryz.f78.body 20),body:=(kO Tryz.f78.body 21)}
theorem zoI{lp i j:Nat}{p:BitVec 32}{tl:List (Nat×Value)}(t1:lk tl 1=PT m.next)(t2:lk tl 2=PT (m.next+1))(t3:lk tl 3=PT (m.next+2))(t4:lk tl 4=PT (m.next+3))(h:s.h.length=16)(hM:zad M)(hlp:m.next+4<=lp)(hl:M.get lp=some (.loop (zDt (T 46 tl) [23])))(hI:NxI m s 0 0 p M)(hi:i<=15):
  ∃b u m',zgt EE.P lp [In i] (M.bump j) u m'∧u= .bool b∧M.next+j<=m'.next∧(b=true->zeF s i=0∧NxI m s 0 0 (p&&& ~~~(1#32<<<i)) m'∧m'.get lp=M.get lp)∧(b=false->zeF s i≠0∧NxI m s i (zeF s i) (p&&& ~~~(1#32<<<i)) m'∧∃tm ps sa bd,m'.get lp=some (.loop ⟨.done,some (.exit 0),tm,ps,sa,bd⟩))∧zad m'∧∀y,m.next+4<=y->y<M.next->y≠lp->m'.get y=M.get y:=by
 have hlt:=hM.lt hl;have hs:=zfK h;have ho:= @zbv s;have hln:=za6 h;have b1:=zux (P:=EE.P) (ty:=36) (k:=(i:Int)) (by omega);rw[Int.toNat_natCast] at b1;obtain⟨e0,⟨d1,a1,a2,a3⟩,⟨d2,f1,f2,f3⟩,⟨d3,k1,k2,k3⟩,h4,h5⟩:=hI;have hp0:d3.nth 0=some (Um p):=by have:=zcw (k:=0) k3 (by decide);rw[Nat.add_zero] at this;rw[this];rfl
 have ne0:¬lp=m.next:=by omega
 have ne1:¬lp=m.next+1:=by omega
 have ne2:¬lp=m.next+2:=by omega
 have ne3:¬lp=m.next+3:=by omega
 have ne4:¬m.next=lp:=by omega
 have ne5:¬m.next+1=lp:=by omega
 have ne6:¬m.next+2=lp:=by omega
 have ne7:¬m.next+3=lp:=by omega
 have w1:(d3.write 0 [Um (p&&& ~~~(1#32<<<i))]).sub 0 19=some (sgL {s with pend:=p&&& ~~~(1#32<<<i)}):=by have:=zaU (v:=Um (p&&& ~~~(1#32<<<i))) k3 (k:=0) (by decide);rw[Nat.zero_add] at this;rw[this];rfl
 have q1:0+1<=d1.n:=by rw[a2];decide
 have q2:0+1<=d2.n:=by rw[f2];decide
 have q3:0+1<=d3.n:=by rw[k2];decide
 have z2:∀v:Value,(d2.write 0 [v]).nth 0=some v:=λv=>zbu (by omega);have z1:∀v:Value,(d1.write 0 [v]).nth 0=some v:=λv=>zbu (by omega);by_cases hw:zeF s i=0
 ·refine⟨true,zgt.of zai (by rw[gB];exact hl) rfl rfl ?_⟩;have dw:=decide_eq_true hw;simp only[XX,XY,F78,yA,yB,yC,yG,hl,t1,t4,e0,k1,hp0,hs,b1,zer,ne4,ne7,q3];refine cZ (zwd h (by omega)) ?_;simp only[XX,XY,F78,yA,yB,yC,yG,hl,t3,f1,ne2,ne3,ne6,q2,z2,dw];have hG:∀o1 o2 o3 o4 J,j<=J->Grow (M.bump j) (((((M.put lp o1).put (m.next+3) o2).put (m.next+2) o3).put lp o4).bump J):=λo1 o2 o3 o4 J hJ=>⟨nO,λy hy e=>by
   rw[gB] at e;have y1:¬y=lp:=λe2=>by rw[e2,hl] at e;cases e
   have y2:¬y=m.next+2:=λe2=>by rw[e2,f1] at e;cases e
   have y3:¬y=m.next+3:=λe2=>by rw[e2,k1] at e;cases e
   rw[gB,gP,if_neg y1,gP,if_neg y2,gP,if_neg y3,gP,if_neg y1,e]⟩
  have hFr:∀o1 o2 o3 o4 J,zad (((((M.put lp o1).put (m.next+3) o2).put (m.next+2) o3).put lp o4).bump J):=λo1 o2 o3 o4 J=>((((hM.put hlt).put nO).put nO).put nO).bump;exact⟨hG _ _ _ _ _ (by omega),λ_=>⟨hw,⟨by(simp only[gB,gP];repeat(first|rw[if_neg (by omega)]|rw[if_pos trivial]|rw[if_pos (by omega)]));exact e0,⟨d1,by(simp only[gB,gP];repeat(first|rw[if_neg (by omega)]|rw[if_pos trivial]|rw[if_pos (by omega)]));exact a1,a2,a3⟩,⟨_,gA,by rw[zap,f2],by rw[z2,hw]⟩,⟨_,gA,by rw[zap,k2],w1⟩,λy hy=>by(simp only[gB,gP];repeat(first|rw[if_neg (by omega)]|rw[if_pos trivial]|rw[if_pos (by omega)]));exact h4 y hy,nO⟩⟩,λe=>e.elim,hFr _ _ _ _ _,λy y1 y2 y3=>by(try simp only[gB,gP]);repeat(first|rw[if_neg (by omega)])⟩
 ·refine⟨false,zgt.of zai (by rw[gB];exact hl) rfl rfl ?_⟩;have dw:=decide_eq_false hw;simp only[XX,XY,F78,yA,yB,yC,yG,hl,t1,t4,e0,k1,hp0,hs,b1,zer,ne4,ne7,q3];refine cZ (zwd h (by omega)) ?_;simp only[XX,XY,F78,yA,yB,yC,yG,hl,t2,t3,a1,f1,ne1,ne2,ne3,ne5,ne6,q1,q2,z2,dw];have hG:∀o1 o2 o3 o4 o5 J,j<=J->Grow (M.bump j) ((((((M.put lp o1).put (m.next+3) o2).put (m.next+2) o3).put (m.next+1) o5).put lp o4).bump J):=λo1 o2 o3 o4 o5 J hJ=>⟨nO,λy hy e=>by
   rw[gB] at e;have y1:¬y=lp:=λe2=>by rw[e2,hl] at e;cases e
   have y2:¬y=m.next+2:=λe2=>by rw[e2,f1] at e;cases e
   have y3:¬y=m.next+3:=λe2=>by rw[e2,k1] at e;cases e
   have y4:¬y=m.next+1:=λe2=>by rw[e2,a1] at e;cases e
   rw[gB,gP,if_neg y1,gP,if_neg y4,gP,if_neg y2,gP,if_neg y3,gP,if_neg y1,e]⟩
  have hFr:∀o1 o2 o3 o4 o5 J,zad ((((((M.put lp o1).put (m.next+3) o2).put (m.next+2) o3).put (m.next+1) o5).put lp o4).bump J):=λo1 o2 o3 o4 o5 J=>(((((hM.put hlt).put nO).put nO).put nO).put nO).bump;exact⟨hG _ _ _ _ _ _ (by omega),λe=>e.elim,λ_=>⟨hw,⟨by(simp only[gB,gP];repeat(first|rw[if_neg (by omega)]|rw[if_pos trivial]|rw[if_pos (by omega)]));exact e0,⟨_,gA,by rw[zap,a2],z1 _⟩,⟨_,gA,by rw[zap,f2],z2 _⟩,⟨_,gA,by rw[zap,k2],w1⟩,λy hy=>by(simp only[gB,gP];repeat(first|rw[if_neg (by omega)]|rw[if_pos trivial]|rw[if_pos (by omega)]));exact h4 y hy,nO⟩,_,_,_,_,rfl⟩,hFr _ _ _ _ _ _,λy y1 y2 y3=>by(try simp only[gB,gP]);repeat(first|rw[if_neg (by omega)])⟩
theorem zsW{c z:Nat}{r:BitVec 32}{tl:List (Nat×Value)}(t1:lk tl 1=PT m.next)(t2:lk tl 2=PT (m.next+1))(t3:lk tl 3=PT (m.next+2))(t4:lk tl 4=PT (m.next+3))(h:s.h.length=16)(hM:zad M)(hI:NxI m s 0 0 s.pend M)(hc:M.get c=some (.cells (ofL [Um r]) true z))(hcm:m.next+4<=c):
  ∃u m2,Con EE.P 167 ([]++ [.func (.yield M.next) #[] #[]]++ [PT c]) ((M.put M.next (.loop (zDt (T 46 tl) [23]))).bump 1) u m2∧∃a b p,zbH s r 15 1 s.pend=(a,b,p)∧NxI m s a b p m2∧zad m2∧∃st pe tm ps sa bd,m2.get M.next=some (.loop ⟨st,pe,tm,ps,sa,bd⟩)∧((st= .ready∧pe=none)∨(st= .done∧pe=some (.exit 0))):=by
 have hlc:=hM.lt hc;have h4:=hI.next;have hmr:zad ((M.put M.next (.loop (zDt (T 46 tl) [23]))).bump 1):=zad.of_low (by have:=hM.n64;simp only[bN,nP];omega) (Low.bump (Low.put (Low.of hM nO) nO));obtain⟨mr,hmrE⟩:∃mr,mr=((M.put M.next (.loop (zDt (T 46 tl) [23]))).bump 1):=⟨_,rfl⟩;have hlp:mr.get M.next=some (.loop (zDt (T 46 tl) [23])):=by rw[hmrE];(simp only[gB,gP];repeat(first|rw[if_neg (by omega)]|rw[if_pos trivial]|rw[if_pos (by omega)]))
 have hcr:mr.get c=some (.cells (ofL [Um r]) true z):=by rw[hmrE,gB,gP,if_neg (by omega)];exact hc
 have hIr:NxI m s 0 0 s.pend mr:=hI.of (by rw[hmrE];simp only[bN,nP];omega) λy hy=>by rw[hmrE];(simp only[gB,gP];repeat(first|rw[if_neg (by omega)]|rw[if_pos trivial]|rw[if_pos (by omega)]))
 have hnr:mr.next=M.next+1:=by rw[hmrE];rfl
 rw[<-hmrE] at hmr⊢;obtain⟨u,m2,k1,k2⟩:=zvl (lp:=M.next) (c:=c) (x:=r) hmr hcr
  (λi Mx=>∃p,zbH s r (16-i) i p=zbH s r 15 1 s.pend∧NxI m s 0 0 p Mx∧zad Mx∧Grow mr Mx∧Mx.get M.next=mr.get M.next∧Mx.get c=mr.get c)
  (λMx=>∃a b p,zbH s r 15 1 s.pend=(a,b,p)∧NxI m s a b p Mx∧zad Mx∧Grow mr Mx∧∃tm ps sa bd,Mx.get M.next=some (.loop ⟨.done,some (.exit 0),tm,ps,sa,bd⟩))
  ⟨s.pend,rfl,hIr,hmr,Grow.rfl,rfl,rfl⟩
  (λi Mx j hx=>by obtain⟨p,x1,x2,x3,x4,x5,x6⟩:=hx;exact⟨p,x1,x2.of nO (λ_ _=>rfl),x3.bump,⟨by rw[bN];have:=x4.1;omega,x4.2⟩,x5,x6⟩)
  (λMx j hx=>by obtain⟨a,b,p,x1,x2,x3,x4,x5⟩:=hx;exact⟨a,b,p,x1,x2.of nO (λ_ _=>rfl),x3.bump,⟨by rw[bN];have:=x4.1;omega,x4.2⟩,x5⟩)
  (λi Mx hx=>by obtain⟨p,x1,x2,x3,x4,x5,x6⟩:=hx;exact⟨x6,x4⟩)
  (λMx hx=>by obtain⟨a,b,p,x1,x2,x3,x4,x5⟩:=hx;exact x4)
  (λi Mx j hi1 hi2 hbt hx=>by
   obtain⟨p,x1,x2,x3,x4,x5,x6⟩:=hx;obtain⟨b,u,m',y1,y2,y3,y4,y5,y6,y7⟩:=zoI (j:=j) t1 t2 t3 t4 h x3 (by omega) (x5.trans hlp) x2 hi2;have hg:Grow mr m':=⟨by have:=x4.1;omega,λy hy e=>by
    by_cases e1:y<m.next+4
    ·rcases(show y<m.next∨y=m.next∨y=m.next+1∨y=m.next+2∨y=m.next+3 by omega) with e2|rfl|rfl|rfl|rfl
     ·cases b with
      |true=>rw[(y4 rfl).2.1.old y e2,<-hIr.old y e2,e]
      |false=>rw[(y5 rfl).2.1.old y e2,<-hIr.old y e2,e]
     ·rw[hIr.c0] at e;cases e
     ·obtain⟨_,w,_⟩:=hIr.c1;rw[w] at e;cases e
     ·obtain⟨_,w,_⟩:=hIr.c2;rw[w] at e;cases e
     ·obtain⟨_,w,_⟩:=hIr.c3;rw[w] at e;cases e
    ·by_cases e2:y=M.next
     ·rw[e2,hlp] at e;cases e
     ·rw[y7 y (by omega) (by have:=x4.1;omega) e2];exact x4.2 y hy e⟩
   refine⟨b,u,m',y1,y2,y3,λe=>?_,λe=>?_⟩
   ·obtain⟨w1,w2,w3⟩:=y4 e;exact⟨_,by rw[<-zBu hi2 hbt w1];exact x1,w2,y6,hg,by rw[w3,x5],by rw[y7 c (by omega) (by have:=x4.1;omega) (by omega),x6]⟩
   ·obtain⟨w1,w2,w3⟩:=y5 e;exact⟨_,_,_,by rw[<-x1,zA3 hi2 hbt w1],w2,y6,hg,w3⟩)
  (λi Mx hi1 hi2 hbt hx=>by obtain⟨p,x1,x2,x3,x4,x5,x6⟩:=hx;exact⟨p,by rw[<-zBd hi2 hbt];exact x1,x2,x3,x4,x5,x6⟩)
 refine⟨u,m2,k1,?_⟩;rcases k2 with⟨p,x1,x2,x3,x4,x5,x6⟩|⟨a,b,p,x1,x2,x3,x4,tm,ps,sa,bd,x5⟩
 ·exact⟨0,0,p,x1.symm,x2,x3,_,_,_,_,_,_,x5.trans hlp, .inl ⟨rfl,rfl⟩⟩
 ·exact⟨a,b,p,x1,x2,x3,_,_,_,_,_,_,x5, .inr ⟨rfl,rfl⟩⟩
theorem zv8(h:s.h.length=16):Con EE.P 78 [SgV s] m (.tuple [In (zbd s).1,In (zbd s).2.1,SgV (zbd s).2.2].toArray) m:=by
 refine Con.of zai zIg (bA rfl) Grow.rfl λhm=>?_;have ho:= @zbv s;have hl:=za6 h;have hs:=zfK h;have hb:=zHI h;have hS:s={s with pend:=s.pend}:=rfl;simp only[XX,XY,F78,yA,yB,yC,ho,hl,hs];refine CallI.gen (λM=>NxI m s 0 0 s.pend M∧zad M) ⟨⟨gA,⟨_,gA,rfl,rfl⟩,⟨_,gA,rfl,rfl⟩,⟨_,gA,rfl,zay hl (lR' _)⟩,λy hy=>gA,nO⟩,((nX hm):Nx m _).fresh⟩ λM hM=>?_;obtain⟨hI,hF⟩:=hM;have hI0:=hI;obtain⟨e0,⟨d1,a1,a2,a3⟩,⟨d2,f1,f2,f3⟩,⟨d3,k1,k2,k3⟩,h4,h5⟩:=hI;have n0:m.next<=M.next:=by omega
 refine cZ (zg8 h) ?_;cases hok:zpt s with
 |false=>
  have e:zbd s=(0,0,s):=by unfold zbd;simp[hok]
  rw[e];have q1:0+1<=d1.n:=by rw[a2];decide
  have q2:0+1<=d2.n:=by rw[f2];decide
  have q3:0+19<=d3.n:=by rw[k2];decide
  have z2:∀v:Value,(d2.write 0 [v]).nth 0=some v:=λv=>zbu (by omega);have z1:∀v:Value,(d1.write 0 [v]).nth 0=some v:=λv=>zbu (by omega);have z3:=zes h (c:=d3) k2;simp only[XX,XY,F78,yA,yB,yH,@zAF,ho,hl,hs,n0,e0,a1,f1,k1,q1,q2,q3,z1,z2,z3];exact tP zGa λy hy=>by(simp only[gB,gP];repeat(first|rw[if_neg (by omega)]|rw[if_pos trivial]|rw[if_pos (by omega)]));exact h4 y hy
 |true=>
  have hrd:∀b,s.busy=b->zek s=if b=true then(s.pend&&& ~~~s.mask)&&&512#32 else s.pend&&& ~~~s.mask:=λb e=>by unfold zek;rw[e]
  cases hbb:s.busy
  all_goals
   have hr:=hrd _ hbb;simp only[if_true,bF,if_false] at hr;simp only[XX,XY,F78,yA,yB,yC,hb,hbb,n0,e0,zEY,zG4,zer,zzs,lA];rw[<-hr];refine cX (zDS hF.bump) λu M2 hv=>?_;obtain⟨c,rfl,c1,c2,hn1⟩:=hv;have n1:=hn1.next;simp only[bN] at n1 c1;have hI2:NxI m s 0 0 s.pend M2:=hI0.of (by omega) (λy hy=>by rw[hn1.old y nO];rfl);have n2:m.next<=M2.next:=by omega
   simp only[XX,F78,yA];refine zgS (g:=167) (l':=[(4,PT (m.next+3)),(3,PT (m.next+2)),(2,PT (m.next+1)),(1,PT m.next)]) (R:=λ_ m2=>∃a b p,zbH s (zek s) 15 1 s.pend=(a,b,p)∧NxI m s a b p m2∧zad m2∧∃st pe tm ps sa bd,m2.get M2.next=some (.loop ⟨st,pe,tm,ps,sa,bd⟩)∧((st= .ready∧pe=none)∨(st= .done∧pe=some (.exit 0)))) [] [PT c] (by omega) (by simp only[zwB,zc4,Nat.reduceLT,Nat.reduceEqDiff,reduceIte]) kr (zsW rfl rfl rfl rfl h hn1.fresh hI2 c2 (by omega)) (λp hp=>?_) (λ_ m2 hJ=>?_)
   ·simp only[List.mem_cons,List.not_mem_nil,or_false] at hp;rcases hp with rfl|rfl|rfl|rfl<;>exact zgn (by omega)
   ·obtain⟨a,b,p,x1,x2,x3,st,pe,tm,ps,sa,bd,x4,x5⟩:=hJ;obtain⟨e0,⟨d1,a1,a2,a3⟩,⟨d2,f1,f2,f3⟩,⟨d3,k1,k2,k3⟩,h4,h5⟩:=x2;have n3:m.next<=m2.next:=by omega
    have ne0:¬m.next=M2.next:=by omega
    have ne1:¬m.next+1=M2.next:=by omega
    have ne2:¬m.next+2=M2.next:=by omega
    have ne3:¬m.next+3=M2.next:=by omega
    have q1:0+1<=d1.n:=by rw[a2];decide
    have q2:0+1<=d2.n:=by rw[f2];decide
    have q3:18+1<=d3.n:=by rw[k2];decide
    have z2:∀v:Value,(d2.write 0 [v]).nth 0=some v:=λv=>zbu (by omega);have z1:∀v:Value,(d1.write 0 [v]).nth 0=some v:=λv=>zbu (by omega);have e:zbd s=(a,b,{s with pend:=p,busy:=s.busy||decide (b=2)}):=by unfold zbd;rw[hok,x1];rfl
    have hw:∀bb:Bool,(d3.write 18 [.bool bb]).sub 0 19=some (sgL {s with pend:=p,busy:=bb}):=λbb=>by have:=zaU (v:= .bool bb) k3 (k:=18) (by decide);rw[Nat.zero_add] at this;rw[this];exact congrArg some (zAq (s:={s with pend:=p}) h)
    have ho':∀bb:Bool,(sgL {s with pend:=p,busy:=bb}).all oneCell=true:=λbb=>zbv;have hl':∀bb:Bool,(sgL {s with pend:=p,busy:=bb}).length=19:=λbb=>za6 h;have hw2:∀bb:Bool,((d3.write 18 [.bool bb]).write 0 (sgL {s with pend:=p,busy:=bb})).sub 0 19=some (sgL {s with pend:=p,busy:=bb}):=λbb=>zes (t:={s with pend:=p,busy:=bb}) h (by rw[zap,k2]);have q4:0+19<=d3.n:=by rw[k2];decide
    rw[e,hbb];rcases x5 with⟨rfl,rfl⟩|⟨rfl,rfl⟩
    ·refine zb1 x4 ?_;cases d5:decide (b=2)
     all_goals
      simp only[XX,XY,F78,yA,yB,yC,@zAF,@zwL,n3,ne0,ne1,ne2,ne3,e0,hb,hbb,a1,a3,f1,f3,k1,q1,q2,q3,z1,z2,hw,hw2,ho',hl',d5,Bool.or_true,Bool.or_false,lA];exact tP zGa λy hy=>by(simp only[gB,gP];repeat(first|rw[if_neg (by omega)]|rw[if_pos trivial]|rw[if_pos (by omega)]));exact h4 y hy
    ·refine zr5 x4 ?_;cases d5:decide (b=2)
     all_goals
      simp only[XX,XY,F78,yA,yB,yC,@zAF,@zwL,n3,ne0,ne1,ne2,ne3,e0,hb,hbb,a1,a3,f1,f3,k1,q1,q2,q3,z1,z2,hw,hw2,ho',hl',d5,Bool.or_true,Bool.or_false,lA];exact tP zGa λy hy=>by(simp only[gB,gP];repeat(first|rw[if_neg (by omega)]|rw[if_pos trivial]|rw[if_pos (by omega)]));exact h4 y hy
end
section
variable{s:Sg}{m:Mem}
theorem zHx:EE.P.cellsOf 36=1:=kr
theorem zHs:EE.P.cellsOf 71=16:=kr
theorem ce4:EE.P.cellsOf 4=1:=kr
theorem zHJ:EE.P.cellsOf 73=19:=kr
theorem zIQ(x:BitVec 32):(Lit.int .u32 (x.toNat:Int)).wf=true:=by have:=x.isLt;have h1:IntKind.u32.min=0:=rfl;have h2:IntKind.u32.max=4294967295:=rfl;simp only[Lit.wf,h1,h2,bT,decide_eq_true_eq];omega
theorem k36(d:Nat)(x:BitVec 32):EE.P.keyLits (d+1) 36 [Um x]=some [.int .u32 (x.toNat:Int)]:=by simp[Program.keyLits,zaJ,zIQ]
theorem k4(d:Nat)(x:Bool):EE.P.keyLits (d+1) 4 [.bool x]=some [.bool x]:=by simp[Program.keyLits,show EE.P.underlying 4=some .bool by kernel_rfl]
theorem k71(d:Nat){l:List (BitVec 32)}(h:l.length=16):EE.P.keyLits (d+2) 71 (l.map Um)=some (l.map λx=> .int .u32 (x.toNat:Int)):=by
 match l,h with
 |[h0,h1,h2,h3,h4,h5,h6,h7,h8,h9,h10,h11,h12,h13,h14,h15],_=>unfold Program.keyLits;rw[show EE.P.underlying 71=some (.array 16 36) by kernel_rfl];show(if _=EE.P.cellsOf 71 then _ else _)=_;rw[if_pos (by rw[zHs];rfl)];show Option.map List.flatten (List.mapM (λi=>EE.P.keyLits (d+1) 36 (List.take (EE.P.cellsOf 36) (List.drop (i*EE.P.cellsOf 36) _))) [0,1,2,3,4,5,6,7,8,9,10,11,12,13,14,15])=_;rw[zHx];simp[k36]
theorem zpV{α β γ:Type}(g:α->β)(f:β->Option γ):∀l:List α,l.mapM (λa=>f (g a))=(l.map g).mapM f
 |[]=>rfl
 |a::l=>by simp only[List.mapM_cons,List.map_cons,zpV g f l]
def zl4(s:Sg):List Lit:=[.int .u32 (s.pend.toNat:Int), .int .u32 (s.mask.toNat:Int)]++(s.h.map λx=> .int .u32 (x.toNat:Int))++ [.bool s.busy]
theorem k73(d:Nat)(h:s.h.length=16):EE.P.keyLits (d+3) 73 (sgL s)=some (zl4 s):=by
 have hu:EE.P.underlying 73=some (.struct (EE.P.fieldsOf 73)):=kr;have hf:(EE.P.fieldsOf 73).toList.map (λf=>(f.type,f.offset))=[(36,0),(36,1),(71,2),(4,18)]:=kr;have hn:(EE.P.fieldsOf 73).all (·.name != "_")=true:=kr
 have e1:((sgL s).drop 2).take 16=s.h.map Um:=by unfold sgL;rw[aA,List.drop_append_of_le_length (by simp)];simp[h]
 have e2:((sgL s).drop 18).take 1=[.bool s.busy]:=by unfold sgL;rw[List.drop_append,List.drop_eq_nil_of_le (by simp[h])];simp[h]
 have e3:((sgL s).drop 0).take 1=[Um s.pend]:=rfl;have e4:((sgL s).drop 1).take 1=[Um s.mask]:=rfl;unfold Program.keyLits;rw[hu];show(if _=EE.P.cellsOf 73∧_ then _ else _)=_;rw[if_pos ⟨by rw[zHJ,za6 h],hn⟩,zpV (λf:Field=>(f.type,f.offset)) (λp=>EE.P.keyLits (d+2) p.1 (List.take (EE.P.cellsOf p.1) (List.drop p.2 (sgL s)))),hf];simp only[List.mapM_cons,List.mapM_nil,zHx,zHs,ce4,e1,e2,e3,e4,k36,k71 d h,k4];simp[zl4]
theorem zw9{a b:List (BitVec 32)}(h:(a.map λx=>Lit.int .u32 (x.toNat:Int))=b.map λx=>Lit.int .u32 (x.toNat:Int)):a=b:=by
 induction a generalizing b with
 |nil=>cases b with
  |nil=>rfl
  |cons y b=>cases h
 |cons x a ih=>cases b with
  |nil=>cases h
  |cons y b=>simp only[List.map_cons,List.cons.injEq,Lit.int.injEq,true_and,Int.natCast_inj] at h;rw[BitVec.eq_of_toNat_eq h.1,ih h.2]
theorem zqy{a b:Sg}(ha:a.h.length=16)(hb:b.h.length=16):zl4 a=zl4 b↔a=b:=by
 constructor
 ·intro h;unfold zl4 at h;have h1:=List.append_inj h (by simp[ha,hb]);have h2:=List.append_inj h1.1 rfl;simp only[List.cons.injEq,Lit.int.injEq,Lit.bool.injEq,true_and,and_true,Int.natCast_inj] at h1 h2;cases a;cases b;simp only at*
  simp only[BitVec.eq_of_toNat_eq h2.1.1,BitVec.eq_of_toNat_eq h2.1.2,zw9 h2.2,h1.2]
 ·rintro rfl;rfl
theorem zwJ:(sgL s).toArray.all zts=true:=by rw[List.all_toArray];unfold sgL;rw[List.all_append,List.all_append,List.all_map,bT,bT];exact⟨⟨rfl,List.all_eq_true.2 λx _=>rfl⟩,rfl⟩
theorem zkG(h:s.h.length=16):Value.formed EE.P 73 (SgV s)=true:=by have hu:EE.P.underlying 73=some (.struct (EE.P.fieldsOf 73)):=kr;have hl:=za6 h;unfold Value.formed;simp only[hu,zHJ,List.size_toArray,hl];rfl
theorem zGO{a b:Sg}(ha:a.h.length=16)(hb:b.h.length=16){xo yo:Operand}:∃r:Bool,(r=true↔a=b)∧∀m,eqA EE.P .neq 73 xo yo (SgV a) (SgV b) m=some (.bool !r):=by obtain⟨r,h1,h2⟩:=run_equalIn_deep (P:=EE.P) 9997 3 73 kr default (EE.P.types.size+1) (EE.P.types.size+1) (SgV a) (SgV b) (zl4 a) (zl4 b) (zkG ha) (zkG hb) (k73 _ ha) (k73 _ hb);exact⟨r,h2.trans (zqy ha hb),λm=>zxc (.inr rfl) zGJ zGJ zwJ zwJ kr h1⟩
theorem zhC{r:BitVec 32}:∀(f n:Nat) (p:BitVec 32),(∀i,n<=i->i<32->r.getLsbD i=true->p.getLsbD i=true)->1<=n->n+f<=16->0<(zbH s r f n p).1->∃i,i<32∧p.getLsbD i=true∧(zbH s r f n p).2.2.getLsbD i=false
 |0,n,p,_,_,_,h=>by cases h
 |f+1,n,p,hp,h1,h2,h=>by
  unfold zbH at h⊢;split
  ·rename_i hb;rw[if_pos hb] at h;split
   ·rename_i hw;rw[if_pos hw] at h;obtain⟨i,a1,a2,a3⟩:=zhC f (n+1) (p&&& ~~~(1#32<<<n)) (λi hi hi2 hr=>by
     rw[BitVec.getLsbD_and,hp i (by omega) hi2 hr,BitVec.getLsbD_not];have:(1#32<<<n).getLsbD i=false:=by
      rw[BitVec.getLsbD_shiftLeft];have:(1#32).getLsbD (i-n)=false:=by rw[BitVec.getLsbD_one];simp;omega
      simp[this]
     rw[this];simp[hi2]) (by omega) (by omega) h
    refine⟨i,a1,?_,a3⟩;rw[BitVec.getLsbD_and,bT] at a2;exact a2.1
   ·refine⟨n,by omega,hp n (lR' _) (by omega) hb,?_⟩;show(p&&& ~~~(1#32<<<n)).getLsbD n=false;rw[BitVec.getLsbD_and,BitVec.getLsbD_not,BitVec.getLsbD_shiftLeft];have:n<32:=by omega
    simp[this]
  ·rename_i hb;rw[if_neg hb] at h;exact zhC f (n+1) p (λi hi hi2 hr=>hp i (by omega) hi2 hr) (by omega) (by omega) h
theorem zzv(hs:0<(zbd s).1):(zbd s).2.2≠s:=by
 intro e;unfold zbd at hs e;cases ho:zpt s with
 |false=>simp[ho] at hs
 |true=>
  simp only[ho,if_true] at hs e;obtain⟨i,h1,h2,h3⟩:=zhC 15 1 s.pend (λi hi hi2 hr=>by
   unfold zek at hr;split at hr
   ·rw[BitVec.getLsbD_and,BitVec.getLsbD_and,bT,bT] at hr;exact hr.1.1
   ·rw[BitVec.getLsbD_and,bT] at hr;exact hr.1) (by omega) (by omega) hs
  have:=congrArg Sg.pend e;simp only at this;rw[this,h2] at h3;cases h3
theorem zww(h:s.h.length=16):(zbd s).2.2.h.length=16:=by unfold zbd;split<;>exact h
def zjI(s:Sg):Bool:=decide (0<(zbd s).1)
theorem zz9(h:s.h.length=16):Con EE.P 86 [SgV s] m (.bool (zjI s)) m:=by
 refine Con.of zai zH9 (bA rfl) Grow.rfl λhm=>?_;have ho:= @zbv s;have hl:=za6 h;have hs:=zfK h;have h':=zww h;simp only[XX,XY,F86,yA,yB,yC,hs];refine cZ (zv8 h) ?_;have ho':= @zbv (zbd s).2.2;have hl':=za6 h';have hw:=zes h' (c:=ofL (sgL sg0)) rfl;unfold zjI;cases hd:decide (0<(zbd s).1) with
 |false=>simp only[XX,XY,F86,yA,yB,yC,ho',hl',hd];exact tP rfl λy hy=>gA
 |true=>
  have hne:=zzv (s:=s) (of_decide_eq_true hd);have he:∀xo yo m,eqA EE.P .neq 73 xo yo (SgV (zbd s).2.2) (SgV s) m=some (.bool true):=λxo yo m=>by
   obtain⟨r,r1,r2⟩:=zGO h' h (xo:=xo) (yo:=yo);have:r=false:=by
    cases r with
    |false=>rfl
    |true=>exact absurd (r1.1 rfl) hne
   subst this;exact r2 m
  simp only[XX,XY,F86,yA,yB,yC,hs,ho',hl',hd,he];exact tP rfl λy hy=>gA
end
end
end Go.Ab
