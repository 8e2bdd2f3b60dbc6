/- Part. -/
import Derived.Test.YtdhcheegbnnlbaaGreatDoorR12
import Derived.Shelf.Spec.SlicesGrow
import Derived.Test.YtdhcheegbnnlbaaGreatDoorChecked
set_option linter.all false
open Go.Ab.Mem renaming next_bump → bN, next_put → nP, get_bump → gB, get_put → gP
open Nat renaming le_of_ble_eq_true → bA, le_add_right_of_le → lA, lt_of_lt_of_le → lL, le_refl → lR', le_trans → lT
open List renaming getD_eq_getElem?_getD → gD', getElem?_eq_getElem → gE', length_append → aL, getElem?_append_left → aB', getElem?_append_right → aC', getElem?_map → gM', length_map → lM, length_set → sL
open Option.some renaming injEq → sI
open Prod.mk renaming injEq → pI
open Bool renaming false_eq_true → bF
open Go.Ab.CallI renaming ex2 → cX, con0 → cZ
open Go.Ab.TidyE renaming pure → tP
open Go.Ab.Cells renaming ofList → ofL
open Go.Ab.View renaming temps → vT
open Go.Ab.Be renaming trans → bE
open Nat renaming reduceLT → yA, reduceEqDiff → yB, reduceAdd → yC, reduceMul → yD, reduceSub → yE, reducePow → yF, reduceLeDiff → yG
open Int renaming reduceEq → yH, reduceLT → yI, reduceLE → yJ
namespace Go.Ab
open Go.Proofs
noncomputable section
set_option maxHeartbeats 4000000
set_option maxRecDepth 10000
section
variable{m m' M mr:Mem}{n:Nat}{L L' L1 L2:Loc}{X X' X1 X2 Y:St}{v:Value}{fl:List Value}{pid:Int}
def shareS(X:St):Option Nat->St
 |none=>X
 |some x=>{X with F:=X.F.set x {X.x x with refs:=IntKind.i64.wrap ((X.x x).refs+1)}}
def sharesX(X:St)(F:List (Option Nat))(l:List Nat):St:=l.foldl (λY k=>shareS Y (F.getD k none)) X
theorem zkd{k:Nat}{F:List (Option Nat)}{l:List Nat}:sharesX X F (l++ [k])=shareS (sharesX X F l) (F.getD k none):=by unfold sharesX;rw[List.foldl_append];rfl
theorem zql{F:List (Option Nat)}:sharesX X F (List.range 0)=X:=rfl
def forkA(X:St)(i:Nat):St:={X with P:=X.P++ [zfL X i],next:=IntKind.i64.wrap (X.next+1)}
def zbq(X:St)(i:Nat):St:=cloneI (forkA X i) X.P.length ((forkA X i).p i).pages (List.range 64)
def zcQ(X:St)(j:Nat):St:=sharesX X (X.p j).fds (List.range 8)
def zcC(Y:St)(j:Nat):St:={Y with P:=Y.P.set j {Y.p j with cpu:={(Y.p j).cpu with r:=(Y.p j).cpu.r.set 0 0#32,pc:=(Y.p j).cpu.pc+4#32}}}
def zlv(Y:St)(j:Nat):St:={Y with l:=Y.l++ [j]}
def zy9(Y:St)(i j:Nat):St:=zar Y i (BitVec.ofInt 32 (Y.p j).pid)
def zhT(X:St)(i:Nat):St:=if X.procs<=X.l.length∨65535<X.next then zaZ X i 11 else zy9 (zlv (zcC (zcQ (zbq X i) X.P.length) X.P.length) X.P.length) i X.P.length
theorem zdf{c:Int}:zbU EE.P 3 36 (In c) m=some (Um (BitVec.ofInt 32 c)):=by rw[zp1];congr 2;rw[za4,BitVec.toNat_ofInt];omega
def Kl(X Y:St):Prop:=Y.l=X.l∧Y.procs=X.procs∧Y.F.length=X.F.length
theorem zkJ{j:Nat}{F:List (Option Nat)}{l:List Nat}:∀{X:St},Kl X (cloneI X j F l):=by
 induction l with
 |nil=>intro X;exact⟨rfl,rfl,rfl⟩
 |cons k l ih=>
  intro X;have h1:Kl X (zhz X j k (F.getD k none)):=by
   cases F.getD k none with
   |none=>exact⟨rfl,rfl,rfl⟩
   |some g=>exact⟨rfl,rfl,rfl⟩
  obtain⟨a1,a2,a3⟩:=ih (X:=zhz X j k (F.getD k none));exact⟨a1.trans h1.1,a2.trans h1.2.1,a3.trans h1.2.2⟩
theorem zic{F:List (Option Nat)}{l:List Nat}:∀{X:St},Kl X (sharesX X F l):=by
 induction l with
 |nil=>intro X;exact⟨rfl,rfl,rfl⟩
 |cons k l ih=>
  intro X;have h1:Kl X (shareS X (F.getD k none)):=by
   cases F.getD k none with
   |none=>exact⟨rfl,rfl,rfl⟩
   |some g=>exact⟨rfl,rfl,by simp[shareS]⟩
  obtain⟨a1,a2,a3⟩:=ih (X:=shareS X (F.getD k none));exact⟨a1.trans h1.1,a2.trans h1.2.1,a3.trans h1.2.2⟩
theorem Sh.shareS(h:GX X){o:Option Nat}(ho:∀x,o=some x->x<X.F.length):Sh 0 X (shareS X o):=by
 cases o with
 |none=>exact Sh.refl h
 |some x=>exact⟨lR' _,by simp[Go.Ab.shareS],lR' _,lR' _,lR' _,lR' _,lR' _,h.set_x (h.xp x (ho x rfl))⟩
theorem Sh.sharesX{F:List (Option Nat)}{l:List Nat}:∀{X:St},GX X->(∀k x,F.getD k none=some x->x<X.F.length)->Sh 0 X (sharesX X F l):=by
 induction l with
 |nil=>intro X h _;exact Sh.refl h
 |cons k l ih=>intro X h hF;have h1:=Sh.shareS h (o:=F.getD k none) (hF k);exact h1.trans (ih h1.gx λk x e=>lL (hF k x e) h1.F)
theorem zns(h:GX X){i:Nat}(hi:i<X.P.length):PX X (zfL X i):=by refine⟨⟨by simp[zfL],λk g e=>?_⟩,h.fd i hi,λq e=>(by cases e),λc e=>(by cases e),λc e=>(by cases e)⟩;have e:(List.replicate 64 (none:Option Nat)).getD k none=some g:=e;rw[gD',List.getElem?_replicate] at e;split at e<;>cases e
theorem GX.set_next(h:GX X){n:Int}(hn:2<=n∧n<=65536):GX {X with next:=n}:=⟨h.lp,h.pr,h.fr,h.cp,h.co,hn,h.pg,h.fd,h.pp,h.fc,h.fp,h.gc,h.cb,h.xp,h.ib⟩
theorem Sh.forkA(h:GX X){i:Nat}(hi:i<X.P.length)(hn:X.next<=65535):Sh 0 X (forkA X i):=by have h1:=h.add_p (zns h hi);have hnx:=h.nx;have hw:IntKind.i64.wrap (X.next+1)=X.next+1:=zae (by omega) (by omega);exact⟨by simp[Go.Ab.forkA],lR' _,lR' _,lR' _,lR' _,lR' _,lR' _,h1.set_next (n:=IntKind.i64.wrap (X.next+1)) (by rw[hw];omega)⟩
theorem zlr{c:Cpu}:EE.eqv (.agg (zbm c).toArray) (.agg (zbm c).toArray)=true:=zCS λv hv=>by unfold zbm at hv;simp only[List.mem_append,List.mem_cons,List.not_mem_nil,or_false,List.mem_map] at hv;rcases hv with(⟨x,_,rfl⟩|⟨x,_,rfl⟩)|rfl<;>simp[zgZ,vEq,zlo,zV]
theorem zxK{F:List (Option Nat)}{f:Nat->Nat}:EE.eqv (.agg (F.map λx=>pV (x.map f)).toArray) (.agg (F.map λx=>pV (x.map f)).toArray)=true:=zCS λv hv=>by obtain⟨x,_,rfl⟩:=List.mem_map.1 hv;cases x<;>simp[zgZ,vEq,zlo,pV]
theorem zxl(h:FAt m L X)(hm:zad m)(ht:Tb m)(hg:GX X){i:Nat}(hi:i<X.P.length)(hs:X.seen.length<99990)(hf:X.fut.length<99990):∃u m',Con EE.P 189 [PT (L.p i)] m u m'∧Be m L (zhT X i) m':=by
 refine Con.raw zai zGG (bA rfl) _ ?_;obtain⟨cs,h1,h2⟩:=h.pr i hi;obtain⟨cf,f1,f2⟩:=h.fl;have hlenA:∀M,lenA EE.P 67 L.lv M=some (In X.l.length):=λM=>h.ls.lenA zbt;have h64:=hm.n64;by_cases hc:X.procs<=X.l.length∨65535<X.next
 ·have hB:∀K,∃u m',Con EE.P 87 [PT (L.p i),In 11] (m.bump K) u m'∧Be (m.bump K) L (zaZ X i 11) m':=λK=>za1 (h.bump _) hm.bump (ht.bump _) hi (Nat.lt_trans hs (by decide));have e:zhT X i=zaZ X i 11:=by unfold zhT;rw[if_pos hc]
  rw[e];cases d1:decide (X.procs<=(X.l.length:Int)) with
  |true=>simp only[XX,XY,zvE,yA,yB,yC,h1,h2.f,f1,f2.procs,f2.lv,hlenA,d1];refine cX (hB _) λu M hB'=>?_;have hB2:=hB'.of_bump;have nx:=hB2.next;simp only[XX,yA];exact hB2.raw
  |false=>have d2:=decide_eq_true (show 65535<X.next from hc.elim (λe=>absurd e (of_decide_eq_false d1)) _root_.id);simp only[XX,XY,zvE,yA,yB,yC,h1,h2.f,f1,f2.procs,f2.lv,f2.next,hlenA,d1,d2];refine cX (hB _) λu M hB'=>?_;have hB2:=hB'.of_bump;have nx:=hB2.next;simp only[XX,yA];exact hB2.raw
 have d1:=decide_eq_false (show¬X.procs<=(X.l.length:Int) from λe=>hc (.inl e));have d2:=decide_eq_false (show¬65535<X.next from λe=>hc (.inr e));have hl1:¬X.procs<=(X.l.length:Int):=λe=>hc (.inl e);have hnx:X.next<=65535:=by have:¬65535<X.next:=λe=>hc (.inr e);omega
 have eX:zhT X i=zy9 (zlv (zcC (zcQ (zbq X i) X.P.length) X.P.length) X.P.length) i X.P.length:=by unfold zhT;rw[if_neg hc]
 rw[eX];have c1:=h2.cpu;have c2:=h2.saved;have c3:=h2.sig;have c4:=h2.fds;have l1:=zcy h2.okc;have l2:=zcy h2.oks;have hF8:=(hg.fd i hi).1;simp only[XX,XY,zvE,yA,yB,yC,h1,h2.f,f1,f2.procs,f2.lv,f2.next,hlenA,d1,d2,c3];refine cZ (zBY h2.okh) ?_;have b83:=zx2 (f:=L.f) (nx:=X.next) (pr:=(X.p i).pid) (c:=(X.p i).cpu) (d:=(X.p i).saved) (s:={(X.p i).sig with pend:=0#32}) (V:=(X.p i).fds.map λx=>pV (x.map L.x)) (a:=(X.p i).aff) h2.okc h2.oks h2.okh (by simpa using hF8);have b83l:=zg2 (f:=L.f) (nx:=X.next) (pr:=(X.p i).pid) (c:=(X.p i).cpu) (d:=(X.p i).saved) (s:={(X.p i).sig with pend:=0#32}) (V:=(X.p i).fds.map λx=>pV (x.map L.x)) (a:=(X.p i).aff) h2.okc h2.oks h2.okh (by simpa using hF8);have b83o:=zkX (f:=L.f) (nx:=X.next) (pr:=(X.p i).pid) (c:=(X.p i).cpu) (d:=(X.p i).saved) (s:={(X.p i).sig with pend:=0#32}) (V:=(X.p i).fds.map λx=>pV (x.map L.x)) (a:=(X.p i).aff) (by rw[List.all_map];exact List.all_eq_true.2 λx _=>by show oneCell (pV (x.map L.x))=true;cases x<;>rfl);have hPC:=zue (L:=L) (X:=X) (i:=i) h2.okc h2.oks h2.okh hF8;have k1:10+1<=cf.n:=by rw[f2.n];decide
 have nf:∀k,¬L.f=m.next+k:=λk=>by have:=h.ids_lt h.mf;omega
 simp only[XX,XY,zvE,yA,yB,yC,h1,f1,f2.next,c1,c2,c4,h2.pid,h2.aff,b83,k1,nf,@zwL,@zlr,@zxK];obtain⟨j,hjE⟩:∃j,j=X.P.length:=⟨_,rfl⟩;refine CallI.gen (λM=>∃L1,FAt M L1 (forkA X i)∧Lx m.next L L1∧Fd L.D m M∧L1.p i=L.p i∧L1.p j=m.next+54) ?_ λM1 hM1=>?_
 ·have h0:=h.bump 67;have hnD:¬L.D (m.next+54):=λe=>by have:=h.lt _ e;omega
  have A1:=h0.add_p hg (b:=m.next+54) hnD nO (by omega) hPC (zns hg hi);have A2:=A1.s_next (cf:=cf) (x:=IntKind.i64.wrap (X.next+1)) (by show(Mem.put _ _ _).get L.f=_;rw[gP,if_neg (nf 54)];exact f1);have hF2:=(((Fd.refl hm (D:=L.D)).bump 67).putN (b:=m.next+54) (o:= .cells (ofL (zi6 L.f X.next (X.p i).pid (X.p i).cpu (X.p i).saved {(X.p i).sig with pend:=0#32} ((X.p i).fds.map λx=>pV (x.map L.x)) (X.p i).aff)) true 0) (by omega) nO).putO (o:= .cells (cf.write 10 [In (IntKind.i64.wrap (X.next+1))]) true 0) (h.dm _ h.mf) (h.ids_lt h.mf) (by rw[f1];simp);refine⟨{L with P:=L.P++ [m.next+54],D:=λy=>L.D y∨y=m.next+54},?_,⟨rfl,⟨[m.next+54],rfl⟩,⟨[],by simp⟩,⟨[],by simp⟩,⟨[],by simp⟩,⟨[],by simp⟩,λy hy=>hy.imp _root_.id λe=>by omega⟩,?_,?_,?_⟩
  ·simp only[zbp] at A2;exact A2
  ·simp only[zbp] at hF2;exact hF2
  ·exact zce (by rw[h.lP];exact hi)
  ·show(L.P++ [m.next+54]).getD j 0=_;rw[hjE,<-h.lP,zaA]
 obtain⟨L1,a1,x1,f1',e1i,e1j⟩:=hM1;have SA:=Sh.forkA hg hi hnx;have hPA:(forkA X i).P.length=j+1:=by rw[hjE];simp[forkA]
 have hiA:i<(forkA X i).P.length:=by omega
 have hjA:j<(forkA X i).P.length:=by omega
 rw[<-hjE];have hji:i≠j:=by omega
 refine cX (by rw[<-e1i,<-e1j];exact zri a1 f1'.fresh SA.gx hiA hjA hji) λu M2 hB2=>?_;have SB:Sh 0 X (zbq X i):=by unfold zbq;exact SA.trans (Sh.cloneI SA.gx (by rw[<-hjE];exact hjA) λk g e=>(SA.gx.pg i hiA).2 k g e)
 have KB:Kl (forkA X i) (zbq X i):=zkJ;have lB:(zbq X i).l=X.l:=KB.1;have prB:(zbq X i).procs=X.procs:=KB.2.1;have hB2:Be M1 L1 (zbq X i) M2:=by unfold zbq;rw[<-hjE];exact hB2
 have hPB:(forkA X i).P.length<=(zbq X i).P.length:=by unfold zbq;exact(Sh.cloneI SA.gx (by rw[<-hjE];exact hjA) λk g e=>(SA.gx.pg i hiA).2 k g e).P
 generalize zbq X i=B at SB KB lB prB hB2 hPB⊢;have hjB:j<B.P.length:=by omega
 have hiB:i<B.P.length:=by omega
 obtain⟨L2,a2,x2,f2'⟩:=hB2;have e2i:L2.p i=L.p i:=(x2.p (by rw[a1.lP];exact hiA)).trans e1i;have e2j:L2.p j=m.next+54:=(x2.p (by rw[a1.lP];exact hjA)).trans e1j;have e2f:L2.f=L.f:=x2.f.trans x1.f;have n1:=f1'.next;have n2:m.next<=M2.next:=by have:=f2'.next;omega
 have n54:m.next+54<M2.next:=by have:=a2.ids_lt (a2.mp hjB);rw[e2j] at this;exact this
 have xL:Lx m.next L L2:=x1.trans x2 n1;have fL:Fd L.D m M2:=f1'.trans f2' λy hy=>x1.D y hy;have hF2:=f2'.fresh;obtain⟨cj,q1,q2⟩:=a2.pr j hjB;obtain⟨F,hFE⟩:∃F,F=(B.p j).fds:=⟨_,rfl⟩;have eC:zcQ B j=sharesX B F (List.range 8):=by rw[hFE];rfl
 rw[eC];have q3:=q2.fds;rw[<-hFE] at q3;rw[e2j] at q1;have hFl:F.length=8:=by rw[hFE];exact(SB.gx.fd j hjB).1
 have hFx:∀k x,F.getD k none=some x->x<B.F.length:=λk x e=>by rw[hFE] at e;exact(SB.gx.fd j hjB).2 k x e
 have hl8:(F.map λx=>pV (x.map L2.x)).length=8:=by rw[lM];exact hFl
 simp only[XX,XY,zvE,yA,yB,yC,n2,q1,q3];refine WX.loop_of (λkk tt M=>∃k:Nat,k<=8∧kk=8-k∧tt=T 120 [(76,In k),(75, .agg (F.map λx=>pV (x.map L2.x)).toArray),(3,PT (m.next+54)),(2,PT L.f),(0,PT (L.p i))]∧Be M2 L2 (sharesX B F (List.range k)) M) ?_ (k:=8) (t1:=T 120 [(76,In (0:Nat)),(75, .agg (F.map λx=>pV (x.map L2.x)).toArray),(3,PT (m.next+54)),(2,PT L.f),(0,PT (L.p i))]) (vT ⟨rfl,rfl,rfl,rfl,rfl,trivial⟩) ⟨0,by omega,rfl,rfl,by rw[zql];exact Be.same a2 hF2 _⟩;rintro kk tt M ⟨k,hk,rfl,rfl,hB⟩;have nx:m.next<=M.next:=by have:=hB.next;omega
 have SC:=Sh.sharesX (l:=List.range k) SB.gx hFx;have KC:Kl B (sharesX B F (List.range k)):=zic;by_cases hk2:k<8
 ·have g1:(k:Int)<8:=by omega
  have g2:(0:Int)<=k:=by omega
  have g3:(k:Int)<((8:Nat):Int):=by omega
  have hw:IntKind.i64.wrap ((k:Int)+1)=((k+1:Nat):Int):=by rw[zae (by omega) (by omega)];omega
  have hix:ixV EE.P 79 (.agg (F.map λx=>pV (x.map L2.x)).toArray) (In k)=some (pV ((F.getD k none).map L2.x)):=by rw[zf2 zfH g2 g3,zjJ,zfm,znY,Int.toNat_natCast,Nat.mul_one,gM',gD',gE' (by omega)];rfl
  have eS:sharesX B F (List.range (k+1))=shareS (sharesX B F (List.range k)) (F.getD k none):=by rw[List.range_succ,zkd]
  cases hx:F.getD k none with
  |none=>rw[hx] at hix eS;simp only[XX,XY,zvE,yA,yB,yC,zsf,g1,hix,nx,hw,zac,lA];refine⟨8-(k+1),_,_,by omega,vT (l':=[(76,In ((k+1:Nat):Int)),(75, .agg (F.map λx=>pV (x.map L2.x)).toArray),(3,PT (m.next+54)),(2,PT L.f),(0,PT (L.p i))]) ⟨rfl,rfl,rfl,rfl,rfl,trivial⟩,k+1,by omega,rfl,rfl,?_⟩;rw[eS];exact hB.bump _
  |some x=>
   rw[hx] at hix eS;have hxl0:=hFx k x hx;generalize sharesX B F (List.range k)=Y at hB SC KC eS;have hxl:=lL hxl0 SC.F;obtain⟨L3,a3,x3,f3⟩:=hB;have ex:L3.x x=L2.x x:=x3.x (by rw[a2.lF];exact hxl0);obtain⟨cx,p1,p2⟩:=a3.xs x hxl;have p1':=p1;rw[ex] at p1;have k3:2+1<=cx.n:=by rw[p2.n];decide
   simp only[XX,XY,zvE,yA,yB,yC,zc9,g1,hix,nx,p1,p2.refs,k3,hw,zac,lA];refine⟨8-(k+1),_,_,by omega,vT (l':=[(76,In ((k+1:Nat):Int)),(75, .agg (F.map λx=>pV (x.map L2.x)).toArray),(3,PT (m.next+54)),(2,PT L.f),(0,PT (L.p i))]) ⟨rfl,rfl,rfl,rfl,rfl,trivial⟩,k+1,by omega,rfl,rfl,?_⟩;rw[eS,<-ex];exact(bE x3 f3 (a3.be_x f3.fresh hxl (p2.w_refs (x:=IntKind.i64.wrap ((Y.x x).refs+1))))).bump _
 ·obtain rfl:k=8:=by omega
  have g1:¬((8:Nat):Int)<8:=by omega
  generalize sharesX B F (List.range 8)=Y at hB SC KC⊢;have hjY:=lL hjB SC.P;have hiY:=lL hiB SC.P;obtain⟨L3,a3,x3,f3⟩:=hB;have e3i:L3.p i=L.p i:=(x3.p (by rw[a2.lP];exact hiB)).trans e2i;have e3j:L3.p j=m.next+54:=(x3.p (by rw[a2.lP];exact hjB)).trans e2j;have e3f:L3.f=L.f:=x3.f.trans e2f;obtain⟨c3,r1,r2⟩:=a3.pr j hjY;obtain⟨cf3,s1,s2⟩:=a3.fl;rw[e3j] at r1;have hpj:=a3.ids_lt (a3.mp hjY);rw[e3j] at hpj;have hpc:(c3.write 5 [.int .u32 0]).nth 15=some (Um (Y.p j).cpu.pc):=by rw[zaa (.inr (bA rfl)),znk r2]
  have hp1:PC L3 {Y.p j with cpu:={(Y.p j).cpu with r:=(Y.p j).cpu.r.set 0 0#32}} (c3.write 5 [Um 0#32]):=r2.w1_cpu (k:=0) (by decide) (zev r2.okc (by decide)) ⟨by rw[sL];exact r2.okc.1,r2.okc.2⟩;have hp2:=hp1.w1_cpu (k:=10) (x:={(Y.p j).cpu with r:=(Y.p j).cpu.r.set 0 0#32,pc:=(Y.p j).cpu.pc+4#32}) (v:=Um ((Y.p j).cpu.pc+4#32)) (by decide) (zdH hp1.okc) hp1.okc;have ha4:IntKind.u32.wrap (((Y.p j).cpu.pc.toNat:Int)+4)=(((Y.p j).cpu.pc+4#32).toNat:Int):=by rw[<-zcH];rfl
  have k5:5+1<=c3.n:=by rw[r2.n];decide
  have k6:15+1<=c3.n:=by rw[r2.n];decide
  have i0:(0:Int)<=0:=by decide
  have i1:(0:Int)<((8:Nat):Int):=by decide
  have t0:Int.toNat 0=0:=rfl;have u0:(.int .u32 0:Value)=Um 0#32:=rfl;have zDX:∀x:Nat,bsV EE.P 67 1 [(0,PT x)]=some ([PT x],1):=λx=>by kernel_rfl
  have lv3:=s2.lv;rw[e3f] at s1;have nff:¬L.f=m.next+54:=nf 54;have nfM:∀k,¬L.f=M.next+k:=λk=>by have:=h.ids_lt h.mf;omega
  have njM:∀k,¬m.next+54=M.next+k:=λk=>by omega
  simp only[XX,XY,zvE,yA,yB,yC,yE,g1,nx,r1,k5,k6,hpc,ha4,i0,i1,t0,zDX,s1,lv3,nff,zam,lA];obtain⟨Md,hMd⟩:∃Md,Md=((M.put (m.next+54) (.cells (c3.write 5 [.int .u32 0]) true 0)).put (m.next+54) (.cells ((c3.write 5 [.int .u32 0]).write 15 [Um ((Y.p j).cpu.pc+4#32)]) true 0)):=⟨_,rfl⟩;have hMdn:Md.next=M.next:=by rw[hMd];rfl
  have hAD:FAt Md L3 (zcC Y j):=by rw[hMd,<-e3j];exact a3.upd_p hjY hp2 nO (by rw[gP,if_pos rfl];rfl) (λy hy hne=>by rw[gP,if_neg hne,gP,if_neg hne])
  have hFD:Fd L3.D M Md:=by rw[hMd,<-e3j];have hD:=a3.dm _ (a3.mp hjY);have hlt3:=a3.ids_lt (a3.mp hjY);obtain⟨cc,hcc⟩:=a3.cell0 (a3.mp hjY);exact((Fd.refl f3.fresh).putO hD hlt3 (by rw[hcc];simp)).putO hD hlt3 (by rw[hcc];simp)
  have hFDf:=hFD.fresh;have hgd:Md.get (m.next+54)=some (.cells ((c3.write 5 [.int .u32 0]).write 15 [Um ((Y.p j).cpu.pc+4#32)]) true 0):=by rw[hMd,gP,if_pos rfl]
  have hgf:Md.get L.f=some (.cells cf3 true 0):=by rw[hMd,gP,if_neg nff,gP,if_neg nff];exact s1
  have hnd:∀k,¬L3.D (M.next+k):=λk e=>by have:=a3.lt _ e;omega
  have hAb:FAt ((Md.put (M.next+23) (.cells (ofL [PT (m.next+54)]) true 1)).bump 28) L3 (zcC Y j):=(hAD.new (hnd 23)).bump 28;have lY:Y.l=X.l:=KC.1.trans lB;have prY:Y.procs=X.procs:=KC.2.1.trans prB;have hln:(zcC Y j).l.length=X.l.length:=by show Y.l.length=_;rw[lY]
  have h32:=hg.ln;rw[hMd] at hAb;refine zd3 (k:=1) (new:=[PT (m.next+54)]) zAe hAb.ls (zej rfl) (by decide) rfl rfl (.inl rfl) (by rw[hln];omega) λv' M' hA=>?_;rw[<-hMd] at hA;have na:=hA.next;simp only[bN,nP] at na;have hold:∀y,y<Md.next->slB L3.lv≠some y->M'.get y=Md.get y:=λy hy hs=>by rw[hA.old y (by omega) hs,gB,gP,if_neg (by omega)]
  have hltf:=h.ids_lt h.mf;have nlv:∀{y:Nat} {cs:Cells},Md.get y=some (.cells cs true 0)->slB L3.lv≠some y:=λhy=>hAD.ls.ne0 (by decide) hy;have z1:M'.get L.f=some (.cells cf3 true 0):=(hold _ (by omega) (nlv hgf)).trans hgf;have z2:M'.get (m.next+54)=some (.cells ((c3.write 5 [.int .u32 0]).write 15 [Um ((Y.p j).cpu.pc+4#32)]) true 0):=(hold _ (by omega) (nlv hgd)).trans hgd;have z3:5+1<=cf3.n:=by rw[s2.n];decide
  have z4:((c3.write 5 [.int .u32 0]).write 15 [Um ((Y.p j).cpu.pc+4#32)]).nth 1=some (In (Y.p j).pid):=hp2.pid;have nffj:¬m.next+54=L.f:=λe=>nff e.symm;have hsl:SlV M' 1 v' ((zcC Y j).l++ [j]).length (((zcC Y j).l++ [j]).map λi=>PT (L3.p i)):=by rw[aL,List.map_append];show SlV M' 1 v' _ (_++ [PT (L3.p j)]);rw[e3j];exact hA.sl
  obtain⟨cfd,t1,t2⟩:=hAD.fl;have t1':=t1;rw[e3f,hgf] at t1';cases t1';have hpjY:j<(zcC Y j).P.length:=by simpa [zcC] using hjY
  have hres:=hAD.set_lv (M:=M') (v':=v') (id:=M.next+24) (S:=(zcC Y j).l++ [j]) t1 t2 (by omega) ⟨by omega,by omega⟩ (by omega) hold hsl (λk hk=>by
   rcases List.mem_append.1 hk with hk|hk
   ·exact hAD.pi k hk
   ·rw[List.mem_singleton.1 hk];exact hpjY) (by
   rcases hA.blk with⟨e,_⟩|e
   ·exact .inl e
   ·exact .inr (.inl e))
  have hF5:Fd L3.D Md (M'.put L3.f (.cells (cf3.write 5 [v']) true 0)):=by
   refine⟨by rw[nP];omega,zad.of_low nO (λy hy=>?_),λy hy hD=>?_,λy hy e=>?_⟩
   ·rw[nP] at hy;rw[gP,if_neg (by rw[e3f];omega)];exact hA.low y (by omega) (by rw[gB,gP,if_neg (by omega)];exact hFDf.none y (by omega))
   ·rw[gP,if_neg (λe=>hD (by rw[e];exact hAD.dm _ hAD.mf)),hold y hy (λe=>hD (hAD.dl y e))]
   ·rw[gP,if_neg (λe2=>by rw[e2,t1] at e;cases e)];exact hA.low y (by omega) (by rw[gB,gP,if_neg (by omega)];exact e)
  have hx5:Lx Md.next L3 {L3 with f:=L.f,lv:=v',D:=λy=>L3.D y∨y=M.next+24}:=⟨e3f.symm,⟨[],by simp⟩,⟨[],by simp⟩,⟨[],by simp⟩,⟨[],by simp⟩,⟨[],by simp⟩,λy hy=>hy.imp _root_.id λe=>by omega⟩;obtain⟨bs,cs',cb,rfl,_⟩:=hA.sl.cons (by omega);rw[e3f] at hres hF5;have n9:m.next<=M'.next:=by omega
  have SD:Sh 0 Y (zcC Y j):=Sh.set_p SC.gx ((SC.gx.px hjY).w (r':={Y.p j with cpu:={(Y.p j).cpu with r:=(Y.p j).cpu.r.set 0 0#32,pc:=(Y.p j).cpu.pc+4#32}}) rfl rfl (.inl rfl) (.inl rfl));have epid:((zlv (zcC Y j) j).p j).pid=(Y.p j).pid:=by show((Y.P.set j _).getD j zbh).pid=_;rw[zah hjY]
  have htM:Tb M':=by have t0:Tb M2:=ht.fd fL hm h.d64;have t1:Tb M:=t0.fd f3 hF2 a2.d64;have t2:Tb Md:=t1.fd hFD f3.fresh a3.d64;exact t2.keep λy hy=>hold y (by omega) λe=>by have:=hAD.d64 _ (hAD.dl y e);omega
  have sn0:Y.seen.length<=X.seen.length+0:=(SB.trans SC).sn;simp only[XX,XY,zvE,yA,yB,yC,z1,z2,z3,z4,n9,nffj,zdf];refine cX (by rw[<-e3i];exact zaL (L:={L3 with f:=L.f,lv:= .slice (some ⟨bs,0,none⟩) ((zcC Y j).l.length+1) cs',D:=λy=>L3.D y∨y=M.next+24}) (i:=i) (X:=zlv (zcC Y j) j) (hres.bump _) hF5.fresh.bump ((htM.put (h.d64 _ (h.dm _ h.mf))).bump _) (by show i<(Y.P.set j _).length;rw[sL];exact hiY) (show Y.seen.length<100000 by omega)) λu M9 hB9=>?_;have hB9:=hB9.of_bump;have n10:=hB9.next;rw[nP] at n10;have n11:m.next<=M9.next:=by omega
  simp only[XX,yA];refine zcY.fin (by unfold zy9;rw[epid]) (bE xL fL (bE x3 f3 (bE Lx.refl hFD (bE hx5 hF5 hB9))))
end
end
end Go.Ab
namespace Go.Ab
open Go.Shelf Go.Proofs Go.RowKit
noncomputable section
set_option maxHeartbeats 4000000
set_option maxRecDepth 10000
section
variable{P:Program}{ρs:Ren}
theorem zaN.lay{σ:Sig}{ρ:Rho}{m:Mem}{w w':World}(h:Rel σ ρ m w)(hb:Below w.heap.size w w'){id:Nat}(hid:ρ id=none)(hlt:id<m.next){ob:zaS}{x:Nat×Nat×Nat}(hx:w.heap.size<=x.1)
  (hob:zgu σ (upd ρ id x) w' x ob):zaN σ ρ m w (upd ρ id x) (m.put id ob) w':=by
 have he:=zeB hid x;have hge:64<=id:=by
  rcases Nat.lt_or_ge id 64 with hl|hl
  ·rw[h.glob id hl] at hid;cases hid
  ·exact hl
 refine⟨⟨λb hb=>?_,λg hg=>?_,λb o y hb' hy=>?_,?_,λb hb=>by rw[gP,if_neg (by simp at hb;omega)];exact h.fresh b hb⟩,he,lR' _,hb.size,hb.os,hb.tape,hb.output,λk hk _=>hb.block k hk,λb o y hb' hy hlt'=>?_⟩
 ·have:b≠id:=by simp at hb;omega
  simp only[upd,this,if_false];exact h.dom b hb
 ·have:g≠id:=by omega
  simp only[upd,this,if_false];exact h.glob g hg
 ·rw[gP] at hb';by_cases e:b=id
  ·subst e;rw[if_pos rfl] at hb';cases hb';rw[zbo] at hy;cases hy;exact hob
  ·rw[if_neg e] at hb';have hy':ρ b=some y:=by simpa [upd,e] using hy
   have:=h.obj b o y hb' hy';exact this.keep he (hb.block _ this.lt)
 ·intro b1 b2 o1 o2 x1 x2 hne h1 h2 g1 g2 hw;rw[gP] at h1 h2;by_cases e1:b1=id
  ·subst e1;rw[zbo] at g1;cases g1;rw[if_neg (λe=>hne e.symm)] at h2;have e':b2≠b1:=λe=>hne e.symm;have g2':ρ b2=some x2:=by simpa [upd,e'] using g2
   have:=(h.obj b2 o2 x2 h2 g2').lt;omega
  ·rw[if_neg e1] at h1;have g1':ρ b1=some x1:=by simpa [upd,e1] using g1
   by_cases e2:b2=id
   ·subst e2;rw[zbo] at g2;cases g2;have:=(h.obj b1 o1 x1 h1 g1').lt;omega
   ·rw[if_neg e2] at h2;have g2':ρ b2=some x2:=by simpa [upd,e2] using g2
    exact h.inj b1 b2 o1 o2 x1 x2 hne h1 h2 g1' g2' hw
 ·rw[gP] at hb';by_cases e:b=id
  ·subst e;rw[zbo] at hy;cases hy;omega
  ·rw[if_neg e] at hb';exact⟨b,o,y,hb',by simpa [upd,e] using hy,rfl,λhw=>hw⟩
theorem zyA{z:Value}{n i:Nat}(h:i<n):(Builtin.zeroCells #[z] n)[i]? =some z:=by unfold Builtin.zeroCells;rw[Array.getElem?_map];simp[h,Nat.mod_one]
theorem znF{z:Value}{n:Nat}:(Builtin.zeroCells #[z] n).size=n:=by unfold Builtin.zeroCells;simp
theorem zCa(L:Lays8.n4 P ρs){i0:TypeInfo}{z:Value}(hi0:P.info? (ρs.t 25)=some i0)(hz0:i0.zero=some z)(hzc:z.cells= #[z])(hzr:∀ρ:Rho,zaq Sig.none ρ z z)(hs0:i0.size=1)(hb0:i0.bytes<=8){m:Mem}{n:Nat}(hn:0<n)(hn2:n<4294967296):
  Con P (ρs.f 4) [.slice none 0 0, .int .i64 n] m (.slice (some ⟨m.next,0,none⟩) 0 n) ((m.bump 1).put m.next (.cells (ofL (List.replicate n z)) true 1)):=by
 refine⟨λρ w args' hR ha=>?_,by simp,λy hy e=>?_⟩
 ·obtain⟨x1,x2,hx'⟩:∃x1 x2,args'.toList=[x1,x2]:=by
   have h1:=ha.1
   match hl:args'.toList with
   |[x1,x2]=>exact⟨x1,x2,rfl⟩
   |[]=>rw[hl] at h1;simp at h1
   |[_]=>rw[hl] at h1;simp at h1
   |_::_::_::_=>rw[hl] at h1;simp at h1
  have hargs:args'= #[x1,x2]:=by apply Array.toList_inj.1;simpa using hx'
  rw[hx'] at ha;have e1:x1= .slice none 0 0:=by have h:=ha.2 0 (by simp);simp only[List.getD_cons_zero] at h;cases h;rfl
  have e2:x2= .int .i64 n:=by have h:=ha.2 1 (by simp);simp only[List.getD_cons_succ,List.getD_cons_zero] at h;exact h.int_inv
  subst e1 e2 hargs;refine callsIn_wide.2 ((Any8.slices_Grow_grow L i0 z hi0 hz0 (by omega) none 0 0 n [] w (lR' _) (by omega) (lT (Nat.mul_le_mul_left _ hb0) (by omega)) (by omega) (by simp) (λ_=>rfl) (λa ha=>by cases ha)).mono ?_);rintro e w' ⟨rfl,rfl⟩;rw[Nat.zero_add];have hgc:=zhP w n 0 (ρs.t 25);obtain⟨gc,hg⟩:∃gc,gc=grownCap w n 0 (ρs.t 25):=⟨_,rfl⟩;rw[<-hg] at hgc⊢;rw[hzc];have hid:=hR.dom m.next (lR' _);have hB:RowKit.Below w.heap.size w (w.drew.alloc (.cells ([].toArray++Builtin.zeroCells #[z] (n-0)++Builtin.zeroCells #[z] (gc-n)) (ρs.t 25))):=
   ⟨rfl,rfl,rfl,by simp only[World.alloc,World.drew,Array.size_push];omega,λk hk=>by simp only[World.alloc,World.drew,Array.getElem?_push];rw[if_neg (by omega)]⟩
  refine⟨_,upd ρ m.next (w.heap.size,0,gc-n),rfl,?_,(zaN.bump hR 1).trans (zaN.lay (hR.bump 1) hB hid (by simp) (lR' _) ?_),λb hb e=>?_⟩
  ·have:=zaq.slice (σ:=Sig.none) (o:=0) (zbo ρ m.next (w.heap.size,0,gc-n)) (n:=0) (c:=n) (c':=gc) (.inr (by omega)) (Nat.zero_le _);simpa using this
  ·show za2 _ _ _ _ (ofL _).list true 1;rw[Cells.ofList_list];refine⟨_,_,(0,0),by simp only[World.alloc,World.drew,Array.getElem?_push,if_true];rfl,?_,⟨λ_=>rfl,λe=>absurd e (by omega)⟩,λi hi=>?_⟩
   ·simp only[List.length_replicate];show 0+n+(gc-n)*1<=_;simp only[Array.size_append,znF,List.size_toArray,List.length_nil];omega
   ·simp only[List.length_replicate] at hi;rw[gD',List.getElem?_replicate,if_pos hi,Array.getD_eq_getD_getElem?];show zaq _ _ _ ((_:Option Value).getD undef);rw[show(w.heap.size,0,gc-n).snd.fst+i=i from Nat.zero_add i];rw[Array.getElem?_append_left (by rw[Array.size_append,znF];simp;omega)];rw[show([].toArray++Builtin.zeroCells #[z] (n-0))=Builtin.zeroCells #[z] n by simp,zyA hi];exact hzr _
  ·have:b≠m.next:=by omega
   simpa [upd,this] using e
 ·rw[gP,if_neg (by omega)];exact e
theorem ziq(L:Lays8.n4 P ρs){m:Mem}:Con P (ρs.f 4) [.slice none 0 0, .int .i64 0] m (.slice none 0 0) m:=by
 refine⟨λρ w args' hR ha=>?_,Grow.rfl⟩;obtain⟨x1,x2,hx'⟩:∃x1 x2,args'.toList=[x1,x2]:=by
  have h1:=ha.1
  match hl:args'.toList with
  |[x1,x2]=>exact⟨x1,x2,rfl⟩
  |[]=>rw[hl] at h1;simp at h1
  |[_]=>rw[hl] at h1;simp at h1
  |_::_::_::_=>rw[hl] at h1;simp at h1
 have hargs:args'= #[x1,x2]:=by apply Array.toList_inj.1;simpa using hx'
 rw[hx'] at ha;have e1:x1= .slice none 0 0:=by have h:=ha.2 0 (by simp);simp only[List.getD_cons_zero] at h;cases h;rfl
 have e2:x2= .int .i64 ((0:Nat):Int):=by have h:=ha.2 1 (by simp);simp only[List.getD_cons_succ,List.getD_cons_zero] at h;exact h.int_inv
 subst e1 e2 hargs;refine callsIn_wide.2 ((Any8.slices_Grow_room L none 0 0 0 w (lR' _) (by omega) (by omega) (by omega)).mono ?_);rintro e w' ⟨rfl,rfl⟩;exact⟨_,ρ,rfl, .nilSlice,zaN.refl hR,λ_ _ e=>e⟩
end
def zr2:Go.Shelf.Ren:=⟨λ|4=>296|n=>n,λ|22=>67|25=>70|3=>3|4=>4|9=>9|20=>20|0=>0|n=>n,λ|n=>n⟩
theorem ziC:Lays8.n4 Tryz.prog zr2 where
 mixed:=kr
 f4:=⟨"slices.Grow[[]*carryall/flat.proc,*carryall/flat.proc]",by decide,Tryz.func296.trans (congrArg some kr)⟩
 t0:=Tryz.underlying0
 a0:=Tryz.isAgg0
 z0:=Tryz.sizeOf0
 v0:=Tryz.zeroValue0
 t3:=Tryz.underlying3
 a3:=Tryz.isAgg3
 z3:=Tryz.sizeOf3
 v3:=Tryz.zeroValue3
 t4:=Tryz.underlying4
 a4:=Tryz.isAgg4
 z4:=Tryz.sizeOf4
 v4:=Tryz.zeroValue4
 t9:=Tryz.underlying9
 a9:=Tryz.isAgg9
 z9:=Tryz.sizeOf9
 v9:=Tryz.zeroValue9
 t20:=Tryz.underlying20
 a20:=Tryz.isAgg20
 z20:=Tryz.sizeOf20
 v20:=Tryz.zeroValue20
 t22:=Tryz.underlying67
 a22:=Tryz.isAgg67
 z22:=Tryz.sizeOf67
 v22:=Tryz.zeroValue67
def zrS:Go.Shelf.Ren:=⟨λ|4=>295|n=>n,λ|22=>127|25=>5|3=>3|4=>4|9=>9|20=>20|0=>0|n=>n,λ|n=>n⟩
theorem zif:Lays8.n4 Tryz.prog zrS where
 mixed:=kr
 f4:=⟨"slices.Grow[[]byte,byte]",by decide,Tryz.func295.trans (congrArg some kr)⟩
 t0:=Tryz.underlying0
 a0:=Tryz.isAgg0
 z0:=Tryz.sizeOf0
 v0:=Tryz.zeroValue0
 t3:=Tryz.underlying3
 a3:=Tryz.isAgg3
 z3:=Tryz.sizeOf3
 v3:=Tryz.zeroValue3
 t4:=Tryz.underlying4
 a4:=Tryz.isAgg4
 z4:=Tryz.sizeOf4
 v4:=Tryz.zeroValue4
 t9:=Tryz.underlying9
 a9:=Tryz.isAgg9
 z9:=Tryz.sizeOf9
 v9:=Tryz.zeroValue9
 t20:=Tryz.underlying20
 a20:=Tryz.isAgg20
 z20:=Tryz.sizeOf20
 v20:=Tryz.zeroValue20
 t22:=Tryz.underlying127
 a22:=Tryz.isAgg127
 z22:=Tryz.sizeOf127
 v22:=Tryz.zeroValue127
theorem zCy:∃i,Tryz.prog.info? 70=some i∧i.zero=some (.pointer none)∧i.size=1∧i.bytes<=8:=by
 have h1:(Tryz.prog.info? 70).map (λi=>(i.size,i.bytes))=some (1,8):=kr;have h2:(Tryz.prog.info? 70).bind (·.zero)=some (.pointer none):=kr;cases h:Tryz.prog.info? 70 with
 |none=>rw[h] at h1;cases h1
 |some i=>rw[h] at h1 h2;simp only[Option.map_some,sI,pI,Option.bind_some] at h1 h2;exact⟨i,rfl,h2,h1.1,by omega⟩
theorem zHd:∃i,Tryz.prog.info? 5=some i∧i.zero=some (.int .u8 0)∧i.size=1∧i.bytes<=8:=by
 have h1:(Tryz.prog.info? 5).map (λi=>(i.size,i.bytes))=some (1,1):=kr;have h2:(Tryz.prog.info? 5).bind (·.zero)=some (.int .u8 0):=kr;cases h:Tryz.prog.info? 5 with
 |none=>rw[h] at h1;cases h1
 |some i=>rw[h] at h1 h2;simp only[Option.map_some,sI,pI,Option.bind_some] at h1 h2;exact⟨i,rfl,h2,h1.1,by omega⟩
theorem zud{m:Mem}{n:Nat}(hn:0<n)(hn2:n<4294967296):Con EE.P 296 [.slice none 0 0,In n] m (.slice (some ⟨m.next,0,none⟩) 0 n) ((m.bump 1).put m.next (.cells (ofL (List.replicate n (.pointer none))) true 1)):=by obtain⟨i,h1,h2,h3,h4⟩:=zCy;exact zCa (P:=Tryz.prog) ziC h1 h2 rfl (λρ=>zaF ρ rfl) h3 h4 hn hn2
theorem zto{m:Mem}{n:Nat}(hn:0<n)(hn2:n<4294967296):Con EE.P 295 [.slice none 0 0,In n] m (.slice (some ⟨m.next,0,none⟩) 0 n) ((m.bump 1).put m.next (.cells (ofL (List.replicate n (.int .u8 0))) true 1)):=by obtain⟨i,h1,h2,h3,h4⟩:=zHd;exact zCa (P:=Tryz.prog) zif h1 h2 rfl (λρ=>zaF ρ rfl) h3 h4 hn hn2
theorem zx0{m:Mem}:Con EE.P 296 [.slice none 0 0,In 0] m (.slice none 0 0) m:=ziq (P:=Tryz.prog) ziC
theorem zyc{m:Mem}:Con EE.P 295 [.slice none 0 0,In 0] m (.slice none 0 0) m:=ziq (P:=Tryz.prog) zif
end
end Go.Ab
namespace Go.Ab
open Go.Proofs
noncomputable section
set_option maxHeartbeats 4000000
set_option maxRecDepth 10000
section
variable{m m' M mr:Mem}{n:Nat}{v:Value}{fl:List Value}
theorem zbj{sz:Nat}{M M':Mem}{v:Value}(h:∀y,slB v=some y->M'.get y=M.get y):zdY sz v M'=zdY sz v M:=by
 cases v with
 |slice base n c=>
  match base,h with
  |none,_=>cases n<;>rfl
  |some ⟨b,o,none⟩,h=>rw[zgV,zgV,h b rfl]
  |some ⟨b,o,some _⟩,_=>cases n<;>rfl
 |_=>rfl
def tot(f1 f2:List Value):Nat->Nat
 |0=>0
 |1=>f1.length
 |_=>f1.length+f2.length
def zno(f1 f2:List Value):Nat->List Value
 |0=> []
 |1=>f1
 |_=>f1++f2
theorem zgk(hm:zad m){b0:Nat}{v1 v2:Value}{f1 f2:List Value}(hb:m.get b0=some (.cells (ofL [v1,v2]) true 1))(c1:oneCell v1=true)(c2:oneCell v2=true)(s1:zdY 1 v1 m=some (f1,f1.length))(s2:zdY 1 v2 m=some (f2,f2.length))(l1:∀M,lenA EE.P 67 v1 M=some (In f1.length))(l2:∀M,lenA EE.P 67 v2 M=some (In f2.length))(o1:f1.all oneCell=true)(o2:f2.all oneCell=true)(hlen:f1.length+f2.length<1000000)(hv1:∀y,slB v1=some y->y<m.next)(hv2:∀y,slB v2=some y->y<m.next):
  ∃u m',Con EE.P 239 [.slice (some ⟨b0,0,none⟩) 2 2] m u m'∧zcU m m' 1 u (f1.length+f2.length) (f1++f2):=by
 refine Con.raw zai zGS (bA rfl) _ ?_;have hb0:=hm.lt hb;have e0:tot f1 f2 0=0:=rfl;have e1:tot f1 f2 1=f1.length:=rfl;have e2:tot f1 f2 2=f1.length+f2.length:=rfl;simp only[XX,XY,ztn,yA,yB,yC];refine WX.loop_of (λk tt M=>∃j q:Nat,j<=2∧k=2-j∧tt=T 36 [(11,In j),(10,In 2),(9, .slice (some ⟨b0,0,none⟩) 2 2),(3,In (tot f1 f2 j)),(0, .slice (some ⟨b0,0,none⟩) 2 2)]∧M=m.bump q) ?_ (k:=2) (t1:=T 36 [(11,In (0:Nat)),(10,In 2),(9, .slice (some ⟨b0,0,none⟩) 2 2),(3,In (tot f1 f2 0)),(0, .slice (some ⟨b0,0,none⟩) 2 2)]) (vT ⟨rfl,rfl,rfl,rfl,rfl,trivial⟩) ⟨0,_,by omega,rfl,rfl,rfl⟩;rintro kk tt M ⟨j,q,hj,rfl,rfl,rfl⟩;have hq0:(ofL [v1,v2]).nth 0=some v1:=by rw[za7];rfl
 have hq1:(ofL [v1,v2]).nth 1=some v2:=by rw[za7];rfl
 rcases(show j=0∨j=1∨j=2 by omega) with rfl|rfl|rfl
 ·have hw:IntKind.i64.wrap ((tot f1 f2 0:Int)+f1.length)=(tot f1 f2 1:Int):=by rw[zae (by omega) (by omega)];omega
  have d1:=decide_eq_false (show¬(tot f1 f2 1:Int)<0 by omega);have g1:((0:Nat):Int)<2:=by decide
  have g2:(0:Int)<=((0:Nat):Int):=by decide
  have g3:((0:Nat):Int)<((2:Nat):Int):=by decide
  have hw2:IntKind.i64.wrap (((0:Nat):Int)+1)=((1:Nat):Int):=rfl;simp only[XX,XY,ztn,yA,yB,yC,yE,g1,g2,g3,hb,hq0,l1,hw,hw2,d1,zac];exact⟨2-1,_,_,by omega,vT (l':=[(11,In ((1:Nat):Int)),(10,In 2),(9, .slice (some ⟨b0,0,none⟩) 2 2),(3,In (tot f1 f2 1)),(0, .slice (some ⟨b0,0,none⟩) 2 2)]) ⟨rfl,rfl,rfl,rfl,rfl,trivial⟩,1,_,by omega,rfl,rfl,rfl⟩
 ·have hw:IntKind.i64.wrap ((tot f1 f2 1:Int)+f2.length)=(tot f1 f2 2:Int):=by rw[zae (by omega) (by omega)];omega
  have d1:=decide_eq_false (show¬(tot f1 f2 2:Int)<0 by omega);have g1:((1:Nat):Int)<2:=by decide
  have g2:(0:Int)<=((1:Nat):Int):=by decide
  have g3:((1:Nat):Int)<((2:Nat):Int):=by decide
  have hw2:IntKind.i64.wrap (((1:Nat):Int)+1)=((2:Nat):Int):=rfl;simp only[XX,XY,ztn,yA,yB,yC,yE,g1,g2,g3,hb,hq1,l2,hw,hw2,d1,zac];exact⟨2-2,_,_,by omega,vT (l':=[(11,In ((2:Nat):Int)),(10,In 2),(9, .slice (some ⟨b0,0,none⟩) 2 2),(3,In (tot f1 f2 2)),(0, .slice (some ⟨b0,0,none⟩) 2 2)]) ⟨rfl,rfl,rfl,rfl,rfl,trivial⟩,2,_,by omega,rfl,rfl,rfl⟩
 ·have g1:¬((2:Nat):Int)<2:=by decide
  have g1b:¬(2:Int)<2:=by decide
  have ht2:tot f1 f2 2=f1.length+f2.length:=rfl;obtain⟨N,hN⟩:∃N,N=f1.length+f2.length:=⟨_,rfl⟩;rw[ht2,<-hN];simp only[XX,XY,ztn,yA,yB,yC,yE,g1,zam];have hgrow:∀K,∃u M,Con EE.P 296 [.slice none 0 0,In N] (m.bump K) u M∧Nx m M∧SlV M 1 u 0 []∧(∀y,slB u=some y->m.next<=y)∧∃p,u= .slice p 0 N:=λK=>by
   rcases Nat.eq_zero_or_pos N with h0|h0
   ·rw[h0];exact⟨_,_,zx0,(Nx.refl hm).bump K,SlV.nil,λy hy=>(by cases hy),none,rfl⟩
   ·refine⟨_,_,zud h0 (by omega),?_,⟨rfl, .inr ⟨_,N,_,rfl,by rw[gP,if_pos rfl],by rw[zbW,List.length_replicate,Nat.mul_one],Nat.zero_le _,λx hx=>by simp at hx⟩⟩,λy hy=>?_,_,rfl⟩
    ·refine⟨by simp only[nP,bN];omega,zad.of_low (by have:=hm.n64;simp only[nP,bN];omega) (λy hy=>?_),λy hy=>by rw[gP,if_neg nO];rfl⟩;simp only[nP,bN] at hy;rw[gP,if_neg nO];exact hm.none y (by omega)
    ·have e:(m.bump K).next=y:=Option.some.inj hy;rw[bN] at e;omega
  refine cX (by obtain⟨u,M,k1,k2⟩:=hgrow _;exact⟨u,M,k1,k2⟩) λu M hM=>?_;obtain⟨hn,hs,hnew,p,hu⟩:=hM;have nx:=hn.next;simp only[XX,XY,ztn,yA,yB,yC,nx];refine WX.loop_of (λk tt M=>∃(j:Nat) (u:Value),j<=2∧k=2-j∧tt=T 36 [(27,In j),(26,In 2),(25, .slice (some ⟨b0,0,none⟩) 2 2),(6,u),(0, .slice (some ⟨b0,0,none⟩) 2 2)]∧zcU m M 1 u (tot f1 f2 j) (zno f1 f2 j)∧∃p,u= .slice p (tot f1 f2 j) N) ?_ (k:=2) (t1:=T 36 [(27,In (0:Nat)),(26,In 2),(25, .slice (some ⟨b0,0,none⟩) 2 2),(6,u),(0, .slice (some ⟨b0,0,none⟩) 2 2)]) (vT ⟨rfl,rfl,rfl,rfl,rfl,trivial⟩) ⟨0,u,by omega,rfl,rfl,⟨hs.bump _,hn.bump _,hnew⟩,p,hu⟩;rintro kk tt M ⟨j,u,hj,rfl,rfl,hW,p,hup⟩;have nx:=hW.nx.next;have hbM:=hW.nx.keep hm hb;have t1:zdY 1 v1 M=some (f1,f1.length):=by rw[zbj λy hy=>hW.nx.old y (hv1 y hy)];exact s1
  have t2:zdY 1 v2 M=some (f2,f2.length):=by rw[zbj λy hy=>hW.nx.old y (hv2 y hy)];exact s2
  have key:∀(f:List Value) (v:Value) (j1:Nat) (K id:Nat),zdY 1 v M=some (f,f.length)->f.all oneCell=true->tot f1 f2 j1=tot f1 f2 j+f.length->zno f1 f2 j1=zno f1 f2 j++f->tot f1 f2 j1<=N->∃u' M',zaV EE.P id #[67,67] u v (M.bump K)=some (u',M')∧zcU m M' 1 u' (tot f1 f2 j1) (zno f1 f2 j1)∧∃p,u'= .slice p (tot f1 f2 j1) N:=λf v j1 K id hsrc hone e1 e2 hle=>by
   by_cases h0:f.length=0
   ·have hf:f=[]:=List.length_eq_zero_iff.1 h0;subst hf;simp only[List.length_nil,Nat.add_zero,List.append_nil] at e1 e2;obtain⟨i,i1,i2,_⟩:=zAe.info;refine⟨u,M.bump K,?_,?_,?_⟩
    ·rw[hup];exact zgI zbt i1 (by rw[i2,zbj (M:=M) (M':=M.bump K) λy hy=>rfl];exact hsrc) (by omega)
    ·rw[e1,e2];exact hW.bump K
    ·rw[e1];exact⟨p,hup⟩
   ·rcases hW.sl.at_ with⟨q1,q2⟩|⟨bb,c,cs,q1,q2,q3,q4,q5⟩
    ·rw[hup] at q2;injection q2 with _ _ q3;omega
    ·have hcN:c=N:=by rw[q1] at hup;injection hup
     subst hcN;have hbl:=hW.nx.fresh.lt q2;have hbn:=hW.new bb (by rw[q1];rfl);have ha:=zpR (E:=EE) (id:=id) (M:=M.bump K) zAe (by rw[gB];exact q2) q3 (show tot f1 f2 j+f.length<=c by omega) (by rw[zbj (M:=M) (M':=M.bump K) λy hy=>rfl];exact hsrc) h0 (by rw[Nat.mul_one]) hone;have hfl:(zno f1 f2 j).length=tot f1 f2 j:=by have:=hW.sl.len;rw[Nat.mul_one] at this;exact this
     rw[Nat.mul_one] at ha;refine⟨_,_,by rw[q1];exact ha,⟨⟨by rw[e2,aL,hfl,e1,Nat.mul_one], .inr ⟨bb,c,cs.write (tot f1 f2 j) f,by rw[e1],by rw[gP,if_pos rfl],by rw[zap,q3],by omega,λx hx=>?_⟩⟩,?_,λy hy=>?_⟩,_,by rw[e1]⟩
     ·rw[e2,aL,hfl] at hx;rw[zbA,e2];by_cases hx1:x<tot f1 f2 j
      ·rw[if_neg (by omega),q5 x (by omega),gD',gD',aB' (by omega)]
      ·rw[if_pos (by omega),gD',gD',aC' (by omega),hfl]
     ·exact⟨by rw[nP,bN];omega,(hW.nx.fresh.bump).put nO,λy hy=>by rw[gP,if_neg (by omega),gB];exact hW.nx.old y hy⟩
     ·have e:bb=y:=Option.some.inj hy;omega
  rcases(show j=0∨j=1∨j=2 by omega) with rfl|rfl|rfl
  ·have g1:((0:Nat):Int)<2:=by decide
   have g2:(0:Int)<=((0:Nat):Int):=by decide
   have g3:((0:Nat):Int)<((2:Nat):Int):=by decide
   have hw2:IntKind.i64.wrap (((0:Nat):Int)+1)=((1:Nat):Int):=rfl;simp only[XX,XY,ztn,yA,yB,yC,yE,g1,g2,g3,nx,hbM,hq0,lA];obtain⟨u',M',a1,a2,a3⟩:=key f1 v1 1 _ _ t1 o1 (by omega) (by unfold zno;rfl) (by omega);rw[a1];have nx2:=a2.nx.next;simp only[XX,XY,ztn,yA,yB,yC,nx2,hw2,zac];exact⟨2-1,_,_,by omega,vT (l':=[(27,In ((1:Nat):Int)),(26,In 2),(25, .slice (some ⟨b0,0,none⟩) 2 2),(6,u'),(0, .slice (some ⟨b0,0,none⟩) 2 2)]) ⟨rfl,rfl,rfl,rfl,rfl,trivial⟩,1,u',by omega,rfl,rfl,a2.bump _,a3⟩
  ·have g1:((1:Nat):Int)<2:=by decide
   have g2:(0:Int)<=((1:Nat):Int):=by decide
   have g3:((1:Nat):Int)<((2:Nat):Int):=by decide
   have hw2:IntKind.i64.wrap (((1:Nat):Int)+1)=((2:Nat):Int):=rfl;simp only[XX,XY,ztn,yA,yB,yC,yE,g1,g2,g3,nx,hbM,hq1,lA];obtain⟨u',M',a1,a2,a3⟩:=key f2 v2 2 _ _ t2 o2 (by omega) (by unfold zno;rfl) (by omega);rw[a1];have nx2:=a2.nx.next;simp only[XX,XY,ztn,yA,yB,yC,nx2,hw2,zac];exact⟨2-2,_,_,by omega,vT (l':=[(27,In ((2:Nat):Int)),(26,In 2),(25, .slice (some ⟨b0,0,none⟩) 2 2),(6,u'),(0, .slice (some ⟨b0,0,none⟩) 2 2)]) ⟨rfl,rfl,rfl,rfl,rfl,trivial⟩,2,u',by omega,rfl,rfl,a2.bump _,a3⟩
  ·simp only[XX,XY,ztn,yA,yB,yC,yE,g1,nx,zam,lA];exact⟨(hW.bump _).raw,hN▸hW.bump _⟩
theorem zkO(hm:zad m){b0:Nat}{v1 v2:Value}{f1 f2:List Value}(hb:m.get b0=some (.cells (ofL [v1,v2]) true 1))(c1:oneCell v1=true)(c2:oneCell v2=true)(s1:zdY 1 v1 m=some (f1,f1.length))(s2:zdY 1 v2 m=some (f2,f2.length))(l1:∀M,lenA EE.P 127 v1 M=some (In f1.length))(l2:∀M,lenA EE.P 127 v2 M=some (In f2.length))(o1:f1.all oneCell=true)(o2:f2.all oneCell=true)(hlen:f1.length+f2.length<1000000)(hv1:∀y,slB v1=some y->y<m.next)(hv2:∀y,slB v2=some y->y<m.next):
  ∃u m',Con EE.P 233 [.slice (some ⟨b0,0,none⟩) 2 2] m u m'∧zcU m m' 1 u (f1.length+f2.length) (f1++f2):=by
 refine Con.raw zai zFt (bA rfl) _ ?_;have hb0:=hm.lt hb;have e0:tot f1 f2 0=0:=rfl;have e1:tot f1 f2 1=f1.length:=rfl;have e2:tot f1 f2 2=f1.length+f2.length:=rfl;simp only[XX,XY,ztk,yA,yB,yC];refine WX.loop_of (λk tt M=>∃j q:Nat,j<=2∧k=2-j∧tt=T 36 [(11,In j),(10,In 2),(9, .slice (some ⟨b0,0,none⟩) 2 2),(3,In (tot f1 f2 j)),(0, .slice (some ⟨b0,0,none⟩) 2 2)]∧M=m.bump q) ?_ (k:=2) (t1:=T 36 [(11,In (0:Nat)),(10,In 2),(9, .slice (some ⟨b0,0,none⟩) 2 2),(3,In (tot f1 f2 0)),(0, .slice (some ⟨b0,0,none⟩) 2 2)]) (vT ⟨rfl,rfl,rfl,rfl,rfl,trivial⟩) ⟨0,_,by omega,rfl,rfl,rfl⟩;rintro kk tt M ⟨j,q,hj,rfl,rfl,rfl⟩;have hq0:(ofL [v1,v2]).nth 0=some v1:=by rw[za7];rfl
 have hq1:(ofL [v1,v2]).nth 1=some v2:=by rw[za7];rfl
 rcases(show j=0∨j=1∨j=2 by omega) with rfl|rfl|rfl
 ·have hw:IntKind.i64.wrap ((tot f1 f2 0:Int)+f1.length)=(tot f1 f2 1:Int):=by rw[zae (by omega) (by omega)];omega
  have d1:=decide_eq_false (show¬(tot f1 f2 1:Int)<0 by omega);have g1:((0:Nat):Int)<2:=by decide
  have g2:(0:Int)<=((0:Nat):Int):=by decide
  have g3:((0:Nat):Int)<((2:Nat):Int):=by decide
  have hw2:IntKind.i64.wrap (((0:Nat):Int)+1)=((1:Nat):Int):=rfl;simp only[XX,XY,ztk,yA,yB,yC,yE,g1,g2,g3,hb,hq0,l1,hw,hw2,d1,zac];exact⟨2-1,_,_,by omega,vT (l':=[(11,In ((1:Nat):Int)),(10,In 2),(9, .slice (some ⟨b0,0,none⟩) 2 2),(3,In (tot f1 f2 1)),(0, .slice (some ⟨b0,0,none⟩) 2 2)]) ⟨rfl,rfl,rfl,rfl,rfl,trivial⟩,1,_,by omega,rfl,rfl,rfl⟩
 ·have hw:IntKind.i64.wrap ((tot f1 f2 1:Int)+f2.length)=(tot f1 f2 2:Int):=by rw[zae (by omega) (by omega)];omega
  have d1:=decide_eq_false (show¬(tot f1 f2 2:Int)<0 by omega);have g1:((1:Nat):Int)<2:=by decide
  have g2:(0:Int)<=((1:Nat):Int):=by decide
  have g3:((1:Nat):Int)<((2:Nat):Int):=by decide
  have hw2:IntKind.i64.wrap (((1:Nat):Int)+1)=((2:Nat):Int):=rfl;simp only[XX,XY,ztk,yA,yB,yC,yE,g1,g2,g3,hb,hq1,l2,hw,hw2,d1,zac];exact⟨2-2,_,_,by omega,vT (l':=[(11,In ((2:Nat):Int)),(10,In 2),(9, .slice (some ⟨b0,0,none⟩) 2 2),(3,In (tot f1 f2 2)),(0, .slice (some ⟨b0,0,none⟩) 2 2)]) ⟨rfl,rfl,rfl,rfl,rfl,trivial⟩,2,_,by omega,rfl,rfl,rfl⟩
 ·have g1:¬((2:Nat):Int)<2:=by decide
  have g1b:¬(2:Int)<2:=by decide
  have ht2:tot f1 f2 2=f1.length+f2.length:=rfl;obtain⟨N,hN⟩:∃N,N=f1.length+f2.length:=⟨_,rfl⟩;rw[ht2,<-hN];simp only[XX,XY,ztk,yA,yB,yC,yE,g1,zam];have hgrow:∀K,∃u M,Con EE.P 295 [.slice none 0 0,In N] (m.bump K) u M∧Nx m M∧SlV M 1 u 0 []∧(∀y,slB u=some y->m.next<=y)∧∃p,u= .slice p 0 N:=λK=>by
   rcases Nat.eq_zero_or_pos N with h0|h0
   ·rw[h0];exact⟨_,_,zyc,(Nx.refl hm).bump K,SlV.nil,λy hy=>(by cases hy),none,rfl⟩
   ·refine⟨_,_,zto h0 (by omega),?_,⟨rfl, .inr ⟨_,N,_,rfl,by rw[gP,if_pos rfl],by rw[zbW,List.length_replicate,Nat.mul_one],Nat.zero_le _,λx hx=>by simp at hx⟩⟩,λy hy=>?_,_,rfl⟩
    ·refine⟨by simp only[nP,bN];omega,zad.of_low (by have:=hm.n64;simp only[nP,bN];omega) (λy hy=>?_),λy hy=>by rw[gP,if_neg nO];rfl⟩;simp only[nP,bN] at hy;rw[gP,if_neg nO];exact hm.none y (by omega)
    ·have e:(m.bump K).next=y:=Option.some.inj hy;rw[bN] at e;omega
  refine cX (by obtain⟨u,M,k1,k2⟩:=hgrow _;exact⟨u,M,k1,k2⟩) λu M hM=>?_;obtain⟨hn,hs,hnew,p,hu⟩:=hM;have nx:=hn.next;simp only[XX,XY,ztk,yA,yB,yC,nx];refine WX.loop_of (λk tt M=>∃(j:Nat) (u:Value),j<=2∧k=2-j∧tt=T 36 [(27,In j),(26,In 2),(25, .slice (some ⟨b0,0,none⟩) 2 2),(6,u),(0, .slice (some ⟨b0,0,none⟩) 2 2)]∧zcU m M 1 u (tot f1 f2 j) (zno f1 f2 j)∧∃p,u= .slice p (tot f1 f2 j) N) ?_ (k:=2) (t1:=T 36 [(27,In (0:Nat)),(26,In 2),(25, .slice (some ⟨b0,0,none⟩) 2 2),(6,u),(0, .slice (some ⟨b0,0,none⟩) 2 2)]) (vT ⟨rfl,rfl,rfl,rfl,rfl,trivial⟩) ⟨0,u,by omega,rfl,rfl,⟨hs.bump _,hn.bump _,hnew⟩,p,hu⟩;rintro kk tt M ⟨j,u,hj,rfl,rfl,hW,p,hup⟩;have nx:=hW.nx.next;have hbM:=hW.nx.keep hm hb;have t1:zdY 1 v1 M=some (f1,f1.length):=by rw[zbj λy hy=>hW.nx.old y (hv1 y hy)];exact s1
  have t2:zdY 1 v2 M=some (f2,f2.length):=by rw[zbj λy hy=>hW.nx.old y (hv2 y hy)];exact s2
  have key:∀(f:List Value) (v:Value) (j1:Nat) (K id:Nat),zdY 1 v M=some (f,f.length)->f.all oneCell=true->tot f1 f2 j1=tot f1 f2 j+f.length->zno f1 f2 j1=zno f1 f2 j++f->tot f1 f2 j1<=N->∃u' M',zaV EE.P id #[127,127] u v (M.bump K)=some (u',M')∧zcU m M' 1 u' (tot f1 f2 j1) (zno f1 f2 j1)∧∃p,u'= .slice p (tot f1 f2 j1) N:=λf v j1 K id hsrc hone e1 e2 hle=>by
   by_cases h0:f.length=0
   ·have hf:f=[]:=List.length_eq_zero_iff.1 h0;subst hf;simp only[List.length_nil,Nat.add_zero,List.append_nil] at e1 e2;obtain⟨i,i1,i2,_⟩:=zo5.info;refine⟨u,M.bump K,?_,?_,?_⟩
    ·rw[hup];exact zgI zbf i1 (by rw[i2,zbj (M:=M) (M':=M.bump K) λy hy=>rfl];exact hsrc) (by omega)
    ·rw[e1,e2];exact hW.bump K
    ·rw[e1];exact⟨p,hup⟩
   ·rcases hW.sl.at_ with⟨q1,q2⟩|⟨bb,c,cs,q1,q2,q3,q4,q5⟩
    ·rw[hup] at q2;injection q2 with _ _ q3;omega
    ·have hcN:c=N:=by rw[q1] at hup;injection hup
     subst hcN;have hbl:=hW.nx.fresh.lt q2;have hbn:=hW.new bb (by rw[q1];rfl);have ha:=zpR (E:=EE) (id:=id) (M:=M.bump K) zo5 (by rw[gB];exact q2) q3 (show tot f1 f2 j+f.length<=c by omega) (by rw[zbj (M:=M) (M':=M.bump K) λy hy=>rfl];exact hsrc) h0 (by rw[Nat.mul_one]) hone;have hfl:(zno f1 f2 j).length=tot f1 f2 j:=by have:=hW.sl.len;rw[Nat.mul_one] at this;exact this
     rw[Nat.mul_one] at ha;refine⟨_,_,by rw[q1];exact ha,⟨⟨by rw[e2,aL,hfl,e1,Nat.mul_one], .inr ⟨bb,c,cs.write (tot f1 f2 j) f,by rw[e1],by rw[gP,if_pos rfl],by rw[zap,q3],by omega,λx hx=>?_⟩⟩,?_,λy hy=>?_⟩,_,by rw[e1]⟩
     ·rw[e2,aL,hfl] at hx;rw[zbA,e2];by_cases hx1:x<tot f1 f2 j
      ·rw[if_neg (by omega),q5 x (by omega),gD',gD',aB' (by omega)]
      ·rw[if_pos (by omega),gD',gD',aC' (by omega),hfl]
     ·exact⟨by rw[nP,bN];omega,(hW.nx.fresh.bump).put nO,λy hy=>by rw[gP,if_neg (by omega),gB];exact hW.nx.old y hy⟩
     ·have e:bb=y:=Option.some.inj hy;omega
  rcases(show j=0∨j=1∨j=2 by omega) with rfl|rfl|rfl
  ·have g1:((0:Nat):Int)<2:=by decide
   have g2:(0:Int)<=((0:Nat):Int):=by decide
   have g3:((0:Nat):Int)<((2:Nat):Int):=by decide
   have hw2:IntKind.i64.wrap (((0:Nat):Int)+1)=((1:Nat):Int):=rfl;simp only[XX,XY,ztk,yA,yB,yC,yE,g1,g2,g3,nx,hbM,hq0,lA];obtain⟨u',M',a1,a2,a3⟩:=key f1 v1 1 _ _ t1 o1 (by omega) (by unfold zno;rfl) (by omega);rw[a1];have nx2:=a2.nx.next;simp only[XX,XY,ztk,yA,yB,yC,nx2,hw2,zac];exact⟨2-1,_,_,by omega,vT (l':=[(27,In ((1:Nat):Int)),(26,In 2),(25, .slice (some ⟨b0,0,none⟩) 2 2),(6,u'),(0, .slice (some ⟨b0,0,none⟩) 2 2)]) ⟨rfl,rfl,rfl,rfl,rfl,trivial⟩,1,u',by omega,rfl,rfl,a2.bump _,a3⟩
  ·have g1:((1:Nat):Int)<2:=by decide
   have g2:(0:Int)<=((1:Nat):Int):=by decide
   have g3:((1:Nat):Int)<((2:Nat):Int):=by decide
   have hw2:IntKind.i64.wrap (((1:Nat):Int)+1)=((2:Nat):Int):=rfl;simp only[XX,XY,ztk,yA,yB,yC,yE,g1,g2,g3,nx,hbM,hq1,lA];obtain⟨u',M',a1,a2,a3⟩:=key f2 v2 2 _ _ t2 o2 (by omega) (by unfold zno;rfl) (by omega);rw[a1];have nx2:=a2.nx.next;simp only[XX,XY,ztk,yA,yB,yC,nx2,hw2,zac];exact⟨2-2,_,_,by omega,vT (l':=[(27,In ((2:Nat):Int)),(26,In 2),(25, .slice (some ⟨b0,0,none⟩) 2 2),(6,u'),(0, .slice (some ⟨b0,0,none⟩) 2 2)]) ⟨rfl,rfl,rfl,rfl,rfl,trivial⟩,2,u',by omega,rfl,rfl,a2.bump _,a3⟩
  ·simp only[XX,XY,ztk,yA,yB,yC,yE,g1,nx,zam,lA];exact⟨(hW.bump _).raw,hN▸hW.bump _⟩
end
section
variable{m m' M mr:Mem}{n:Nat}{L L' L1 L2:Loc}{X X' X1 X2 Y:St}{v:Value}{fl:List Value}{pid:Int}
def wcB(X:St)(i k:Nat):Bool:=decide ((X.p k).parent=(X.p i).pid)
def wzB(X:St)(i k:Nat):Bool:=decide ((X.p k).parent=(X.p i).pid)&&decide ((X.p k).state=2)
theorem zIZ(h:FAt m L X){i j b z:Nat}(hi:i<X.P.length)(hj:j<X.P.length)(hb:m.get b=some (.cells (ofL [PT (L.p i)]) true z)):Con EE.P 238 [PT (L.p j),PT b] m (.bool (wcB X i j)) m:=by refine Con.of zai zFO (bA rfl) Grow.rfl λhm=>?_;obtain⟨c1,h1,h2⟩:=h.pr i hi;obtain⟨c2,h3,h4⟩:=h.pr j hj;simp only[XX,XY,zIV,yA,yB,yC,h1,h3,hb,h2.pid,h4.parent];exact tP rfl λ_ _=>rfl
theorem zJn(h:FAt m L X){i j b z:Nat}(hi:i<X.P.length)(hj:j<X.P.length)(hb:m.get b=some (.cells (ofL [PT (L.p i)]) true z)):Con EE.P 236 [PT (L.p j),PT b] m (.bool (wzB X i j)) m:=by
 refine Con.of zai zHc (bA rfl) Grow.rfl λhm=>?_;obtain⟨c1,h1,h2⟩:=h.pr i hi;obtain⟨c2,h3,h4⟩:=h.pr j hj;unfold wzB;cases hd:decide ((X.p j).parent=(X.p i).pid) with
 |true=>simp only[XX,XY,zHu,yA,yB,yC,h1,h3,hb,h2.pid,h4.parent,h4.state,hd];exact tP rfl λ_ _=>rfl
 |false=>simp only[XX,XY,zHu,yA,yB,yC,h1,h3,hb,h2.pid,h4.parent,hd,Bool.false_and];exact tP rfl λ_ _=>rfl
def wcI(X:St)(i:Nat):Int:=zca (λk=>wcB X i (X.l.getD k 0)) X.l.length
def wzI(X:St)(i:Nat):Int:=zca (λk=>wzB X i (X.l.getD k 0)) X.l.length
theorem zlY(h:FAt m L X)(hg:GX X){i b z:Nat}(hi:i<X.P.length)(hb:m.get b=some (.cells (ofL [PT (L.p i)]) true z)):Con EE.P 237 [L.lv, .func (.func 238) #[] #[PT b]] m (.bool (decide (0<=wcI X i))) m:=by
 refine Con.of zai zFa (bA rfl) Grow.rfl λhm=>?_;simp only[XX,XY,zIs,yA,yB,yC];refine cZ (zfD (p:=λk=>wcB X i (X.l.getD k 0)) (g:=238) (cap:=[PT b]) (h.ls.bump _) (by simp) (by have:=hg.ln;omega) kr λk j hk=>?_) ?_
 ·rw[zmc h hk,zfl];exact zIZ (h.bump _) hi (h.lk hk) (by rw[gB];exact hb)
 ·have e:zca (λk=>wcB X i (X.l.getD k 0)) X.l.length=wcI X i:=rfl;rw[e];simp only[XX,XY,yA,yB];exact tP rfl λ_ _=>rfl
def waitB(W:St×Int)(i k:Nat):St:=if W.2=0 then zar {W.1 with l:=W.1.l.take k++W.1.l.drop (k+1)} i (BitVec.ofInt 32 (W.1.p (W.1.l.getD k 0)).pid) else zaZ W.1 i W.2
def zgy(X:St)(i:Nat)(a:BitVec 32):St:=if wcI X i<0 then zaZ X i 10 else if wzI X i<0 then{X with P:=X.P.set i {X.p i with wait:=1}} else
 waitB (if a=0#32 then(X,0) else zau X i a (zb4 (X.p (X.l.getD (wzI X i).toNat 0)).status)) i (wzI X i).toNat
theorem zsM{P:Program}{ty e b c k n:Nat}{cs:Cells}{M:Mem}(hu:P.underlying ty=some (.slice e))(hz:zbc P e=some 1)(hb:M.get b=some (.cells cs true 1))(hcs:cs.n=c)(hnc:n<=c)(hg:∀x,x<fl.length->cs.get x=fl.getD x undef)(hl:fl.length=n)(hk:k<=n):
  zb5 P ty (.slice (some ⟨b,0,none⟩) n c) none (some (In k))=some (.slice (some ⟨b,0,none⟩) k c)∧zdY 1 (.slice (some ⟨b,0,none⟩) k c) M=some (fl.take k,(fl.take k).length):=by
 refine⟨?_,?_⟩
 ·rw[zjs hu hz (by omega) (by rw[Int.toNat_natCast];omega),Int.toNat_natCast]
 ·have hlt:(fl.take k).length=k:=by rw[List.length_take];omega
  rw[zgV,hb,zdL,hlt];have:cs.sub 0 (k*1)=some (fl.take k):=zfY (by rw[hlt,Nat.mul_one]) (by omega) λx hx=>by rw[Nat.zero_add,hg x (by omega),gD',gD',List.getElem?_take_of_lt (by omega)]
  rw[this];rfl
theorem zmg{P:Program}{ty e b c k n:Nat}{cs:Cells}{M:Mem}(hu:P.underlying ty=some (.slice e))(hz:zbc P e=some 1)(hb:M.get b=some (.cells cs true 1))(hcs:cs.n=c)(hnc:n<=c)(hg:∀x,x<fl.length->cs.get x=fl.getD x undef)(hl:fl.length=n)(hk:k<=n)(hc0:¬k=0):
  ∃p c',zb5 P ty (.slice (some ⟨b,0,none⟩) n c) (some (In k)) none=some (.slice (some p) (n-k) c')∧zdY 1 (.slice (some p) (n-k) c') M=some (fl.drop k,(fl.drop k).length)∧(p.block=b∨p.block=0):=by
 have hld:(fl.drop k).length=n-k:=by rw[List.length_drop];omega
 by_cases hkc:k<c
 ·refine⟨⟨b,0+k*1,none⟩,c-k,?_,?_, .inl rfl⟩
  ·rw[znb hu hz (by omega) (by rw[Int.toNat_natCast];omega) (by rw[Int.toNat_natCast];omega) hnc,Int.toNat_natCast]
  ·rw[zgV,hb,zdL,hld];have:cs.sub (0+k*1) ((n-k)*1)=some (fl.drop k):=zfY (by rw[hld,Nat.mul_one]) (by omega) λx hx=>by rw[Nat.mul_one] at hx;rw[Nat.zero_add,Nat.mul_one,hg (k+x) (by omega),gD',gD',List.getElem?_drop]
   rw[this];rfl
 ·obtain rfl:k=n:=by omega
  obtain rfl:c=k:=by omega
  refine⟨⟨0,0,some 0⟩,0,?_,?_, .inr rfl⟩
  ·rw[Nat.sub_self];have h0:fl.length≠0∨fl.length=0:=by omega
   unfold zb5;have e1:zfI none c c=some c:=by simp[zfI]
   have e2:zfI (some (In c)) c 0=some c:=by simp only[zfI];rw[if_pos (by omega),Int.toNat_natCast]
   simp only[hu,e1,e2,hz];rw[if_neg hc0,if_neg (by omega),if_pos trivial]
  ·rw[Nat.sub_self,List.drop_of_length_le (by omega)];rfl
theorem zC5{p1 p2:Option Addr}{n1 c1 n2 c2:Nat}:bsV EE.P 405 2 [(0, .slice p1 n1 c1),(1, .slice p2 n2 c2)]=some ([.slice p1 n1 c1, .slice p2 n2 c2],1):=kr
theorem znC{i:Nat}{a:BitVec 32}{l:List (BitVec 8)}:(zau X i a l).1.l=X.l:=by
 unfold zau;split
 ·rfl
 ·split
  ·rfl
  ·exact zeq.2.2.2.1
theorem znj{i:Nat}{a:BitVec 32}{l:List (BitVec 8)}:(zau X i a l).1.P.length=X.P.length:=by
 unfold zau;split
 ·rfl
 ·split
  ·rfl
  ·exact congrArg List.length zeq.1
theorem zys(h:FAt m L X)(hm:zad m)(ht:Tb m)(hg:GX X){i:Nat}(hi:i<X.P.length)(hs:X.seen.length<99990){a:BitVec 32}:∃u m',Con EE.P 190 [PT (L.p i),Um a] m u m'∧Be m L (zgy X i a) m':=by
 refine Con.raw zai zFV (bA rfl) _ ?_;obtain⟨cs,h1,h2⟩:=h.pr i hi;obtain⟨cf,f1,f2⟩:=h.fl;have hlt:=h.ids_lt (h.mp hi);have hltf:=h.ids_lt h.mf;have ne0:¬L.p i=m.next:=by omega
 have ne1:¬L.f=m.next:=by omega
 have hDb:¬L.D m.next:=λe=>by have:=h.lt _ e;omega
 simp only[XX,XY,zrC,yA,yB,yC,h1,h2.f,f1,f2.lv,ne0,ne1];refine CallI.gen (λM=>FAt M L X∧Nx m M∧M.get m.next=some (.cells (ofL [PT (L.p i)]) true 0)∧m.next<M.next∧M.get (L.p i)=some (.cells cs true 0)∧M.get L.f=some (.cells cf true 0)) ⟨(h.new' (j:=0)).bump _,⟨by(try simp only[bN,nP]);omega,zad.of_low (by have:=hm.n64;(try simp only[bN,nP]);omega) (by repeat(first|exact Low.of hm nO|refine Low.put ?_ nO|refine Low.bump ?_)),λy hy=>by simp only[gB,gP,zb3 hy,if_false]⟩,gA,nO,by(simp only[gB,gP];repeat(first|rw[if_neg (by omega)]|rw[if_pos trivial]|rw[if_pos (by omega)]));exact h1,by(simp only[gB,gP];repeat(first|rw[if_neg (by omega)]|rw[if_pos trivial]|rw[if_pos (by omega)]));exact f1⟩ λM0 hM0=>?_;obtain⟨hA0,hN0,hb0,hl0,p1,p2⟩:=hM0;have hF0:=hN0.fresh;have ht0:Tb M0:=ht.nx hm hN0;have hbx:∀{X':St} {M:Mem},Be M0 L X' M->M.get m.next=some (.cells (ofL [PT (L.p i)]) true 0)∧m.next<=M.next:=λhB=>⟨(hB.old hl0 hDb).trans hb0,by have:=hB.next;omega⟩;have n0:m.next<=M0.next:=by omega
 have hln:=hg.ln;refine cZ (zfD (p:=λk=>wzB X i (X.l.getD k 0)) (g:=236) (cap:=[PT m.next]) hA0.ls (by simp) (by omega) kr λk j hk=>?_) ?_
 ·rw[zmc hA0 hk];exact zJn (hA0.bump _) hi (hA0.lk hk) (by rw[gB];exact hb0)
 have ez:zca (λk=>wzB X i (X.l.getD k 0)) X.l.length=wzI X i:=rfl;rw[ez];simp only[XX,XY,zrC,yA,yB,yC,p2,f2.lv,n0];refine cZ (zlY (hA0.bump _) hg hi (by rw[gB];exact hb0)) ?_;by_cases hc:wcI X i<0
 ·have d1:=decide_eq_false (show¬0<=wcI X i by omega);have e:zgy X i a=zaZ X i 10:=by unfold zgy;rw[if_pos hc]
  rw[e];simp only[XX,XY,zrC,yA,yB,yC,hb0,n0,d1,lA];refine cX (za1 (hA0.bump _) hF0.bump (ht0.bump _) hi (Nat.lt_trans hs (by decide))) λu M1 hB=>?_;have hB:=hB.of_bump;have nx:=hB.next;have nx2:m.next<=M1.next:=by omega
  simp only[XX,yA];exact(bE Lx.refl (Fd.of_nx hN0) hB).raw
 have d1:=decide_eq_true (show 0<=wcI X i by omega);by_cases hz:wzI X i<0
 ·have d2:=decide_eq_true hz;have e:zgy X i a={X with P:=X.P.set i {X.p i with wait:=1}}:=by unfold zgy;rw[if_neg hc,if_pos hz]
  have k1:46+1<=cs.n:=by rw[h2.n];decide
  have hp:=h2.w_wait (x:=1);rw[e];simp only[XX,XY,zrC,yA,yB,yC,hb0,p1,n0,d1,d2,k1,lA];exact(bE Lx.refl (Fd.of_nx hN0) ((hA0.be_p hF0 hi hp).bump _)).raw
 have d2:=decide_eq_false hz;have hzc:=zd0 (λk=>wzB X i (X.l.getD k 0)) X.l.length;rw[ez] at hzc;obtain⟨k,hk,_,_,ek⟩:=hzc.resolve_right (λe=>hz (by rw[e.2];decide));have e:zgy X i a=waitB (if a=0#32 then(X,0) else zau X i a (zb4 (X.p (X.l.getD k 0)).status)) i k:=by unfold zgy;rw[if_neg hc,if_neg hz,ek,Int.toNat_natCast]
 rw[e];rw[ek] at d2⊢;have g1:(k:Int)<(X.l.length:Int):=by omega
 have g2:(0:Int)<=(k:Int):=by omega
 obtain⟨bl,cl,cls,elv,k1,k2,k3,k4⟩:=hA0.ls.cons (by omega);have hq:cls.nth k=some (PT (L.p (X.l.getD k 0))):=by rw[zbV (by omega),k4 k (by simp;omega),zmc h hk]
 have hck:=h.lk hk;obtain⟨cc,c1,c2⟩:=hA0.pr _ hck;have hlv:=f2.lv;rw[elv] at hlv;by_cases ha:a=0#32
 ·subst ha;have d3:decide (((0#32:BitVec 32).toNat:Int)=0)=true:=rfl;rw[if_pos rfl];have lW:X.l=X.l:=rfl;have hPW:X.P.length=X.P.length:=rfl;have hiw:i<X.P.length:=by omega
  have hckw:X.l.getD k 0<X.P.length:=by omega
  have eiw:L.p i=L.p i:=(Lx.refl:Lx M0.next L L).p (by rw[h.lP];exact hi);have ekw:L.p (X.l.getD k 0)=L.p (X.l.getD k 0):=(Lx.refl:Lx M0.next L L).p (by rw[h.lP];exact hck);have efw:L.f=L.f:=(Lx.refl:Lx M0.next L L).f;obtain⟨cfw,w1,w2⟩:=hA0.fl;obtain⟨cpw,w3,w4⟩:=hA0.pr _ hckw;have hkw:k<X.l.length:=by rw[lW];exact hk
  obtain⟨bw2,cw2,csw,elw,z1,z2,z3,z4⟩:=hA0.ls.cons (by omega);have w5:=w2.lv;rw[elw] at w5;have w1':=w1;rw[efw] at w1;rw[ekw] at w3;have bw:M0.get m.next=some (.cells (ofL [PT (L.p i)]) true 0):=hb0;have nw:m.next<=M0.next:=n0;have hFw:zad M0:=hF0;have htw:Tb M0:=ht0;obtain⟨hh1,hh2⟩:=zsM (P:=EE.P) zbt zc3 z1 (by omega) z3 z4 (by simp) (Nat.le_of_lt hkw);obtain⟨pt,ct,tt1,tt2,tt3⟩:=zmg (P:=EE.P) (k:=k+1) zbt zc3 z1 (by omega) z3 z4 (by simp) hkw (by omega);have hwk:IntKind.i64.wrap ((k:Int)+1)=((k+1:Nat):Int):=by rw[zae (by omega) (by omega)];omega
  have hqw:csw.nth k=some (PT (L.p (X.l.getD k 0))):=by rw[zbV (by omega),z4 k (by simp;omega),zmc hA0 hkw]
  have hbw:=hFw.lt z1;rw[elw] at elv;injection elv with elv1 _ elv3;injection elv1 with elv1;injection elv1 with elv1;subst elv1 elv3;simp only[XX,XY,zrC,yA,yB,yC,n0,d1,d2,d3,g1,g2,z1,hqw,w1,w5,hh1,tt1,hwk,zC5,lA];have hN3:∀(M:Mem) (hm:zad M) (o:zaS),Nx M ((M.put (M.next+35) o).bump 40):=λM hm o=>⟨by(try simp only[bN,nP]);omega,zad.of_low (by have:=hm.n64;(try simp only[bN,nP]);omega) (by repeat(first|exact Low.of hm nO|refine Low.put ?_ nO|refine Low.bump ?_)),λy hy=>by simp only[gB,gP,zbL hy,if_false]⟩;have hNc:=hN3 M0 hFw (.cells (ofL [.slice (some ⟨bw2,0,none⟩) k cw2, .slice (some pt) (X.l.length-(k+1)) ct]) true 1);have hbw2:bw2<M0.next:=hbw;have h64w:=hFw.n64;have hl1:((X.l.map λi=>PT (L.p i)).take k).length=k:=by rw[List.length_take,lM];omega
  have hl2:((X.l.map λi=>PT (L.p i)).drop (k+1)).length=X.l.length-(k+1):=by rw[List.length_drop,lM]
  have hone:∀x∈X.l.map (λi=>PT (L.p i)),oneCell x=true:=λx hx=>by obtain⟨j,_,rfl⟩:=List.mem_map.1 hx;rfl
  have hNl:X.l.length<100:=by rw[lW];omega
  refine cX (zgk hNc.fresh (b0:=M0.next+35) (by rw[gB,gP,if_pos rfl]) rfl rfl ((zbj λy hy=>hNc.old y (by have e:bw2=y:=Option.some.inj hy;omega)).trans hh2) ((zbj λy hy=>hNc.old y (by have e:pt.block=y:=Option.some.inj hy;omega)).trans tt2) (λM=>by rw[zk7 zfd,hl1]) (λM=>by rw[zk7 zfd,hl2]) (List.all_eq_true.2 λx hx=>hone x (List.mem_of_mem_take hx)) (List.all_eq_true.2 λx hx=>hone x (List.mem_of_mem_drop hx)) (by rw[hl1,hl2];omega) (λy hy=>by have e:bw2=y:=Option.some.inj hy;have:=hNc.next;omega) (λy hy=>by have e:pt.block=y:=Option.some.inj hy;have:=hNc.next;omega)) λu3 M3 hC=>?_;have hNC:=hNc.trans hC.nx;have nC:=hNC.next;obtain⟨S',hS'⟩:∃S',S'=X.l.take k++X.l.drop (k+1):=⟨_,rfl⟩;have hsl3:SlV M3 1 u3 S'.length (S'.map λi=>PT (L.p i)):=by
   have h3:=hC.sl;have e1:(X.l.map λi=>PT (L.p i)).take k++(X.l.map λi=>PT (L.p i)).drop (k+1)=S'.map λi=>PT (L.p i):=by rw[hS',List.map_append,List.map_take,List.map_drop]
   have e2:((X.l.map λi=>PT (L.p i)).take k).length+((X.l.map λi=>PT (L.p i)).drop (k+1)).length=S'.length:=by rw[<-aL,e1,lM]
   rw[e1,e2] at h3;exact h3
  have q1:=hNC.keep hFw w1;have q2:=hNC.keep hFw bw;have q3:=hNC.keep hFw w3;have k5:5+1<=cfw.n:=by rw[w2.n];decide
  obtain⟨id,hid1,hid2⟩:∃id,(M0.next<=id∧id<M3.next)∧(slB u3=some id∨slB u3=none):=by
   cases hu:slB u3 with
   |none=>exact⟨M0.next,⟨lR' _,by have:=hNc.next;have:=hC.nx.next;simp only[bN,nP] at*;omega⟩, .inr rfl⟩
   |some y=>exact⟨y,⟨by have:=hC.new y hu;have:=hNc.next;omega,hC.sl.lt hC.nx.fresh hu⟩, .inl rfl⟩
  have hres:=hA0.set_lv (M:=M3) (v':=u3) (id:=id) (S:=S') w1' w2 nC hid1 h64w (λy hy _=>hNC.old y hy) hsl3 (λj hj=>by
   rw[hS'] at hj;rcases List.mem_append.1 hj with hj|hj
   ·exact hA0.pi j (List.mem_of_mem_take hj)
   ·exact hA0.pi j (List.mem_of_mem_drop hj)) (hid2.elim (λe=> .inr (.inl e)) λe=> .inr (.inr e))
  have hF5:Fd L.D M0 (M3.put L.f (.cells (cfw.write 5 [u3]) true 0)):=(Fd.of_nx hNC).put (.inl (hA0.dm _ hA0.mf)) hA0.lt (.inl (by rw[efw,q1];simp));have hx5:Lx M0.next L {L with f:=L.f,lv:=u3,D:=λy=>L.D y∨y=id}:=⟨efw.symm,⟨[],by simp⟩,⟨[],by simp⟩,⟨[],by simp⟩,⟨[],by simp⟩,⟨[],by simp⟩,λy hy=>hy.imp _root_.id λe=>by omega⟩;rw[efw] at hres hF5;have n9:m.next<=M3.next:=by omega
  have nbf:¬m.next=L.f:=λe=>ne1 e.symm;have ncf:¬L.p (X.l.getD k 0)=L.f:=λe=>h.f_p hck e.symm;have htM:Tb M3:=htw.nx hFw hNC;have eB:waitB (X,0) i k=zar {X with l:=S'} i (BitVec.ofInt 32 (X.p (X.l.getD k 0)).pid):=by unfold waitB;rw[if_pos rfl,hS']
  rw[eB];rcases hC.sl.at_ with⟨_,rfl⟩|⟨b9,c9,cs9,rfl,_⟩
  all_goals
   simp only[XX,XY,zrC,yA,yB,yC,q1,q2,q3,k5,n9,nbf,ncf,w4.pid,zdf];refine cX (by rw[<-eiw];exact zaL (L:={L with f:=L.f,lv:=_,D:=λy=>L.D y∨y=id}) (X:={X with l:=S'}) (i:=i) (hres.bump _) hF5.fresh.bump ((htM.put (h.d64 _ (h.dm _ h.mf))).bump _) hiw (show X.seen.length<100000 by omega)) λu M9 hB9=>?_;have hB9:=hB9.of_bump;have n10:=hB9.next;rw[nP] at n10;have n11:m.next<=M9.next:=by omega
   simp only[XX,yA];exact(bE Lx.refl (Fd.of_nx hN0) (bE (Lx.refl:Lx M0.next L L) (Fd.refl hF0:Fd L.D M0 M0) (bE hx5 hF5 hB9))).raw
 ·have d3:decide ((a.toNat:Int)=0)=false:=decide_eq_false λe=>ha (BitVec.eq_of_toNat_eq (by simpa using e));rw[if_neg ha];simp only[XX,XY,zrC,yA,yB,yC,p2,hlv,n0,d1,d2,d3,g1,g2,k1,hq,c1,c2.status,zHM,lA];have hN1:∀(M:Mem) (hm:zad M) (o:zaS),Nx M ((M.put (M.next+27) o).bump 31):=λM hm o=>⟨by(try simp only[bN,nP]);omega,zad.of_low (by have:=hm.n64;(try simp only[bN,nP]);omega) (by repeat(first|exact Low.of hm nO|refine Low.put ?_ nO|refine Low.bump ?_)),λy hy=>by simp only[gB,gP,zbL hy,if_false]⟩;refine cX (zje (hN1 M0 hF0 _).fresh (ws:=[(X.p (X.l.getD k 0)).status]) (SlV.one rfl) (by decide)) λu1 M1 hW1=>?_;have hN01:=(hN1 M0 hF0 _).trans hW1.nx;have nx1:=hN01.next;have hsl:=hW1.sl;have hwl:([(X.p (X.l.getD k 0)).status].flatMap zb4)=zb4 (X.p (X.l.getD k 0)).status:=by simp
  rw[hwl] at hsl;have hb1:=hN01.keep hF0 hb0;have n1:m.next<=M1.next:=by omega
  have nbk:∀k,¬m.next=M0.next+k:=λk=>by omega
  have lck:=hA0.ids_lt (hA0.mp hck);have nck:∀q,¬L.p (X.l.getD k 0)=M0.next+q:=λq=>by omega
  simp only[XX,XY,zrC,yA,yB,hb1,nbk,hb0,zq1];refine CallI.ex2L (zfB (hA0.nx hN01) hN01.fresh hg hi (a:=a) (l:=zb4 (X.p (X.l.getD k 0)).status) hsl (show(zb4 (X.p (X.l.getD k 0)).status).length<100000 from(by decide:4<100000))) (by simp) λu2 M2 hW2=>?_;obtain⟨rfl,hB2⟩:=hW2;have hBW:Be M0 L (zau X i a (zb4 (X.p (X.l.getD k 0)).status)).1 M2:=bE Lx.refl (Fd.of_nx hN01) hB2;have hSW:=Sh.write (a:=a) (l:=zb4 (X.p (X.l.getD k 0)).status) hg hi;have hWl:(zau X i a (zb4 (X.p (X.l.getD k 0)).status)).1.l=X.l:=znC;have hWP:(zau X i a (zb4 (X.p (X.l.getD k 0)).status)).1.P.length=X.P.length:=znj;generalize zau X i a (zb4 (X.p (X.l.getD k 0)).status)=Wt at hBW hSW hWl hWP⊢;obtain⟨W,wr⟩:=Wt;obtain⟨b2,n2⟩:=hbx hBW;by_cases hwr:wr=0
  ·have d4:=decide_eq_true hwr;subst hwr;simp only at hWP hWl hSW hBW;have hBW0:=hBW;obtain⟨Lw,aw,xw,fw⟩:=hBW;have lW:W.l=X.l:=hWl;have hiw:i<W.P.length:=by omega
   have hckw:X.l.getD k 0<W.P.length:=by omega
   have eiw:Lw.p i=L.p i:=xw.p (by rw[h.lP];exact hi);have ekw:Lw.p (X.l.getD k 0)=L.p (X.l.getD k 0):=xw.p (by rw[h.lP];exact hck);have efw:Lw.f=L.f:=xw.f;obtain⟨cfw,w1,w2⟩:=aw.fl;obtain⟨cpw,w3,w4⟩:=aw.pr _ hckw;have hkw:k<W.l.length:=by rw[lW];exact hk
   obtain⟨bw2,cw2,csw,elw,z1,z2,z3,z4⟩:=aw.ls.cons (by omega);have w5:=w2.lv;rw[elw] at w5;have w1':=w1;rw[efw] at w1;rw[ekw] at w3;have bw:=b2;have nw:=n2;have hFw:zad M2:=hBW0.fresh;have htw:Tb M2:=hBW0.tb hA0 hF0 ht0;obtain⟨hh1,hh2⟩:=zsM (P:=EE.P) zbt zc3 z1 (by omega) z3 z4 (by simp) (Nat.le_of_lt hkw);obtain⟨pt,ct,tt1,tt2,tt3⟩:=zmg (P:=EE.P) (k:=k+1) zbt zc3 z1 (by omega) z3 z4 (by simp) hkw (by omega);have hwk:IntKind.i64.wrap ((k:Int)+1)=((k+1:Nat):Int):=by rw[zae (by omega) (by omega)];omega
   have hbw:=hFw.lt z1;simp only[XX,XY,zrC,yA,yB,yC,nw,w1,w5,hh1,tt1,hwk,zC5,lA];have hN3:∀(M:Mem) (hm:zad M) (o:zaS),Nx M ((M.put (M.next+16) o).bump 21):=λM hm o=>⟨by(try simp only[bN,nP]);omega,zad.of_low (by have:=hm.n64;(try simp only[bN,nP]);omega) (by repeat(first|exact Low.of hm nO|refine Low.put ?_ nO|refine Low.bump ?_)),λy hy=>by simp only[gB,gP,zbL hy,if_false]⟩;have hNc:=hN3 M2 hFw (.cells (ofL [.slice (some ⟨bw2,0,none⟩) k cw2, .slice (some pt) (W.l.length-(k+1)) ct]) true 1);have hbw2:bw2<M2.next:=hbw;have h64w:=hFw.n64;have hl1:((W.l.map λi=>PT (Lw.p i)).take k).length=k:=by rw[List.length_take,lM];omega
   have hl2:((W.l.map λi=>PT (Lw.p i)).drop (k+1)).length=W.l.length-(k+1):=by rw[List.length_drop,lM]
   have hone:∀x∈W.l.map (λi=>PT (Lw.p i)),oneCell x=true:=λx hx=>by obtain⟨j,_,rfl⟩:=List.mem_map.1 hx;rfl
   have hNl:W.l.length<100:=by rw[lW];omega
   refine cX (zgk hNc.fresh (b0:=M2.next+16) (by rw[gB,gP,if_pos rfl]) rfl rfl ((zbj λy hy=>hNc.old y (by have e:bw2=y:=Option.some.inj hy;omega)).trans hh2) ((zbj λy hy=>hNc.old y (by have e:pt.block=y:=Option.some.inj hy;omega)).trans tt2) (λM=>by rw[zk7 zfd,hl1]) (λM=>by rw[zk7 zfd,hl2]) (List.all_eq_true.2 λx hx=>hone x (List.mem_of_mem_take hx)) (List.all_eq_true.2 λx hx=>hone x (List.mem_of_mem_drop hx)) (by rw[hl1,hl2];omega) (λy hy=>by have e:bw2=y:=Option.some.inj hy;have:=hNc.next;omega) (λy hy=>by have e:pt.block=y:=Option.some.inj hy;have:=hNc.next;omega)) λu3 M3 hC=>?_;have hNC:=hNc.trans hC.nx;have nC:=hNC.next;obtain⟨S',hS'⟩:∃S',S'=W.l.take k++W.l.drop (k+1):=⟨_,rfl⟩;have hsl3:SlV M3 1 u3 S'.length (S'.map λi=>PT (Lw.p i)):=by
    have h3:=hC.sl;have e1:(W.l.map λi=>PT (Lw.p i)).take k++(W.l.map λi=>PT (Lw.p i)).drop (k+1)=S'.map λi=>PT (Lw.p i):=by rw[hS',List.map_append,List.map_take,List.map_drop]
    have e2:((W.l.map λi=>PT (Lw.p i)).take k).length+((W.l.map λi=>PT (Lw.p i)).drop (k+1)).length=S'.length:=by rw[<-aL,e1,lM]
    rw[e1,e2] at h3;exact h3
   have q1:=hNC.keep hFw w1;have q2:=hNC.keep hFw bw;have q3:=hNC.keep hFw w3;have k5:5+1<=cfw.n:=by rw[w2.n];decide
   obtain⟨id,hid1,hid2⟩:∃id,(M2.next<=id∧id<M3.next)∧(slB u3=some id∨slB u3=none):=by
    cases hu:slB u3 with
    |none=>exact⟨M2.next,⟨lR' _,by have:=hNc.next;have:=hC.nx.next;simp only[bN,nP] at*;omega⟩, .inr rfl⟩
    |some y=>exact⟨y,⟨by have:=hC.new y hu;have:=hNc.next;omega,hC.sl.lt hC.nx.fresh hu⟩, .inl rfl⟩
   have hres:=aw.set_lv (M:=M3) (v':=u3) (id:=id) (S:=S') w1' w2 nC hid1 h64w (λy hy _=>hNC.old y hy) hsl3 (λj hj=>by
    rw[hS'] at hj;rcases List.mem_append.1 hj with hj|hj
    ·exact aw.pi j (List.mem_of_mem_take hj)
    ·exact aw.pi j (List.mem_of_mem_drop hj)) (hid2.elim (λe=> .inr (.inl e)) λe=> .inr (.inr e))
   have hF5:Fd Lw.D M2 (M3.put Lw.f (.cells (cfw.write 5 [u3]) true 0)):=(Fd.of_nx hNC).put (.inl (aw.dm _ aw.mf)) aw.lt (.inl (by rw[efw,q1];simp));have hx5:Lx M2.next Lw {Lw with f:=L.f,lv:=u3,D:=λy=>Lw.D y∨y=id}:=⟨efw.symm,⟨[],by simp⟩,⟨[],by simp⟩,⟨[],by simp⟩,⟨[],by simp⟩,⟨[],by simp⟩,λy hy=>hy.imp _root_.id λe=>by omega⟩;rw[efw] at hres hF5;have n9:m.next<=M3.next:=by omega
   have nbf:¬m.next=L.f:=λe=>ne1 e.symm;have ncf:¬L.p (X.l.getD k 0)=L.f:=λe=>h.f_p hck e.symm;have htM:Tb M3:=htw.nx hFw hNC;have eB:waitB (W,0) i k=zar {W with l:=S'} i (BitVec.ofInt 32 (W.p (X.l.getD k 0)).pid):=by unfold waitB;rw[if_pos rfl,hS'];show zar _ i (BitVec.ofInt 32 (W.p (W.l.getD k 0)).pid)=_;rw[lW]
   rw[eB];rcases hC.sl.at_ with⟨_,rfl⟩|⟨b9,c9,cs9,rfl,_⟩
   all_goals
    simp only[XX,XY,zrC,yA,yB,yC,q1,q2,q3,k5,n9,nbf,ncf,w4.pid,zdf];refine cX (by rw[<-eiw];exact zaL (L:={Lw with f:=L.f,lv:=_,D:=λy=>Lw.D y∨y=id}) (X:={W with l:=S'}) (i:=i) (hres.bump _) hF5.fresh.bump ((htM.put (h.d64 _ (h.dm _ h.mf))).bump _) hiw (show W.seen.length<100000 by have:=hSW.sn;omega)) λu M9 hB9=>?_;have hB9:=hB9.of_bump;have n10:=hB9.next;rw[nP] at n10;have n11:m.next<=M9.next:=by omega
    simp only[XX,yA];exact(bE Lx.refl (Fd.of_nx hN0) (bE xw fw (bE hx5 hF5 hB9))).raw
  ·have d4:=decide_eq_false hwr;have htW:=hBW.tb hA0 hF0 ht0;obtain⟨Lw,aw,xw,fw⟩:=hBW;have eiw:Lw.p i=L.p i:=xw.p (by rw[h.lP];exact hi);simp only at hWP hWl hSW;have eW:waitB (W,wr) i k=zaZ W i wr:=by unfold waitB;rw[if_neg hwr]
   rw[eW];simp only[XX,XY,zrC,yA,yB,yC,b2,n2,d4,lA];refine cX (by rw[<-eiw];exact za1 (aw.bump _) fw.fresh.bump (htW.bump _) (by rw[hWP];exact hi) (Nat.lt_of_le_of_lt hSW.sn (by omega))) λu M3 hB3=>?_;have hB3:=bE xw fw hB3.of_bump;have nx3:=hB3.next;have nx4:m.next<=M3.next:=by omega
   simp only[XX,yA];exact(bE Lx.refl (Fd.of_nx hN0) hB3).raw
end
section
variable{m m' M mr:Mem}{n:Nat}{L L' L1 L2:Loc}{X X' X1 X2 Y:St}{v:Value}{fl:List Value}{pid:Int}
theorem zzH{r:zb9}{cs:Cells}(h:PC L r cs)(hl:r.fds.length=8){k:Nat}(hk:k<8):cs.nth (52+k)=some (pV ((r.fds.getD k none).map L.x)):=by rw[zcw h.fds hk,gM',gD',gE' (by omega)];rfl
def zwy(X:St)(i:Nat)(a:BitVec 32):Option Nat:=if 8<=a.toNat then none else(X.p i).fds.getD a.toNat none
theorem zAX(h:FAt m L X)(hg:GX X){i:Nat}(hi:i<X.P.length){a:BitVec 32}:Con EE.P 177 [PT (L.p i),Um a] m (pV ((zwy X i a).map L.x)) m:=by
 refine Con.of zai zEI (bA rfl) Grow.rfl λhm=>?_;obtain⟨cs,h1,h2⟩:=h.pr i hi;unfold zwy;by_cases ha:8<=a.toNat
 ·have d1:decide ((8:Int)<=(a.toNat:Int))=true:=decide_eq_true (by omega);rw[if_pos ha];simp only[XX,XY,zHS,yA,yB,yC,d1];exact tP rfl λ_ _=>rfl
 ·have d1:decide ((8:Int)<=(a.toNat:Int))=false:=decide_eq_false (by omega);have hk:a.toNat<8:=by omega
  have g1:(0:Int)<=((a.toNat:Nat):Int):=by omega
  have g2:((a.toNat:Nat):Int)<((8:Nat):Int):=by omega
  have hq:=zzH h2 (hg.fd i hi).1 hk;rw[if_neg ha];simp only[XX,XY,zHS,yA,yB,yC,d1,g1,g2,h1,hq];cases hp:(X.p i).fds.getD a.toNat none with
  |none=>exact tP rfl λ_ _=>rfl
  |some g=>exact zjL (h.ids_lt (h.mx ((hg.fd i hi).2 _ _ hp))) λ_ _=>rfl
def zc0(F:List (Option Nat))(k:Nat):List Nat:=(List.range k).filter λk=>(F.getD k none).isNone
theorem zor{F:List (Option Nat)}{k:Nat}:zc0 F (k+1)=zc0 F k++if(F.getD k none).isNone then [k] else []:=by unfold zc0;rw[List.range_succ,List.filter_append];congr 1;rw[List.filter_cons,List.filter_nil]
theorem zj2{F:List (Option Nat)}{k:Nat}:(zc0 F k).length<=k:=by have:=List.length_filter_le (λk=>(F.getD k none).isNone) (List.range k);simpa [zc0] using this
theorem zs1{F:List (Option Nat)}{k j:Nat}:j∈zc0 F k↔j<k∧F.getD j none=none:=by unfold zc0;rw[List.mem_filter,List.mem_range];cases F.getD j none<;>simp
abbrev nl(l:List Nat):List Value:=l.map λk:Nat=>In (k:Int)
theorem zzf(h:FAt m L X)(hm:zad m)(hg:GX X){i:Nat}(hi:i<X.P.length):∃u m',Con EE.P 178 [PT (L.p i)] m u m'∧zcU m m' 1 u (zc0 (X.p i).fds 8).length (nl (zc0 (X.p i).fds 8)):=by
 refine Con.raw zai zFc (bA rfl) _ ?_;obtain⟨cs,h1,h2⟩:=h.pr i hi;have hfl:=(hg.fd i hi).1;have hsub:=h2.fds;simp only[XX,XY,zDq,yA,yB,yC,h1,hsub];refine WX.loop_of (λkk tt M=>∃(k:Nat) (u:Value) (x4 x5:Value),k<=8∧kk=8-k∧tt=T 22 [(10,In k),(9, .agg ((X.p i).fds.map λx=>pV (x.map L.x)).toArray),(3,u),(0,PT (L.p i))]∧zcU m M 1 u (zc0 (X.p i).fds k).length (nl (zc0 (X.p i).fds k))) ?_ (k:=8) (t1:=T 22 [(10,In (0:Nat)),(9, .agg ((X.p i).fds.map λx=>pV (x.map L.x)).toArray),(3, .slice none 0 0),(0,PT (L.p i))]) (vT ⟨rfl,rfl,rfl,rfl,trivial⟩) ⟨0,_,undef,undef,by omega,rfl,rfl,(zcU.nil hm).bump _⟩;rintro kk tt M ⟨k,u,_,_,hk,rfl,rfl,hN⟩;have nx:=hN.nx.next;have hle:=zj2 (F:=(X.p i).fds) (k:=k);by_cases hk2:k<8
 ·have g1:(k:Int)<8:=by omega
  have g2:(0:Int)<=k:=by omega
  have g3:(k:Int)<((8:Nat):Int):=by omega
  have hw:IntKind.i64.wrap ((k:Int)+1)=((k+1:Nat):Int):=by rw[zae (by omega) (by omega)];omega
  have hix:ixV EE.P 79 (.agg ((X.p i).fds.map λx=>pV (x.map L.x)).toArray) (In k)=some (pV (((X.p i).fds.getD k none).map L.x)):=by rw[zf2 zfH g2 g3,zjJ,zfm,znY,Int.toNat_natCast,Nat.mul_one,gM',gD',gE' (by omega)];rfl
  have eF:=zor (F:=(X.p i).fds) (k:=k);cases hx:(X.p i).fds.getD k none with
  |some x=>rw[hx] at hix eF;simp only[Option.isNone_some,bF,if_false,List.append_nil] at eF;simp only[XX,XY,zDq,yA,yB,yC,zc9,g1,hix,nx,hw,zac,lA];refine⟨8-(k+1),_,_,by omega,vT (l':=[(10,In ((k+1:Nat):Int)),(9, .agg ((X.p i).fds.map λx=>pV (x.map L.x)).toArray),(3,u),(0,PT (L.p i))]) ⟨rfl,rfl,rfl,rfl,trivial⟩,k+1,u,undef,undef,by omega,rfl,rfl,?_⟩;rw[eF];exact hN.bump _
  |none=>
   rw[hx] at hix eF;simp only[Option.isNone_none,if_true] at eF;simp only[XX,XY,zDq,yA,yB,yC,zsf,g1,hix,nx,zHw,lA];refine zcU.app1 zHD (by decide) hm hN rfl rfl ⟨by omega,by omega⟩ ⟨by omega,by omega⟩ (by omega) λv' M' hN' hn' _=>?_;have n4:m.next<=M'.next:=by omega
   simp only[XX,XY,zDq,yA,yB,yC,hw,n4,zac];refine⟨8-(k+1),_,_,by omega,vT (l':=[(10,In ((k+1:Nat):Int)),(9, .agg ((X.p i).fds.map λx=>pV (x.map L.x)).toArray),(3,v'),(0,PT (L.p i))]) ⟨rfl,rfl,rfl,rfl,trivial⟩,k+1,v',undef,undef,by omega,rfl,rfl,?_⟩;rw[eF,aL];show zcU m _ 1 v' _ (nl (_++_));rw[nl,List.map_append];exact hN'.bump _
 ·obtain rfl:k=8:=by omega
  have g1:¬((8:Nat):Int)<8:=by omega
  simp only[XX,XY,zDq,yA,yB,yC,yE,g1,nx,zam,lA];exact⟨(hN.bump _).raw,hN.bump _⟩
theorem zrp{x y:Operand}{p:Addr}{c:Nat}:eqA EE.P .eql 127 x y (.slice (some p) n c) (.slice none 0 0) m=some (.bool false):=by unfold eqA;rfl
theorem zmk{x y:Operand}:eqA EE.P .eql 127 x y (.slice none 0 0) (.slice none 0 0) m=some (.bool true):=kr
theorem zsu(hm:zad m)(hv:v= .slice none 0 0∧n=0∧fl=[]∨∃q c,v= .slice (some q) n c∧q.block<m.next)(hsrc:zdY 1 v m=some (fl,n))(hl:fl.length=n)(h1:fl.all oneCell=true)(hn:n<100000):∃u m',Con EE.P 231 [v] m u m'∧zcU m m' 1 u n fl:=by
 refine Con.raw zai zFi (bA rfl) _ ?_;rcases hv with⟨rfl,rfl,rfl⟩|⟨⟨b,off,lo⟩,c,rfl,hb⟩
 ·simp only[XX,XY,zH5,yA,yB,yC,zmk];have hN:zcU m (m.bump 4) 1 (.slice none 0 0) 0 []:=⟨SlV.nil,(Nx.refl hm).bump _,λy hy=>by cases hy⟩;exact⟨hN.raw,hN⟩
 ·have b0:bsV EE.P 127 0 []=some ([],1):=kr;simp only[XX,XY,zH5,yA,yB,yC,zrp,b0];have hb:b<m.next:=hb;have hx:Nx m ((m.put (m.next+3) (zaS.cells (ofL []) true 1)).bump 7):=⟨by(try simp only[bN,nP]);omega,zad.of_low (by have:=hm.n64;(try simp only[bN,nP]);omega) (by repeat(first|exact Low.of hm nO|refine Low.put ?_ nO|refine Low.bump ?_)),λy hy=>by simp only[gB,gP,zbL hy,if_false]⟩;have hs':zdY 1 (.slice (some ⟨b,off,lo⟩) n c) ((m.put (m.next+3) (zaS.cells (ofL []) true 1)).bump 7)=some (fl,n):=(zbj λy hy=>hx.old y (by have e:b=y:=Option.some.inj hy;omega)).trans hsrc;have he:SlV ((m.put (m.next+3) (zaS.cells (ofL []) true 1)).bump 7) 1 (.slice (some ⟨m.next+3,0,none⟩) 0 0) 0 []:=⟨by simp, .inr ⟨m.next+3,0,ofL [],rfl,gA,rfl,lR' _,λx hx=>by simp at hx⟩⟩;by_cases h0:n=0
  ·subst h0;have hf:fl=[]:=by simpa using hl
   subst hf;obtain⟨i,i1,i2,_⟩:=zo5.info;rw[zgI zbf i1 (by rw[i2];exact hs') (lR' _)];simp only[XX,XY,yA,yB];have hN:zcU m ((m.put (m.next+3) (zaS.cells (ofL []) true 1)).bump 7) 1 (.slice (some ⟨m.next+3,0,none⟩) 0 0) 0 []:=⟨he,hx,λy hy=>by have e:m.next+3=y:=Option.some.inj hy;omega⟩;exact⟨hN.raw,hN⟩
  ·refine zd3 (new:=fl) zo5 he hs' h0 (by omega) h1 (.inr λa c e=>by cases e;rfl) (by omega) λv' M' hA=>?_;have n1:=hA.next;simp only[bN,nP] at n1;have hsl:=hA.sl;simp only[Nat.zero_add,List.nil_append] at hsl;simp only[XX,XY,yA,yB];have hN:zcU m M' 1 v' n fl:=by
    refine⟨hsl,⟨by omega,zad.of_low (by have:=hm.n64;omega) λy hy=>hA.low y (by omega) (hx.fresh.none y nO),λy hy=>?_⟩,λy hy=>?_⟩
    ·rw[hA.old y (by omega) (λe=>by have e:m.next+3=y:=Option.some.inj e;omega),hx.old y hy]
    ·rcases hA.blk with⟨e,_⟩|e
     ·rw[e] at hy;have e:m.next+3=y:=Option.some.inj hy;omega
     ·rw[e] at hy;have e:m.next+5=y:=Option.some.inj hy;omega
   exact⟨hN.raw,hN⟩
end
end
end Go.Ab
