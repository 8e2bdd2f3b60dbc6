/- Part. -/
import Derived.Test.YtdhcheegbnnlbaaGreatDoorR16
import Derived.Laws.StructEq
import Derived.ChangeKeysEq
import Derived.WalkKit
import Derived.ProofKit
import Derived.OpenShut
import Derived.ChangeOld
import Derived.Carry
import Derived.LaidMore
set_option linter.all false
open Go.Ab.Mem renaming next_bump → bN, next_put → nP, get_bump → gB, get_put → gP
open Nat renaming le_of_ble_eq_true → bA, le_add_right_of_le → lA, lt_of_lt_of_le → lL, le_refl → lR', le_trans → lT
open List renaming getD_eq_getElem?_getD → gD', getElem?_eq_getElem → gE', length_append → aL, getElem?_map → gM', length_map → lM
open Option.some renaming injEq → sI
open Prod.mk renaming injEq → pI
open Go.Ab.CallI renaming ex2 → cX
open Go.Ab.TidyE renaming pure → tP
open Go.Ab.Cells renaming ofList → ofL
open Go.Ab.View renaming temps → vT
open Go.Ab.Be renaming trans → bE
open Nat renaming reduceLT → yA, reduceEqDiff → yB, reduceAdd → yC, reduceMul → yD, reduceSub → yE, reducePow → yF, reduceLeDiff → yG
open Int renaming reduceEq → yH, reduceLT → yI, reduceLE → yJ
namespace Go.Ab
open Go.Proofs
noncomputable section
set_option maxHeartbeats 4000000
set_option maxRecDepth 10000
section
variable{m m' M mr:Mem}{n:Nat}{L L' L1 L2:Loc}{X X' X1 X2 Y W:St}{v w:Value}{fl:List Value}{pid:Int}{b:zff}
def zjW(k:Nat):Nat:=(k*4+63)/64
def zzz(b:zff):Prop:=((1<=b.cores∧b.cores<=8)∧(1<=b.frames∧b.frames<=256)∧(1<=b.procs∧b.procs<=32)∧(1<=b.cap∧b.cap<=64))∧1<=b.prog.length∧b.prog.length<=512∧(zjW b.prog.length:Int)<=b.frames
def zEh(b:zff):BitVec 32:=(1#32<<<b.cores.toNat)-1#32
def zg0(b:zff):zb9:={zbh with pid:=1,state:=1,aff:=zEh b}
def new0(b:zff):St:=⟨b.cores,b.frames,b.procs,b.cap,[],[],0,0,0,2,false,[],[zg0 b],[],[],[],[]⟩
def wrds(X:St)(l:List (BitVec 32))(k:Nat):St:=(List.range k).foldl (λY i=>(zau Y 0 (BitVec.ofNat 32 (i*4)) (zb4 (l.getD i 0#32))).1) X
def zy5(b:zff):St:={wrds (zaz (new0 b) 0 0#32 (BitVec.ofNat 32 (zjW b.prog.length)) 1#32).1 b.prog b.prog.length with l:=[0]}
def ztf(b:zff)(pv:Value):List Value:=zbE b pv++ [.slice none 0 0, .slice none 0 0,In 0,In 0,In 0,In 2, .bool false, .slice none 0 0]
abbrev zli(f:Nat)(a:BitVec 32):List Value:=zi6 f 1 0 zov zov sg0 (List.replicate 8 (.pointer none)) a
def zHe(fb pb:Nat)(pv:Value):Loc:=⟨fb,[pb],[],[],[],[], .slice none 0 0, .slice none 0 0, .slice none 0 0,pv,[],λy=>y=fb∨y=pb⟩
theorem zxq{pv:Value}:zaT EE.P 69 [(0, .agg (zbE b pv).toArray),(6,In 2)]=some (.agg (ztf b pv).toArray):=by
 obtain⟨c,f,p,q,l⟩:=b
 kernel_rfl
theorem zuW{f:Nat}{a:BitVec 32}:zaT EE.P 83 [(0,PT f),(1,In 1),(3,In 1),(13,Um a)]=some (.agg (zli f a).toArray):=kr
theorem ztQ(hL:L.f=n):PC L (zg0 b) (ofL (zli n (zEh b))):=by
 subst hL;generalize ha:zEh b=a;have hr:zg0 b={zbh with pid:=1,state:=1,aff:=a}:=by unfold zg0;rw[ha]
 rw[hr];generalize hf:L.f=f;refine⟨rfl,?_,?_,?_,?_,?_,?_,?_,?_,?_,?_,?_,?_,?_,?_,?_,zf9,zf9,rfl⟩
 ·rw[hf];kernel_rfl
 all_goals kernel_rfl
theorem FAt.new0{fb pb:Nat}(h1:m.get fb=some (.cells (ofL (ztf b v)) true 0))(h2:m.get pb=some (.cells (ofL (zli fb (zEh b))) true 0))(hne:fb≠pb)(hl:fb<m.next∧pb<m.next)(h64:64<=fb∧64<=pb):FAt m (zHe fb pb v) (new0 b):=by
 refine⟨⟨_,h1,?_⟩,λk hk=>?_,λk hk=>?_,λk hk=>?_,λk hk=>?_,λk hk=>?_,rfl,rfl,rfl,rfl,rfl,rfl,?_,?_,SlV.nil,SlV.nil,SlV.nil,λk hk=>?_,λy hy=>?_,λy hy=>?_,λy hy=>?_,λk y hk=>?_,λy hy=>?_,?_,?_,λj hj=>?_,λj hj=>?_⟩
 ·obtain⟨c,f,p,q,l⟩:=b;exact⟨rfl,rfl,rfl,rfl,rfl,rfl,rfl,rfl,rfl,rfl,rfl,rfl,rfl,rfl⟩
 ·obtain rfl:k=0:=by simp[Go.Ab.new0] at hk;omega
  exact⟨_,h2,ztQ rfl⟩
 ·exact absurd hk (Nat.not_lt_zero _)
 ·exact absurd hk (Nat.not_lt_zero _)
 ·exact absurd hk (Nat.not_lt_zero _)
 ·exact absurd hk (Nat.not_lt_zero _)
 ·show [fb,pb].Nodup;simp[hne]
 ·intro y hy;have:y∈ [fb,pb]:=hy;show y=fb∨y=pb;simpa using this
 ·exact absurd hk (Nat.not_lt_zero _)
 ·cases hy
 ·cases hy
 ·cases hy
 ·exact absurd hk (Nat.not_lt_zero _)
 ·cases hy
 ·intro y hy;rcases hy with rfl|rfl
  ·exact hl.1
  ·exact hl.2
 ·intro y hy;rcases hy with rfl|rfl
  ·exact h64.1
  ·exact h64.2
 ·cases hj
 ·cases hj
theorem GX.new0(hb:zzz b):GX (new0 b):=by
 obtain⟨⟨a1,a2,a3,a4⟩,_⟩:=hb;have key:∀i,i<(Go.Ab.new0 b).P.length->(Go.Ab.new0 b).p i=zg0 b:=λi hi=>by
  obtain rfl:i=0:=by simp[Go.Ab.new0] at hi;omega
  rfl
 refine⟨by show((0:Nat):Int)<=b.procs;omega,a3,a2,a4,a1,⟨by show(2:Int)<=2;decide,by show(2:Int)<=65536;decide⟩,λi hi=>?_,λi hi=>?_,λi hi q hq=>?_,λi hi q hq=>?_,λi hi q hq=>?_,λg hg=>absurd hg (Nat.not_lt_zero _),λg hg=>absurd hg (Nat.not_lt_zero _),λg hg=>absurd hg (Nat.not_lt_zero _),λg hg=>absurd hg (Nat.not_lt_zero _)⟩
 ·rw[key i hi];refine⟨rfl,λk g hk=>?_⟩;have hk:(List.replicate 64 (none:Option Nat)).getD k none=some g:=hk;rw[gD',List.getElem?_replicate] at hk;split at hk<;>cases hk
 ·rw[key i hi];refine⟨rfl,λk g hk=>?_⟩;have hk:(List.replicate 8 (none:Option Nat)).getD k none=some g:=hk;rw[gD',List.getElem?_replicate] at hk;split at hk<;>cases hk
 ·rw[key i hi] at hq;cases hq
 ·rw[key i hi] at hq;cases hq
 ·rw[key i hi] at hq;cases hq
theorem Sh.wrds(h:GX X)(hi:0<X.P.length){l:List (BitVec 32)}:∀{k:Nat},Sh 0 X (wrds X l k)∧Kk X (wrds X l k)
 |0=>⟨Sh.refl h,Kk.refl⟩
 |k+1=>by
  obtain⟨a,c⟩:=Sh.wrds h hi (l:=l) (k:=k);have e:Go.Ab.wrds X l (k+1)=(zau (Go.Ab.wrds X l k) 0 (BitVec.ofNat 32 (k*4)) (zb4 (l.getD k 0#32))).1:=by unfold Go.Ab.wrds;rw[List.range_succ,List.foldl_append];rfl
  rw[e];exact⟨a.trans (Sh.write a.gx (lL hi a.P)),c.trans Kk.write⟩
theorem FAt.set_gv(h:FAt m L X){cf:Cells}{v':Value}(f1:m.get L.f=some (.cells cf true 0)):FAt (m.put L.f (.cells (cf.write 4 [v']) true 0)) {L with gv:=v'} X:=by
 obtain⟨c,a1,f2⟩:=h.fl;rw[f1] at a1;cases a1;refine⟨⟨_,by rw[gP,if_pos rfl],⟨by rw[zap,f2.n],nwl f2.cores,nwl f2.frames,nwl f2.procs,nwl f2.cap,zak (by rw[f2.n];decide),nwr f2.lv,nwr f2.fv,nwr f2.contents,nwr f2.files,nwr f2.pipes,nwr f2.next,nwr f2.halted,nwr f2.sv⟩⟩,λk hk=>?_,λk hk=>?_,λk hk=>?_,λk hk=>?_,λk hk=>?_,h.lP,h.lG,h.lC,h.lI,h.lF,h.lb,h.nd,h.dm,h.ls.put0 (by decide) f1,h.fs.put0 (by decide) f1,h.ss.put0 (by decide) f1,λk hk=>(h.bs k hk).put0 (by decide) f1,h.dl,h.df,h.ds,h.db,h.sep,h.lt,h.d64,h.pi,h.pf⟩
 ·obtain⟨c,e1,e2⟩:=h.pr k hk;exact⟨c,by rw[gP,if_neg (λe=>h.f_p hk e.symm)];exact e1,e2.move rfl (λ_ _=>rfl) (λ_ _ _=>rfl) (λ_ _ _=>rfl) (λ_ _=>rfl) (λ_ _=>rfl)⟩
 ·obtain⟨c,e1,e2⟩:=h.pg k hk;exact⟨c,by rw[gP,if_neg (λe=>h.f_g hk e.symm)];exact e1,e2.move rfl⟩
 ·obtain⟨c,e1,e2⟩:=h.ct k hk;exact⟨c,by rw[gP,if_neg (λe=>h.f_c hk e.symm)];exact e1,e2.move⟩
 ·obtain⟨c,e1,e2⟩:=h.ip k hk;exact⟨c,by rw[gP,if_neg (λe=>h.f_i hk e.symm)];exact e1,e2⟩
 ·obtain⟨c,e1,e2⟩:=h.xs k hk;exact⟨c,by rw[gP,if_neg (λe=>h.f_x hk e.symm)];exact e1,e2.move rfl⟩
theorem zsy{l:List (BitVec 32)}{k:Nat}:wrds X l (k+1)=(zau (wrds X l k) 0 (BitVec.ofNat 32 (k*4)) (zb4 (l.getD k 0#32))).1:=by unfold Go.Ab.wrds;rw[List.range_succ,List.foldl_append];rfl
theorem zsJ{k:Nat}(hk:k<=512){ty:Nat}:zcG EE.P .quo ty (In ((k*4+63:Nat):Int)) (.int .i64 64)=some (In (zjW k)):=by
 show zcm EE.P (Op.intDiv .quo .i64 ((k*4+63:Nat):Int) 64)=_;unfold Op.intDiv;rw[if_neg (by decide)];have h1:IntKind.i64.wrap (((k*4+63:Nat):Int).tdiv 64)=((zjW k:Nat):Int):=by rw[Int.tdiv_eq_ediv_of_nonneg (by omega),zae (by omega) (by omega)];unfold zjW;omega
 rw[<-h1];rfl
theorem zAI(hp:zgj m v b.prog)(hm:zad m)(hb:zzz b):∃u m',Con EE.P 8 [.agg (zbE b v).toArray] m u m'∧∃L,u= .tuple [PT L.f,In 0].toArray∧FAt m' L (zy5 b)∧Nx m m'∧(∀y,L.D y->m.next<=y)∧GX (zy5 b):=by
 refine Con.raw zai fn8 (bA rfl) _ ?_;have hp0:=hp;obtain⟨a,C,rfl,hp⟩:=hp;have hb0:=hb;obtain⟨⟨⟨a1,a2⟩,⟨a3,a4⟩,⟨a5,a6⟩,⟨a7,a8⟩⟩,b1,b2,b3⟩:=hb;have h64:=hm.n64;have w1:IntKind.i64.wrap ((b.prog.length:Int)*4)=(b.prog.length:Int)*4:=zae (by omega) (by omega);have w2:IntKind.i64.wrap ((b.prog.length:Int)*4+64)=(b.prog.length:Int)*4+64:=zae (by omega) (by omega);have w3:IntKind.i64.wrap ((b.prog.length:Int)*4+64-1)=((b.prog.length*4+63:Nat):Int):=by rw[zae (by omega) (by omega)];omega
 have hq:= @zsJ b.prog.length b2;have c1:=decide_eq_true a1;have c2:=decide_eq_true a2;have c3:=decide_eq_true a3;have c4:=decide_eq_true a4;have c5:=decide_eq_true a5;have c6:=decide_eq_true a6;have c7:=decide_eq_true a7;have c8:=decide_eq_true a8;have d1:=decide_eq_false (show¬(b.prog.length:Int)<1 by omega);have d2:=decide_eq_false (show¬(512:Int)<(b.prog.length:Int) by omega);have d3:=decide_eq_false (show¬b.frames<(zjW b.prog.length:Int) by omega);have hb69:zaT EE.P 69 [(0, .agg #[In b.cores,In b.frames,In b.procs,In b.cap, .slice a b.prog.length C]),(6,In 2)]=some (.agg (ztf b (.slice a b.prog.length C)).toArray):=zxq;have hfl:(ztf b (.slice a b.prog.length C)).length=13:=rfl;have hfo:(ztf b (.slice a b.prog.length C)).all oneCell=true:=by cases a<;>rfl
 have b83:= @zuW;have hpl:∀f w,(zli f w).length=125:=λf w=>zg2 zf9 zf9 rfl rfl;have hpo:∀f w,(zli f w).all oneCell=true:=λf w=>zkX rfl;have hsh:=zux (P:=EE.P) (ty:=36) (k:=b.cores) (by omega);have cvp:∀M,zbU EE.P 3 36 (In (zjW b.prog.length:Nat)) M=some (Um (BitVec.ofNat 32 (zjW b.prog.length))):=λM=>zcz (by unfold zjW;omega);simp only[XX,XY,F8,yA,yB,yC,zbE,w1,w2,w3,hq,c1,c2,c3,c4,c5,c6,c7,c8,d1,d2,d3,hb69,b83,hsh,zsm,cvp];refine CallI.gen (λM=>Nx m M∧FAt M (zHe (m.next+70) (m.next+78) (.slice a b.prog.length C)) (new0 b)∧M.get m.next=some (.cells (ofL (zbE b (.slice a b.prog.length C))) true 0)∧m.next+79<=M.next) ⟨(nX hm),FAt.new0 gA (by(simp only[gB,gP];repeat(first|rw[if_neg (by omega)]|rw[if_pos trivial]|rw[if_pos (by omega)]));rfl) (by omega) nO (by omega),by(simp only[gB,gP];repeat(first|rw[if_neg (by omega)]|rw[if_pos trivial]|rw[if_pos (by omega)]));rfl,nO⟩ λM0 hM=>?_;obtain⟨hN0,hA0,hbx,hn0⟩:=hM;have hG0:=GX.new0 hb0;generalize hL0:zHe (m.next+70) (m.next+78) (.slice a b.prog.length C)=L0 at hA0;have e0f:L0.f=m.next+70:=by rw[<-hL0];rfl
 have e0p:L0.p 0=m.next+78:=by rw[<-hL0];rfl
 have hD0:∀y,L0.D y->m.next<y:=λy hy=>by rw[<-hL0] at hy;rcases hy with rfl|rfl<;>omega
 have hP0:0<(new0 b).P.length:=by show 0<1;decide
 refine cX (by rw[<-e0p];exact zhO (a:=0#32) (n:=BitVec.ofNat 32 (zjW b.prog.length)) (f:=1#32) hA0 hN0.fresh hG0 hP0) λu M1 hM1=>?_;obtain⟨rfl,hB1⟩:=hM1;have S1:=Sh.mapPages (a:=0#32) (n:=BitVec.ofNat 32 (zjW b.prog.length)) (f:=1#32) hG0 hP0;have nn0:=hN0.next;have n1:=hB1.next;have nm1:m.next<=M1.next:=by omega
 have hbx1:M1.get m.next=some (.cells (ofL (zbE b (.slice a b.prog.length C))) true 0):=(hB1.old (by omega) (λe=>by have:=hD0 _ e;omega)).trans hbx;have hbl4:(ofL (zbE b (.slice a b.prog.length C))).nth 4=some (.slice a b.prog.length C):=rfl;simp only[XX,XY,F8,yA,yB,yC,nm1,hbx1,hbl4];generalize hZ:(zaz (new0 b) 0 0#32 (BitVec.ofNat 32 (zjW b.prog.length)) 1#32).1=Z at hB1 S1;have hPZ:0<Z.P.length:=lL hP0 S1.P;refine WX.loop_of (λkk tt M=>∃k:Nat,k<=b.prog.length∧kk=b.prog.length-k∧tt=T 112 [(90,In k),(89,In b.prog.length),(88, .slice a b.prog.length C),(8,PT (m.next+78)),(7,PT (m.next+70))]∧Be M0 L0 (wrds Z b.prog k) M) ?_ (k:=b.prog.length) (t1:=T 112 [(90,In (0:Nat)),(89,In b.prog.length),(88, .slice a b.prog.length C),(8,PT (m.next+78)),(7,PT (m.next+70))]) (vT ⟨rfl,rfl,rfl,rfl,rfl,trivial⟩) ⟨0,by omega,rfl,rfl,hB1.bump _⟩;rintro kk tt M ⟨k,hk,rfl,rfl,hB⟩;have nx:=hB.next;have nmx:m.next<=M.next:=by omega
 obtain⟨S2,K2⟩:=Sh.wrds S1.gx hPZ (l:=b.prog) (k:=k);by_cases hk2:k<b.prog.length
 ·have eW:=zsy (X:=Z) (l:=b.prog) (k:=k);generalize wrds Z b.prog k=Y at hB S2 K2 eW;obtain⟨L1,x1,x2,x3⟩:=id hB;have e1p:L1.p 0=m.next+78:=(x2.p (by rw[hA0.lP];exact hP0)).trans e0p;have hPY:0<Y.P.length:=lL hPZ S2.P;rcases hp with hp|⟨bq,cs,ww,z,rfl,hq1,hq2⟩
  ·rw[hp] at hk2;cases hk2
  have hbq:M.get bq=some (.cells cs ww z):=(hB.old (by have:=hm.lt hq1;omega) (λe=>by have:=hD0 _ e;have:=hm.lt hq1;omega)).trans ((hN0.old _ (hm.lt hq1)).trans hq1);have hw0:=hq2 k (b.prog.getD k 0#32) (by rw[gD',gE' hk2];rfl);have g1:(k:Int)<(b.prog.length:Int):=by omega
  have g2:(0:Int)<=k:=by omega
  have hw1:IntKind.i64.wrap ((k:Int)+1)=((k+1:Nat):Int):=by rw[zae (by omega) (by omega)];omega
  have hw4:IntKind.i64.wrap ((k:Int)*4)=((k*4:Nat):Int):=by rw[zae (by omega) (by omega)];omega
  have cv4:∀M,zbU EE.P 3 36 (In (k*4:Nat)) M=some (Um (BitVec.ofNat 32 (k*4))):=λM=>zcz (by omega);simp only[XX,XY,F8,yA,yB,yC,g1,g2,nmx,hbq,hw0,hw4,cv4,lA];refine cX (by rw[<-e1p];exact zid (a:=BitVec.ofNat 32 (k*4)) (w:=b.prog.getD k 0#32) (x1.bump _) x3.fresh.bump S2.gx hPY) λu M9 hM9=>?_;obtain⟨rfl,hB9⟩:=hM9;have hB9:=hB9.of_bump;have n9:=hB9.next;have n10:m.next<=M9.next:=by omega
  simp only[XX,XY,F8,yA,yB,yC,n10,hw1,zac];exact⟨b.prog.length-(k+1),_,_,by omega,vT (l':=[(90,In ((k+1:Nat):Int)),(89,In b.prog.length),(88, .slice (some ⟨bq,0,none⟩) b.prog.length C),(8,PT (m.next+78)),(7,PT (m.next+70))]) ⟨rfl,rfl,rfl,rfl,rfl,trivial⟩,k+1,by omega,rfl,rfl,by rw[eW];exact(bE x2 x3 hB9).bump _⟩
 ·obtain rfl:k=b.prog.length:=by omega
  have g1:¬(b.prog.length:Int)<(b.prog.length:Int):=by omega
  obtain⟨L1,x1,x2,x3⟩:=id hB;have e1p:L1.p 0=m.next+78:=(x2.p (by rw[hA0.lP];exact hP0)).trans e0p;have e1f:L1.f=m.next+70:=x2.f.trans e0f;obtain⟨cf,y1,y2⟩:=x1.fl;have y1':=y1;rw[e1f] at y1;have k4:4+1<=cf.n:=by rw[y2.n];decide
  have k5:5+1<=cf.n:=by rw[y2.n];decide
  have n62:¬m.next+62=M.next:=by omega
  simp only[XX,XY,F8,yA,yB,yC,g1,nmx,y1,k4,k5,zDX,n62,zam,lA];have hA1:=x1.set_gv (v':= .slice none 0 0) y1';obtain⟨c9,z1,z2⟩:=hA1.fl;have z1':(M.put L1.f (.cells (cf.write 4 [.slice none 0 0]) true 0)).get L1.f=some (.cells c9 true 0):=z1;rw[gP,if_pos rfl] at z1';cases z1';have hFM:=hB.fresh;have hP1:0<(wrds Z b.prog b.prog.length).P.length:=lL hPZ S2.P;have hres:=hA1.set_lv (M:=((M.put L1.f (.cells (cf.write 4 [.slice none 0 0]) true 0)).put (M.next+8) (.cells (ofL [PT (m.next+78)]) true 1)).bump 15) (v':= .slice (some ⟨M.next+8,0,none⟩) 1 1) (id:=M.next+8) (S:=[0]) z1 z2 nO nO (by have:=hFM.n64;simp only[nP];omega) (λy hy _=>by simp only[nP] at hy;rw[gB,gP,if_neg (by omega)]) (by show SlV _ 1 _ 1 [PT (L1.p 0)];rw[e1p];exact SlV.one rfl) (λj hj=>by rw[List.mem_singleton.1 hj];exact hP1) (.inr (.inl rfl));have hres:FAt ((((M.put L1.f (.cells (cf.write 4 [.slice none 0 0]) true 0)).put (M.next+8) (.cells (ofL [PT (m.next+78)]) true 1)).put L1.f (.cells ((cf.write 4 [.slice none 0 0]).write 5 [.slice (some ⟨M.next+8,0,none⟩) 1 1]) true 0)).bump 15) _ _:=hres;have hold:∀y,y<m.next->M.get y=m.get y:=λy hy=>(hB.old (by omega) (λe=>by have:=hD0 _ e;omega)).trans (hN0.old y hy);have hN:Nx m ((((M.put L1.f (.cells (cf.write 4 [.slice none 0 0]) true 0)).put (M.next+8) (.cells (ofL [PT (m.next+78)]) true 1)).put L1.f (.cells ((cf.write 4 [.slice none 0 0]).write 5 [.slice (some ⟨M.next+8,0,none⟩) 1 1]) true 0)).bump 15):=by
   refine⟨nO,zad.of_low (by have:=hFM.n64;simp only[bN,nP];omega) (λy hy=>?_),λy hy=>?_⟩
   ·simp only[bN,nP] at hy;rw[gB,gP,if_neg (by omega),gP,if_neg (by omega),gP,if_neg (by omega)];exact hFM.none y (by omega)
   ·rw[gB,gP,if_neg (by omega),gP,if_neg (by omega),gP,if_neg (by omega)];exact hold y hy
  have eX:zy5 b={wrds Z b.prog b.prog.length with l:=[0]}:=by unfold zy5;rw[hZ]
  rw[e1f] at hres hN;rw[eX];refine⟨Nx.grow' hN,_,?_,hres,hN,λy hy=>?_,S2.gx.set_l (by have:=S2.gx.pr;show((1:Nat):Int)<=_;omega)⟩
  ·rfl
  ·rcases hy with hy|hy
   ·rcases x2.D y hy with e|e
    ·have:=hD0 y e;omega
    ·omega
   ·omega
end
section
variable{m m' M mr:Mem}{v w:Value}{b:zff}
theorem zBW(hp:zgj m v b.prog)(hb:¬zzz b)(hlen:b.prog.length<=512):Con EE.P 8 [.agg (zbE b v).toArray] m (.tuple [.pointer none,In 2].toArray) m:=by
 refine Con.of zai fn8 (bA rfl) Grow.rfl λhm=>?_;obtain⟨a,C,rfl,hp⟩:=hp;have w1:IntKind.i64.wrap ((b.prog.length:Int)*4)=(b.prog.length:Int)*4:=zae (by omega) (by omega);have w2:IntKind.i64.wrap ((b.prog.length:Int)*4+64)=(b.prog.length:Int)*4+64:=zae (by omega) (by omega);have w3:IntKind.i64.wrap ((b.prog.length:Int)*4+64-1)=((b.prog.length*4+63:Nat):Int):=by rw[zae (by omega) (by omega)];omega
 have hq:= @zsJ b.prog.length hlen;have d2:=decide_eq_false (show¬(512:Int)<(b.prog.length:Int) by omega);by_cases ec1:1<=b.cores
 case neg=>
  have c1:=decide_eq_false ec1;simp only[XX,XY,F8,yA,yB,yC,zbE,w1,w2,w3,hq,c1];exact tP rfl λy hy=>gA
 have c1:=decide_eq_true ec1;by_cases ec2:b.cores<=8
 case neg=>
  have c2:=decide_eq_false ec2;simp only[XX,XY,F8,yA,yB,yC,zbE,w1,w2,w3,hq,c1,c2];exact tP rfl λy hy=>gA
 have c2:=decide_eq_true ec2;by_cases ec3:1<=b.frames
 case neg=>
  have c3:=decide_eq_false ec3;simp only[XX,XY,F8,yA,yB,yC,zbE,w1,w2,w3,hq,c1,c2,c3];exact tP rfl λy hy=>gA
 have c3:=decide_eq_true ec3;by_cases ec4:b.frames<=256
 case neg=>
  have c4:=decide_eq_false ec4;simp only[XX,XY,F8,yA,yB,yC,zbE,w1,w2,w3,hq,c1,c2,c3,c4];exact tP rfl λy hy=>gA
 have c4:=decide_eq_true ec4;by_cases ec5:1<=b.procs
 case neg=>
  have c5:=decide_eq_false ec5;simp only[XX,XY,F8,yA,yB,yC,zbE,w1,w2,w3,hq,c1,c2,c3,c4,c5];exact tP rfl λy hy=>gA
 have c5:=decide_eq_true ec5;by_cases ec6:b.procs<=32
 case neg=>
  have c6:=decide_eq_false ec6;simp only[XX,XY,F8,yA,yB,yC,zbE,w1,w2,w3,hq,c1,c2,c3,c4,c5,c6];exact tP rfl λy hy=>gA
 have c6:=decide_eq_true ec6;by_cases ec7:1<=b.cap
 case neg=>
  have c7:=decide_eq_false ec7;simp only[XX,XY,F8,yA,yB,yC,zbE,w1,w2,w3,hq,c1,c2,c3,c4,c5,c6,c7];exact tP rfl λy hy=>gA
 have c7:=decide_eq_true ec7;by_cases ec8:b.cap<=64
 case neg=>
  have c8:=decide_eq_false ec8;simp only[XX,XY,F8,yA,yB,yC,zbE,w1,w2,w3,hq,c1,c2,c3,c4,c5,c6,c7,c8];exact tP rfl λy hy=>gA
 have c8:=decide_eq_true ec8;by_cases ed1:(b.prog.length:Int)<1
 ·have d1:=decide_eq_true ed1;simp only[XX,XY,F8,yA,yB,yC,zbE,w1,w2,w3,hq,c1,c2,c3,c4,c5,c6,c7,c8,d1];exact tP rfl λy hy=>gA
 have d1:=decide_eq_false ed1;by_cases ed3:b.frames<(zjW b.prog.length:Int)
 ·have d3:=decide_eq_true ed3;simp only[XX,XY,F8,yA,yB,yC,zbE,w1,w2,w3,hq,c1,c2,c3,c4,c5,c6,c7,c8,d1,d2,d3];exact tP rfl λy hy=>gA
 have d3:=decide_eq_false ed3;exact absurd ⟨⟨⟨ec1,ec2⟩,⟨ec3,ec4⟩,⟨ec5,ec6⟩,⟨ec7,ec8⟩⟩,by omega,hlen,by omega⟩ hb
end
section
variable{m m' M mr:Mem}{n:Nat}{L L' L1 L2:Loc}{X X' X1 X2 Y W:St}{v w:Value}{fl:List Value}{pid:Int}{b:zff}{l:List OpR}
theorem zgj.nx{l:List (BitVec 32)}(h:zgj m v l)(hm:zad m)(hN:Nx m M):zgj M v l:=by obtain⟨a,C,rfl,h⟩:=h;exact⟨a,C,rfl,h.imp id λ⟨b,cs,ww,z,e,h1,h2⟩=>⟨b,cs,ww,z,e,hN.keep hm h1,h2⟩⟩
theorem zgq.nx(h:zgq m v l)(hm:zad m)(hN:Nx m M):zgq M v l:=by obtain⟨a,C,rfl,h⟩:=h;exact⟨a,C,rfl,h.imp id λ⟨b,cs,ww,z,e,h1,h2⟩=>⟨b,cs,ww,z,e,hN.keep hm h1,h2⟩⟩
theorem zgq.blk(h:zgq m v l)(hm:zad m):l=[]∨∀y,slB v=some y->y<m.next:=by obtain⟨a,C,rfl,h⟩:=h;exact h.imp id λ⟨b,cs,ww,z,e,h1,h2⟩ y hy=>by subst e;cases hy;exact hm.lt h1
theorem Ox.new(hb:zzz b):Ox 0 (zy5 b):=by
 have hG0:=GX.new0 hb;have hP0:0<(new0 b).P.length:=by show 0<1;decide
 have S1:=Sh.mapPages (a:=0#32) (n:=BitVec.ofNat 32 (zjW b.prog.length)) (f:=1#32) hG0 hP0;have S2:=(Sh.wrds S1.gx (lL hP0 S1.P) (l:=b.prog) (k:=b.prog.length)).1;have S:=S1.trans S2;refine⟨S.gx.set_l (by have:=S.gx.pr;show((1:Nat):Int)<=_;omega),List.length_eq_zero_iff.1 (Nat.le_zero.1 S.sn),S.fut⟩
theorem Grow.tr{m1 m2 m3:Mem}(h:Grow m1 m2)(g:Grow m2 m3):Grow m1 m3:=⟨lT h.1 g.1,λy hy e=>g.2 y (lL hy h.1) (h.2 y hy e)⟩
theorem Nx.new2(hM:zad M){b1 k:Nat}{o o1:zaS}(h1:M.next<=b1)(h2:b1<M.next+k):Nx M (((M.put b1 o).put b1 o1).bump k):=(((Nx.refl hM).bump k).putN h1 (by rw[bN];exact h2)).putN h1 (by rw[nP,bN];exact h2)
end
end
end Go.Ab
namespace Go.Ab
open Go.RowKit Go.ChangeShapes
section
variable{H:Type}{enc:TypeId×Value->H}{P:Program}{w:World}{base:Nat}{spare:Nat->Bool}{held:Bool}
theorem zqn{w:World}{a:Addr}{v:Value}(h:w.cell? a=some v):∃cs t fz,w.heap[a.block]? =some (.cells cs t fz)∧a.spot=none∧cs[a.off]? =some v:=by
 unfold World.cell? at h;split at h
 ·rename_i cs t fz hh;split at h
  ·cases h
  ·rename_i hs;exact⟨cs,t,fz,hh,by simpa using hs,h⟩
 ·cases h
theorem zfQ(a:Addr)(n:Nat):(a.add n).block=a.block:=by unfold Addr.add;split<;>rfl
theorem zrl(a:Addr)(n:Nat):(a.add n).off=a.off+n:=by unfold Addr.add;split<;>simp_all
theorem zpc{t e:TypeId}{sz:Nat}{a:Option Addr}{len cap:Nat}{d:DataW H}{ps:List MemPlace}(ht:P.underlying t=some (.slice e))(hc:P.cellsOf e=sz)(hsz:0<sz)(h:DataW.Trod enc P w base spare held t (.slice a len cap) d ps):
  (len=0)∨∃k off cs tt fz,a=some ⟨k,off,none⟩∧w.heap[k]? =some (.cells cs tt fz)∧off+len*sz<=cs.size∧
   ∀i,i<len->∃n y,DataW.trod enc P w base spare held n e ((List.range sz).map λj=>cs.getD (off+(i*sz+j)) undef)=some y:=by
 obtain⟨fuel,h⟩:=h;rcases DataW.trod_slice ht h with⟨h1,_⟩|⟨a',len',cap',elems,rest,n,rfl,h1,_,_,_,_,hl,hel,_⟩
 ·simp only[Value.cells,List.cons.injEq,and_true,Value.slice.injEq] at h1;exact .inl h1.2.1
 ·simp only[Value.cells,List.cons.injEq,and_true,Value.slice.injEq] at h1;obtain⟨rfl,rfl,rfl⟩:=h1;rcases Nat.eq_zero_or_pos len with h0|hpos
  ·exact .inl h0
  right;rw[hc] at hel;have key:∀i,i<len->∃y l,w.cells? base (a'.add (i*sz)) sz=some l∧DataW.trod enc P w base spare held n e l=some y∧l.length=sz∧∀j,j<sz->w.cell? ((a'.add (i*sz)).add j)=l[j]? :=by
   intro i hi;have h2:=hel i hi;rw[gE' (by omega),Option.bind_eq_some_iff] at h2;obtain⟨l,h3,h4⟩:=h2;have h5:=h3;unfold World.cells? at h5;split at h5
   ·refine⟨_,l,h3,h4,by simpa using mapM_some_length h5,λj hj=>?_⟩;exact mapM_some_get h5 j j (by simp[hj])
   ·cases h5
  obtain⟨y,l,_,_,hl0,hc0⟩:=key 0 hpos;have hz:=hc0 0 hsz;rw[gE' (by omega)] at hz;obtain⟨cs,tt,fz,g1,g2,_⟩:=zqn hz;have hb:((a'.add (0*sz)).add 0).block=a'.block:=by rw[zfQ,zfQ]
  rw[hb] at g1;have hspot:a'.spot=none:=by simpa [Addr.add] using g2
  have hcell:∀i,i<len->∃y l,DataW.trod enc P w base spare held n e l=some y∧l.length=sz∧∀j,j<sz->cs[a'.off+(i*sz+j)]? =l[j]? :=by intro i hi;obtain⟨y,l,_,h4,hl1,hj⟩:=key i hi;refine⟨y,l,h4,hl1,λj hj'=>?_⟩;have hc:=hj j hj';rw[gE' (by omega)] at hc;obtain⟨cs',_,_,k1,_,k3⟩:=zqn hc;rw[zfQ,zfQ,g1] at k1;cases k1;rw[zrl,zrl] at k3;rw[gE' (by omega),<-k3,Nat.add_assoc]
  refine⟨a'.block,a'.off,cs,tt,fz,by cases a';simp_all,g1,?_,λi hi=>?_⟩
  ·obtain⟨_,l,_,hl1,hj⟩:=hcell (len-1) (by omega);have:=hj (sz-1) (by omega);rw[gE' (by omega)] at this;have hlt:=(Array.getElem?_eq_some_iff.1 this).1;have e1:(len-1)*sz+sz=len*sz:=by rw[<-Nat.succ_mul];congr 1;omega
   omega
  ·obtain⟨y,l,h4,hl1,hj⟩:=hcell i hi;have e:((List.range sz).map λj=>cs.getD (a'.off+(i*sz+j)) undef)=l:=by
    apply List.ext_getElem
    ·simp[hl1]
    ·intro j h1 h2;have hj':j<sz:=by simpa using h1
     have:=hj j hj';rw[gE' (by omega)] at this;simp only[List.getElem_map,List.getElem_range];rw[Array.getD_eq_getD_getElem?,this];rfl
   exact⟨n,y,by rw[e];exact h4⟩
end
noncomputable section
theorem Con.calls{P:Program}{f:FuncId}{args:List Value}{args':Array Value}{m m':Mem}{b:Bool}{ρ:Rho}{w:World}(h:Con P f args m (.bool b) m')(hs:zdw m)(hR:Rel Sig.none ρ m w)(ha:zat Sig.none ρ args args'.toList):
  CallsIn Fence.wide 0 P f args' w λe w'=>e= .returned (.bool b)∧RowKit.Below w.heap.size w w':=by
 refine(h.1 ρ w args' hR ha).mono ?_;rintro e w' ⟨v',ρ',rfl,hr,hp,_⟩;cases hr;exact⟨rfl,hp.below hs⟩
end
end Go.Ab
namespace Go.Ab
noncomputable section
def zFp{α:Type}(t:Tr α):Pa->Option α:=
 Tr.rec (motive:=λ_=>Pa->Option α) (λ_=>none) (λv _ _ gl gr p=>Pa.rec (motive:=λ_=>Option α) v (λp' _=>gl p') (λp' _=>gr p') p) t
def zxg{α:Type}(v:Option α)(p:Pa):Tr α->Tr α:=
 Pa.rec (motive:=λ_=>Tr α->Tr α)
  (λt=>Tr.rec (motive:=λ_=>Tr α) (.node v .leaf .leaf) (λ_ l r _ _=> .node v l r) t)
  (λ_ ih t=>Tr.rec (motive:=λ_=>Tr α) (.node none (ih .leaf) .leaf) (λw l r _ _=> .node w (ih l) r) t)
  (λ_ ih t=>Tr.rec (motive:=λ_=>Tr α) (.node none .leaf (ih .leaf)) (λw l r _ _=> .node w l (ih r)) t) p
theorem zxM{α:Type}(t:Tr α)(p:Pa):zFp t p=zjV t p:=by
 induction t generalizing p with
 |leaf=>rw[zc2];rfl
 |node v l r h1 h2=>cases p with
  |e=>rfl
  |o p=>exact h1 p
  |i p=>exact h2 p
theorem zxQ{α:Type}(v:Option α)(p:Pa)(t:Tr α):zxg v p t=zpJ v p t:=by
 induction p generalizing t with
 |e=>cases t<;>rfl
 |o p ih=>cases t with
  |leaf=>show Tr.node none (zxg v p .leaf) .leaf=_;rw[ih];rfl
  |node w l r=>show Tr.node w (zxg v p l) r=_;rw[ih];rfl
 |i p ih=>cases t with
  |leaf=>show Tr.node none .leaf (zxg v p .leaf)=_;rw[ih];rfl
  |node w l r=>show Tr.node w l (zxg v p r)=_;rw[ih];rfl
structure TW where
 n:Nat
 tr:Tr Value
def TW.get(t:TW)(k:Nat):Value:=
 TW.rec (motive:=λ_=>Value) (λ_ tr=>Option.rec (motive:=λ_=>Value) undef (λv=>v) (zFp tr (pa k k))) t
def TW.put(t:TW)(k:Nat)(v:Value):TW:=
 TW.rec (motive:=λ_=>TW) (λn tr=>Bool.rec (motive:=λ_=>TW) ⟨n,tr⟩ ⟨n,zxg (some v) (pa k k) tr⟩ (Nat.ble (Nat.succ k) n)) t
def TW.put?(d:Option Tmp)(v:Value)(t:TW):TW:=Option.rec (motive:=λ_=>TW) t (λk=>TW.put t k v) d
def TW.load:List Value->Nat->TW->TW
 |[],_,t=>t
 |v::l,k,t=>TW.load l (Nat.succ k) (t.put k v)
def TW.ofArgs(n:Nat)(args:List Value):TW:=TW.load args 0 ⟨Nat.max n args.length, .leaf⟩
def TW.toList(t:TW):List Value:=(List.range t.n).map t.get
def TL(t:TW)(l:List Value):Prop:=t.n=l.length∧∀k,t.get k=l.getD k undef
theorem zlI(n:Nat)(tr:Tr Value)(k:Nat):TW.get ⟨n,tr⟩ k=(zjV tr (pa k k)).getD undef:=by show Option.rec (motive:=λ_=>Value) undef (λv=>v) (zFp tr (pa k k))=_;rw[zxM];cases zjV tr (pa k k)<;>rfl
theorem TL.toList{t:TW}{l:List Value}(h:TL t l):t.toList=l:=by
 apply zcc
 ·simp[TW.toList,h.1]
 ·intro i hi;have hi':i<t.n:=by simpa [TW.toList] using hi
  rw[<-h.2 i];simp[TW.toList,gD',gM',List.getElem?_range hi']
theorem TL.put{t:TW}{l:List Value}(h:TL t l)(k:Nat)(v:Value):TL (t.put k v) (l.set k v):=by
 obtain⟨n,tr⟩:=t;have h1:n=l.length:=h.1;show TL (Bool.rec (motive:=λ_=>TW) ⟨n,tr⟩ ⟨n,zxg (some v) (pa k k) tr⟩ (Nat.ble (Nat.succ k) n)) _;cases hb:Nat.ble (Nat.succ k) n with
 |true=>
  have hk:k<n:=bA hb;refine⟨by simp[h1],λj=>?_⟩;simp only[zlI,zxQ,zdB];by_cases e:j=k
  ·subst e;have:j<l.length:=by rw[<-h1];exact hk
   simp[gD',this]
  ·rw[if_neg λe'=>e (znR _ _ _ _ (lR' _) (lR' _) e')];have:=h.2 j;simp only[zlI] at this;rw[this,gD',gD',List.getElem?_set_ne (λe'=>e e'.symm)]
 |false=>
  have hk:¬k<n:=λhk=>by rw[Nat.ble_eq_true_of_le hk] at hb;cases hb
  show TL ⟨n,tr⟩ _;rw[List.set_eq_of_length_le (by omega)];exact h
theorem TL.put? {t:TW}{l:List Value}(h:TL t l)(d:Option Tmp)(v:Value):TL (TW.put? d v t) (zdP d v l):=by
 cases d with
 |none=>exact h
 |some k=>exact h.put k v
theorem zkF:∀(a:List Value) (k:Nat) (t:TW) (l:List Value),TL t l->k+a.length<=l.length->TL (TW.load a k t) (l.take k++a++l.drop (k+a.length))
 |[],k,t,l,h,_=>by simpa [TW.load] using h
 |v::a,k,t,l,h,hk=>by
  simp only[List.length_cons] at hk;have:=zkF a (k+1) (t.put k v) (l.set k v) (h.put k v) (by simp;omega);simp only[TW.load];have e:(l.set k v).take (k+1)++a++(l.set k v).drop (k+1+a.length)=l.take k++v::a++l.drop (k+(v::a).length):=by
   rw[List.take_set,List.drop_set_of_lt (by omega)];have hlt:k<l.length:=by omega
   rw[List.take_succ_eq_append_getElem hlt,List.set_append_right _ _ (by rw[List.length_take];omega)];simp[Nat.min_eq_left (Nat.le_of_lt hlt),Nat.add_assoc,Nat.add_comm 1]
  rw[e] at this;exact this
theorem zeW(n:Nat)(args:List Value):TL (TW.ofArgs n args) (args++List.replicate (n-args.length) undef):=by
 have h0:TL ⟨Nat.max n args.length, .leaf⟩ (List.replicate (Nat.max n args.length) undef):=by
  refine⟨by simp,λk=>?_⟩;have:TW.get ⟨Nat.max n args.length, .leaf⟩ k=undef:=by simp[zlI,zc2]
  rw[this,gD',List.getElem?_replicate];split<;>rfl
 have:=zkF args 0 _ _ h0 (by simp;exact Nat.le_max_right _ _);simp only[List.take_zero,List.nil_append,Nat.zero_add,List.drop_replicate] at this;have e:Nat.max n args.length-args.length=n-args.length:=by show max n args.length-args.length=_;omega
 rw[e] at this;exact this
def evF(x:Operand)(t:TW):Value:=
 Operand.rec (motive:=λ_=>Value) (λk=>TW.get t k) (λv=>v) (λg=>ptr g 0) (λf=> .func (.func f) #[] #[]) x
theorem znm{t:TW}{l:List Value}(h:TL t l):(λx=>evF x t)=λx=>ev x l:=by funext x;cases x<;>first|rfl|exact h.2 _
def gV(b:Bool)(v:Value):Option Bool:=match v with
 | .bool c=>some (c==b)
 | .func (.method _) _ _=>none
 | .chan _=>none
 |_=>some false
def gF(g:Option (Tmp×Bool))(t:TW):Option Bool:=
 Option.rec (motive:=λ_=>Option Bool) (some true) (λp=>Prod.rec (motive:=λ_=>Option Bool) (λk b=>gV b (TW.get t k)) p) g
theorem zCc{t:TW}{l:List Value}(h:TL t l)(g:Option (Tmp×Bool)):gF g t=if gOk g l=false then none else some (wanted g l):=by
 cases g with
 |none=>rfl
 |some p=>
  obtain⟨k,b⟩:=p;show gV b (TW.get t k)=_;rw[h.2 k];have key:∀v,l.getD k undef=v->gV b v=if gOk (some (k,b)) l=false then none else some (wanted (some (k,b)) l):=by
   intro v hv;unfold gOk wanted gV;simp only[hv];cases v with
   |func fn _ _=>cases fn<;>rfl
   |_=>rfl
  exact key _ rfl
def zEH(r:Operand->Value)(c a b:Operand):Option Value:=match r c with
 | .bool t=>some (if t then r a else r b)
 |_=>none
def zI3(P:Program)(v:Value):Option Value:=match v with
 | .pointer (some a)=>some (.pointer (some a))
 | .func (.func f) a c=>some (.func (.func f) a c)
 | .func (.yield l) a c=>some (.func (.yield l) a c)
 | .func (.methodOf ty nm) a c=>if(zaB P ty nm).isSome then some (.func (.methodOf ty nm) a c) else none
 |_=>none
def pUn(P:Program)(op:UnOp)(v:Value):Option Value:=if plain v then zcm P (Op.unary op v) else none
def zI2(P:Program)(op:BinOp)(t:TypeId)(v w:Value):Option Value:=if plain v&&plain w then zcm P (binOp op t v w) else none
def zDI(P:Program)(t:TypeId)(v:Value):Option Value:=match P.underlying t with
 |some (.interface _)=>none
 |some _=>some (.iface t v)
 |none=>none
def zFM(fn:Fn)(a b:Array Value):Option Value:=match fn with
 | .yield _=>none
 | .method nm=>zjZ nm a.toList b.toList
 |_=>some (.func fn a b)
def zoT(P:Program)(s:TypeId)(v:Value)(f:Nat):Option Value:=match P.underlying s,v with
 |some (.struct fs), .pointer (some ⟨b,o,none⟩)=>match fs[f]? with
  |some fl=>match zbc P fl.type with
   |some (_+1)=>some (ptr b (o+fl.offset))
   |_=>none
  |none=>none
 |_,_=>none
def zBE(P:Program)(t:TypeId)(v:Value)(f:Nat):Option Value:=match P.underlying t,v with
 |some (.struct fs), .agg cs=>match fs[f]? with
  |some fl=>ziU P fl.type cs fl.offset
  |none=>none
 |_,_=>none
def zB4(P:Program)(t:TypeId)(v w:Value):Option Value:=match P.underlying t,v,w with
 |some (.array len e), .agg cs, .int _ n=>if 0<=n∧n<len then match zbc P e with
   |some s=>ziU P e cs (n.toNat*s)
   |none=>none
  else none
 |some .string, .string s, .int _ n=>if 0<=n then match s[n.toNat]? with
   |some b=>some (.int .u8 b.toNat)
   |none=>none
  else none
 |_,_,_=>none
def zoK(P:Program)(t:TypeId)(v w:Value):Option Value:=match P.underlying t,v,w with
 |some (.array len e), .pointer (some ⟨b,o,none⟩), .int _ n=>if 0<=n∧n<len then match zbc P e with
   |some s=>some (ptr b (o+n.toNat*s))
   |none=>none
  else none
 |some (.slice e), .slice (some ⟨b,o,none⟩) len _, .int _ n=>if 0<=n∧n<len then match zbc P e with
   |some s=>some (ptr b (o+n.toNat*s))
   |none=>none
  else none
 |_,_,_=>none
def zCC(P:Program)(t:TypeId)(r:Operand->Value)(x:Operand)(lo hi mx:Option Operand):Option Value:=match mx,hi with
 |some y,some z=>zg9 P t (r x) (lo.map r) (r z) (r y)
 |some _,none=>none
 |none,_=>zb5 P t (r x) (lo.map r) (hi.map r)
def zuR(v:Value)(i:Nat):Option Value:=match v with
 | .tuple vs=>vs[i]?
 |_=>none
def zF0(P:Program)(ty:TypeId)(r:Operand->Value)(c:Call):Option Value:=match c.callee with
 | .builtin b=>if(c.args.map r).toList.all plain then match b with
   | .min=>zcm P (Builtin.min_ c.argTypes ty (c.args.map r))
   | .max=>zcm P (Builtin.max_ c.argTypes ty (c.args.map r))
   | .real=>zcm P (Builtin.real_ c.argTypes ty (c.args.map r))
   | .imag=>zcm P (Builtin.imag_ c.argTypes ty (c.args.map r))
   | .complex=>zcm P (Builtin.complex_ c.argTypes ty (c.args.map r))
   |_=>none
   else none
 |_=>none
def zGk(P:Program)(s d:TypeId)(v:Value)(m:Mem):Option Value:=
 if plain v then match P.underlying d with
   |some (.slice _)=>none
   |_=>zcm P (convert s d v)
  else match P.underlying s,P.underlying d,v with
   |some (.slice e),some .string, .slice (some ⟨b,o,none⟩) n _=>match P.underlying e,m.get b with
    |some (.int .u8),some (.cells cs _ _)=>match cs.sub o n with
     |some l=>(ze2 l .empty).map .string
     |none=>none
    |_,_=>none
   |_,_,_=>none
def zEx(P:Program)(r:Operand->Value)(c:Call)(m:Mem):Option Value:=match c.callee,c.argTypes[0]?,c.args[0]? with
 | .builtin .len,some t,some x=>lenA P t (r x) m
 |_,_,_=>none
def zCl(P:Program)(t:TypeId):Option (zaS×(Nat->Value)):=match zbT P t with
 |some z=>if plain z then some (.cells (.ofList z.cells.toList) true 0,λid=>ptr id 0) else none
 |none=>none
def zDk(P:Program)(t:TypeId)(len:Nat)(r:Operand->Value)(parts:Array (Nat×Operand)):Option (zaS×(Nat->Value)):=match P.underlying t with
 |some (.slice e)=>match zbc P e,zbT P e with
  |some s,some z=>if plain z&&decide (len*s<=2 ^ 24)&&z.cells.size==s&&decide (0<s) then
    (zg4 (λi=>some (i*s,s)) (zeN z.cells.toList (len*s)) (zdZ r parts)).map λcs=>(.cells (.ofList cs) true s,λid=> .slice (some ⟨id,0,none⟩) len len)
   else none
  |_,_=>none
 |_=>none
def zI9(P:Program)(t:TypeId)(h:Option Operand)(r:Operand->Value):Option (zaS×(Nat->Value)):=match h with
 |none=>some (.map [] true,λid=> .map (some id))
 |some x=>match P.underlying t,r x with
  |some (.map _ _), .int _ _=>some (.map [] true,λid=> .map (some id))
  |_,_=>none
def zDA(P:Program)(t:TypeId)(l c:Value):Option (zaS×(Nat->Value)):=match P.underlying t,l,c with
 |some (.slice e), .int .i64 n, .int .i64 k=>match P.info? e,zbT P e with
  |some i,some z=>if plain z&&decide (0<=n)&&decide (n<=k)&&decide (k<=2 ^ 40)&&decide (i.bytes*k<=2 ^ 48)&&z.cells.size==i.size&&decide (0<i.size) then
    some (.cells (.fill z.cells.toList (k.toNat*i.size)) true i.size,λid=> .slice (some ⟨id,0,none⟩) n.toNat k.toNat)
   else none
  |_,_=>none
 |_,_,_=>none
def zDR(P:Program)(t:TypeId)(v:Value):Option (zaS×(Nat->Value)):=match P.underlying t,v with
 |some .string, .string s=>some (.strIter s 0,λid=>ptr id 0)
 |_,_=>none
def zHB(x:Option Mem)(v:Value):Option (Req×Mem):=x.map λm'=>(.val v,m')
def zFv(x:Option (Value×Mem)):Option (Req×Mem):=x.map λq=>(.val q.1,q.2)
def zIb(P:Program)(id:Nat)(r:Operand->Value)(c:Call)(m:Mem):Option (Req×Mem):=match c.args[0]?,c.args[1]? with
 |some s,some x=>zFv (zaV P id c.argTypes (r s) (r x) m)
 |_,_=>none
def zGt(P:Program)(r:Operand->Value)(c:Call)(m:Mem):Option (Req×Mem):=match c.args[0]?,c.args[1]? with
 |some s,some x=>zFv (zos P c.argTypes (r s) (r x) m)
 |_,_=>none
def zBp(P:Program)(r:Operand->Value)(c:Call)(m:Mem):Option (Req×Mem):=match c.args[0]? with
 |some x=>zHB (zdF P c.argTypes (r x) m) (.tuple #[])
 |none=>none
def zJk(P:Program)(r:Operand->Value)(c:Call)(m:Mem):Option (Req×Mem):=match c.args[0]?,c.args[1]? with
 |some s,some x=>zHB (zf5 P c.argTypes (r s) (r x) m) (.tuple #[])
 |_,_=>none
def zHL(P:Program)(v:Value)(args:List Value)(m:Mem):Option (Req×Mem):=match v with
 | .func (.func g) first cap=>if zab P g then some (.call g (first.toList++args++cap.toList),m) else match zbS P g (first.toList++args++cap.toList) with
   |some v=>some (.val v,m)
   |none=>none
 | .func (.yield l) first _=>some (.round l (first.toList++args),m)
 |_=>none
def zHY(P:Program)(v:Value)(name:String)(args:List Value)(m:Mem):Option (Req×Mem):=match v with
 | .iface t v=>match zaB P t name with
   |some f=>if zab P f then some (.call f (v::args),m) else none
   |none=>none
 |_=>none
def zEZ(P:Program)(id:Nat)(r:Operand->Value)(c:Call)(m:Mem):Option (Req×Mem):=match c.callee with
 | .builtin .append=>zIb P id r c m
 | .builtin .copy=>zGt P r c m
 | .builtin .clear=>zBp P r c m
 | .builtin .delete=>zJk P r c m
 | .value f=>zHL P (r f) (c.args.map r).toList m
 | .invoke x name=>zHY P (r x) name (c.args.map r).toList m
 |_=>none
inductive zCr where
 |code (rd:Option Nat) (c:zan) (t:TW)
 |call (f:FuncId) (args:List Value)
 |round (l:Nat) (args:List Value)
inductive ze3 where
 |exit (x:Exit) (t:TW)
 |val (v:Value)
abbrev zdu:=zCr->Mem->Option (ze3×Mem)
def zD8(x:Option (ze3×Mem)):Option (Value×Mem):=match x with
 |some (.val v,m)=>some (v,m)
 |_=>none
def zda(x:Option Value)(m:Mem):Option (Value×Mem):=match x with
 |some v=>some (v,m)
 |none=>none
def zmF(x:Option (zaS×(Nat->Value)))(id:Nat)(m:Mem):Option (Value×Mem):=match x with
 |some (ob,mk)=>some (mk id,m.put id ob)
 |none=>none
def zAi(self:zdu)(x:Option (Req×Mem)):Option (Value×Mem):=match x with
 |some (.val v,m')=>some (v,m')
 |some (.call f args,m')=>zD8 (self (.call f args) m')
 |some (.round l args,m')=>zD8 (self (.round l args) m')
 |none=>none
def zqC(x:Option Mem):Option (Value×Mem):=match x with
 |some m=>some (undef,m)
 |none=>none
def bEq:List UInt8->List UInt8->Bool
 |[],[]=>true
 |a::l,b::k=>bif Nat.beq a.toNat b.toNat then bEq l k else false
 |_,_=>false
theorem zqW:∀l k:List UInt8,bEq l k=true↔l=k
 |[],[]=>by simp[bEq]
 |[],_::_=>by simp[bEq]
 |_::_,[]=>by simp[bEq]
 |a::l,b::k=>by
  simp only[bEq];cases h:Nat.beq a.toNat b.toNat with
  |true=>have hab:a=b:=UInt8.toNat_inj.1 (Nat.eq_of_beq_eq_true h);simp[zqW l k,hab]
  |false=>
   have hab:a≠b:=λe=>by subst e;rw[Nat.beq_refl] at h;cases h
   simp[hab]
theorem zwT(a b:ByteArray):bEq a.data.toList b.data.toList=(a.toList==b.toList):=by rw[ByteArray.toList_eq,ByteArray.toList_eq,Bool.eq_iff_iff,zqW,beq_iff_eq]
def zIW(op:BinOp)(a b:ByteArray)(m:Mem):Option (Value×Mem):=match op with
 | .eql=>some (.bool (bEq a.data.toList b.data.toList),m)
 | .neq=>some (.bool (!bEq a.data.toList b.data.toList),m)
 |_=>none
def oEq(P:Program)(op:BinOp)(t:TypeId)(xo yo:Operand)(x y:Value)(m:Mem):Option (Value×Mem):=match x,y with
 | .string a, .string b=>zIW op a b m
 |x,y=>zda (eqA P op t xo yo x y m) m
theorem zvM(P:Program){op:BinOp}(h:op= .eql∨op= .neq)(t:TypeId)(xo yo:Operand)(x y:Value)(m:Mem):oEq P op t xo yo x y m=zda (eqA P op t xo yo x y m) m:=by
 unfold oEq;split
 ·rename_i a b;rcases h with rfl|rfl
  ·show some (Value.bool (bEq a.data.toList b.data.toList),m)=_;rw[zwT];have hp:∀c:ByteArray,plain (.string c)=true:=λ_=>rfl;unfold eqA;simp only[hp,Bool.and_self,if_true];rfl
  ·show some (Value.bool (!bEq a.data.toList b.data.toList),m)=_;rw[zwT];have hp:∀c:ByteArray,plain (.string c)=true:=λ_=>rfl;unfold eqA;simp only[hp,Bool.and_self,if_true];rfl
 ·rfl
def zI8(P:Program)(op:BinOp)(t:TypeId)(xo yo:Operand)(x y:Value)(m:Mem):Option (Value×Mem):=match op with
 | .eql| .neq=>oEq P op t xo yo x y m
 |_=>zda (zI2 P op t x y) m
def zEq(P:Program)(self:zdu)(id:Nat)(ty:TypeId)(r:Operand->Value)(c:Call)(m:Mem):Option (Value×Mem):=match c.callee with
 | .builtin b=>match b with
   | .len=>zda (zEx P r c m) m
   | .min| .max| .real| .imag| .complex=>zda (zF0 P ty r c) m
   |_=>zAi self (zEZ P id r c m)
 | .value f=>zAi self (zHL P (r f) (c.args.map r).toList m)
 | .invoke x name=>zAi self (zHY P (r x) name (c.args.map r).toList m)
def opF(P:Program)(self:zdu)(id:Nat)(op:Op)(ty:TypeId)(r:Operand->Value)(m:Mem):Option (Value×Mem):=match op with
 | .move x| .assign x=>some (r x,m)
 | .pick c a b=>zda (zEH r c a b) m
 | .nilCheck x=>zda (zI3 P (r x)) m
 | .unOp op _ x=>zda (pUn P op (r x)) m
 | .binOp op t x y _=>zI8 P op t x y (r x) (r y) m
 | .makeInterface t x=>zda (zDI P t (r x)) m
 | .makeFunc fn first cap=>zda (zFM fn (first.map r) (cap.map r)) m
 | .fieldAddr s x f=>zda (zoT P s (r x) f) m
 | .field t x f=>zda (zBE P t (r x) f) m
 | .index t x i=>zda (zB4 P t (r x) (r i)) m
 | .indexAddr t x i=>zda (zoK P t (r x) (r i)) m
 | .slice t x lo hi mx=>zda (zCC P t r x lo hi mx) m
 | .build t parts=>zda (zaT P t (zdZ r parts)) m
 | .extract x i=>zda (zuR (r x) i) m
 | .load t a=>zda (zdo P t (r a) m) m
 | .lookup t mp k ok=>zda (ze7 P t (r mp) (r k) ok m) m
 | .convert s d x=>zda (zGk P s d (r x) m) m
 | .alloc t=>zmF (zCl P t) id m
 | .box _ x=>if zdn (r x) then none else some (ptr id 0,m.put id (.cells (.ofList (r x).cells.toList) true 0))
 | .buildSlice t len parts=>zmF (zDk P t len r parts) id m
 | .makeMap t h=>zmF (zI9 P t h r) id m
 | .makeSlice t l c=>zmF (zDA P t (r l) (r c)) id m
 | .range t x=>zmF (zDR P t (r x)) id m
 | .next it s=>zAi self (if s then zFv (zrF (r it) m) else none)
 | .store t a x=>zqC (zcZ P t (r a) (r x) m)
 | .mapUpdate t mp k x| .insert t mp k x=>zqC (zfc P t (r mp) (r k) (r x) m)
 | .call c=>zEq P self id ty r c m
 |_=>none
def zCO(P:Program)(self:zdu)(ops:List SOp):Nat->TW->Mem->Option (TW×Mem):=
 List.rec (motive:=λ_=>Nat->TW->Mem->Option (TW×Mem)) (λ_ t m=>some (t,m))
  (λo _ ih id t m=>Option.rec (motive:=λ_=>Option (TW×Mem)) none
   (λb=>Bool.rec (motive:=λ_=>Option (TW×Mem))
    (ih (Nat.succ id) (TW.put? o.dst undef t) m)
    (Option.rec (motive:=λ_=>Option (TW×Mem)) none (λq=>Prod.rec (motive:=λ_=>Option (TW×Mem)) (λv m'=>ih (Nat.succ id) (TW.put? o.dst v t) m') q) (opF P self id o.op o.type (λx=>evF x t) m))
    b) (gF o.guard t)) ops
def reF(E:Env)(o:SOp)(r:Operand->Value)(m:Mem)(hist:List (Nat×Mem))(re:List Nat):Bool:=
 re.all λe=>match zlT hist e with
  |some me=>match zck E o r m,zck E o r me with
   |some v,some u=>E.eqv v u
   |_,_=>false
  |none=>false
def drF(E:Env)(self:zdu)(base:Nat)(ops:List SOp):List (Nat×List Nat)->List (Nat×Mem)->TW->Mem->Option (TW×Mem)
 |[],_,t,m=>some (t,m)
 |(i,re)::rest,hist,t,m=>match ops[i]? with
  |none=>none
  |some o=>match gF o.guard t with
   |some true=>bif reF E o (λx=>evF x t) m hist re then match opF E.P self (base+i) o.op o.type (λx=>evF x t) m with
     |some (v,m')=>drF E self base ops rest ((i,m)::hist) (TW.put? o.dst v t) m'
     |none=>none
    else none
   |some false=>drF E self base ops rest ((i,m)::hist) (TW.put? o.dst undef t) m
   |none=>none
def zyZ(P:Program)(t:TW)(m:Mem):List ResultVar->Option (List Value)
 |[]=>some []
 | .tmp k::l=>match zyZ P t m l with
   |some vs=>some (t.get k::vs)
   |none=>none
 | .cell k ty::l=>match zdo P ty (t.get k) m,zyZ P t m l with
   |some v,some vs=>some (v::vs)
   |_,_=>none
def zDZ(self:zdu)(rd:Option Nat)(b:zan)(x:Option (ze3×Mem)):Option (ze3×Mem):=match x with
 |some (.exit .normal t',m')=>self (.code rd b t') m'
 |r=>r
def zAP(self:zdu)(rd:Option Nat)(v:Value)(a b:zan)(t:TW)(m:Mem):Option (ze3×Mem):=match v with
 | .bool true=>self (.code rd a t) m
 | .bool false=>self (.code rd b t) m
 |_=>none
def zvY(id:Nat)(x:Option (ze3×Mem)):Option (ze3×Mem):=match x with
 |some (.exit (.exit k) t',m')=>some (.exit (if k=id then .normal else .exit k) t',m')
 |r=>r
def zm0(self:zdu)(rd:Option Nat)(b:zan)(x:Option (ze3×Mem)):Option (ze3×Mem):=match x with
 |some (.exit (.goto l) t',m')=>match zfh b l with
  |some r=>self (.code rd (.again b r) t') m'
  |none=>some (.exit (.goto l) t',m')
 |r=>r
def zEm(x:Option (TW×Mem)):Option (ze3×Mem):=match x with
 |some (t',m')=>some (.exit .normal t',m')
 |none=>none
def zy4(l:Nat)(t:TW)(x:Option (ze3×Mem)):Option (ze3×Mem):=match x with
 |some (.val _,m2)=>match m2.get l with
  |some (.loop r)=>if r.state= .busy then none else
   match r.pend with
   |none=>some (.exit .normal t,m2.put l (.loop {r with state:= .exhausted}))
   |some x=>if zrH x then some (.exit x t,m2.put l (.loop {r with state:= .exhausted})) else none
  |_=>none
 |_=>none
def zH4(P:Program)(self:zdu)(rd:Option Nat)(v:Value)(ps:List Tmp)(asg bd:zan)(t:TW)(m:Mem):Option (ze3×Mem):=match v with
 | .func (.func g) first cap=>
   if zab P g&&(match rd with|none=>true|some l0=>zmS (m.get l0)) then
    zy4 m.next t (self (.call g (first.toList++ [.func (.yield m.next) #[] #[]]++cap.toList)) ((m.bump 1).put m.next (.loop {state:= .ready,pend:=none,tmps:=t.toList,ps:=ps,assign:=asg,body:=bd})))
   else none
 |_=>none
def zeu(E:Env)(self:zdu)(rd:Option Nat)(c:zan)(t:TW)(m:Mem):Option (ze3×Mem):=match c with
 | .skip=>some (.exit .normal t,m)
 | .exit id=>some (.exit (.exit id) t,m)
 | .ret=>some (.exit .ret t,m)
 | .seq a b=>zDZ self rd b (self (.code rd a t) m)
 | .cond c a b=>zAP self rd (evF c t) a b t m
 | .block id b=>zvY id (self (.code rd b t) m)
 | .loop b=>zDZ self rd (.loop b) (self (.code rd b t) m)
 | .label _=>some (.exit .normal t,m)
 | .goto l=>some (.exit (.goto l) t,m)
 | .scope b=>zm0 self rd b (self (.code rd b t) m)
 | .again b r=>zm0 self rd b (self (.code rd r t) m)
 | .reg ops=>zEm (zCO E.P self ops m.next t (m.bump ops.length))
 | .dreg ops ord=>zEm (drF E self m.next ops ord [] t (m.bump ops.length))
 | .rfn f ps asg bd=>zH4 E.P self rd (evF f t) ps asg bd t m
def zHO(P:Program)(rs:List ResultVar)(x:Option (ze3×Mem)):Option (ze3×Mem):=match x with
 |some (.exit .normal t',m')|some (.exit .ret t',m')=>match zyZ P t' m' rs with
  |some vs=>some (.val (zdb vs),m')
  |none=>none
 |_=>none
def zBC(E:Env)(self:zdu)(f:FuncId)(args:List Value)(m:Mem):Option (ze3×Mem):=match zaG E.P f with
 |none=>none
 |some s=>zHO E.P s.results (self (.code none s.body (TW.ofArgs s.ntmps args)) m)
def zCd(x:Option (Value×Mem)):Option (ze3×Mem):=match x with
 |some (v,m')=>some (.val v,m')
 |none=>none
def zro(l:Nat)(x:Option (ze3×Mem)):Option (ze3×Mem):=match x with
 |some (.exit x _,m3)=>match m3.get l with
  |some (.loop r3)=>match x with
   | .normal=>some (.val (.bool true),m3.put l (.loop {r3 with state:= .ready,pend:=none}))
   | .ret=>some (.val (.bool false),m3.put l (.loop {r3 with state:= .done,pend:=some .ret}))
   | .exit id=>some (.val (.bool false),m3.put l (.loop {r3 with state:= .done,pend:=some (.exit id)}))
   |_=>none
  |_=>none
 |_=>none
def zqo(self:zdu)(l:Nat)(body:zan)(x:Option (ze3×Mem)):Option (ze3×Mem):=match x with
 |some (.exit .normal t1,m1)=>match m1.get l with
  |some (.loop r1)=>if r1.state= .ready then zro l (self (.code (some l) body t1) (m1.put l (.loop {r1 with state:= .busy}))) else none
  |_=>none
 |_=>none
def zwA(self:zdu)(l:Nat)(args:List Value)(m:Mem):Option (ze3×Mem):=match m.get l with
 |some (.loop r)=>if r.ps.length=args.length∧r.state= .ready then
   zqo self l r.body (self (.code (some l) r.assign (TW.ofArgs 0 (zco r.ps args r.tmps))) m)
  else none
 |_=>none
def zt0(E:Env)(self:zdu):zCr->Mem->Option (ze3×Mem)
 | .code rd c t,m=>zeu E self rd c t m
 | .call f args,m=>match E.prim f with
   |some p=>zCd (p args m)
   |none=>zBC E self f args m
 | .round l args,m=>zwA self l args m
def zDy(E:Env)(n:Nat):zdu:=Nat.rec (motive:=λ_=>zdu) (λ_ _=>none) (λ_ ih=>zt0 E ih) n
end
end Go.Ab
namespace Go.Ab
section
theorem zhD(self:zdu)(x:Option Mem):zqC x=zAi self (x.map λm'=>(.val undef,m')):=by cases x<;>rfl
theorem zCe(P:Program)(self:zdu)(id:Nat)(o:SOp)(r:Operand->Value)(m:Mem):opF P self id o.op o.type r m=(match cls o.op with
  | .pure=>zda (za9 P o r) m
  | .read=>zda (zem P o r m) m
  | .make=>zmF (zdc P o r) id m
  | .eff=>zAi self (zeZ P id o r m)):=by
 obtain⟨d,op,ty,g⟩:=o;cases op with
 |binOp op t x y g=>
  cases op with
  |eql=>exact zvM P (.inl rfl) t x y (r x) (r y) m
  |neq=>exact zvM P (.inr rfl) t x y (r x) (r y) m
  |_=>rfl
 |store t a x=>exact zhD self _
 |mapUpdate t mp k x=>exact zhD self _
 |insert t mp k x=>exact zhD self _
 |call c=>
  obtain⟨callee,args,at_⟩:=c;cases callee with
  |builtin b=>cases b<;>rfl
  |_=>rfl
 |box e v=>show(if zdn (r v) then none else some (ptr id 0,m.put id (.cells (.ofList (r v).cells.toList) true 0)))=zmF (if zdn (r v) then none else some (.cells (.ofList (r v).cells.toList) true 0,λid=>ptr id 0)) id m;cases zdn (r v)<;>rfl
 |_=>rfl
structure Sim(sF:zdu)(s:zdv):Prop where
 code:∀{rd c t l m x t' m'},TL t l->sF (.code rd c t) m=some (.exit x t',m')->∃l',TL t' l'∧s (.code rd c l) m=some (.exit x l',m')
 call:∀{f args m v m'},sF (.call f args) m=some (.val v,m')->s (.call f args) m=some (.val v,m')
 round:∀{k args m v m'},sF (.round k args) m=some (.val v,m')->s (.round k args) m=some (.val v,m')
variable{E:Env}{sF:zdu}{s:zdv}
theorem zks{x:Option (ze3×Mem)}{q:Value×Mem}(h:zD8 x=some q):x=some (.val q.1,q.2):=by
 unfold zD8 at h;split at h
 ·cases h;rfl
 ·cases h
theorem zCX(hs:Sim sF s){t:TW}{l:List Value}(ht:TL t l){id:Nat}{o:SOp}{m:Mem}{q:Value×Mem}(h:opF E.P sF id o.op o.type (λx=>evF x t) m=some q):opA E s id o l m=some q:=by
 rw[zCe,znm ht] at h;unfold opA;cases hc:cls o.op with
 |pure=>
  rw[hc] at h;simp only at h⊢;cases hx:za9 E.P o (λx=>ev x l) with
  |none=>rw[hx] at h;cases h
  |some v=>rw[hx] at h;simp only[zl5,hx];exact h
 |read=>
  rw[hc] at h;simp only at h⊢;cases hx:zem E.P o (λx=>ev x l) m with
  |none=>rw[hx] at h;cases h
  |some v=>rw[hx] at h;simp only[zck,hx];exact h
 |make=>
  rw[hc] at h;simp only at h⊢;cases hx:zdc E.P o (λx=>ev x l) with
  |none=>rw[hx] at h;cases h
  |some v=>rw[hx] at h;exact h
 |eff=>
  rw[hc] at h;simp only at h⊢;cases hx:zeZ E.P id o (λx=>ev x l) m with
  |none=>rw[hx] at h;cases h
  |some v=>
   rw[hx] at h;obtain⟨rq,m1⟩:=v;cases rq with
   |val v=>exact h
   |call f args=>have h1:=hs.call (zks h);simp only[h1]
   |round k args=>have h1:=hs.round (zks h);simp only[h1]
theorem zrP(P:Program)(self:zdu)(o:SOp)(ops:List SOp)(id:Nat)(t:TW)(m:Mem):zCO P self (o::ops) id t m=(match gF o.guard t with
  |none=>none
  |some false=>zCO P self ops (id+1) (TW.put? o.dst undef t) m
  |some true=>match opF P self id o.op o.type (λx=>evF x t) m with
   |none=>none
   |some (v,m')=>zCO P self ops (id+1) (TW.put? o.dst v t) m'):=by
 show Option.rec (motive:=λ_=>Option (TW×Mem)) none _ (gF o.guard t)=_;cases gF o.guard t with
 |none=>rfl
 |some b=>cases b with
  |false=>rfl
  |true=>
   show Option.rec (motive:=λ_=>Option (TW×Mem)) none _ (opF P self id o.op o.type (λx=>evF x t) m)=_;cases opF P self id o.op o.type (λx=>evF x t) m with
   |none=>rfl
   |some q=>rfl
theorem zgM(hs:Sim sF s){t:TW}{l:List Value}(ht:TL t l){id:Nat}{o:SOp}{m:Mem}:
  (∀{q:Value×Mem},gF o.guard t=some true->opF E.P sF id o.op o.type (λx=>evF x t) m=some q->zbz E s id o l m=some (zdP o.dst q.1 l,q.2))∧
  (gF o.guard t=some false->zbz E s id o l m=some (zdP o.dst undef l,m)):=by
 rw[zCc ht];unfold zbz;by_cases hg:gOk o.guard l=false
 ·simp[hg]
 ·simp only[hg];refine⟨λ{q} h1 h2=>?_,λh1=>?_⟩
  ·have hw:wanted o.guard l=true:=by simpa using h1
   simp only[hw,zCX hs ht h2];rfl
  ·have hw:wanted o.guard l=false:=by simpa using h1
   simp[hw]
theorem zlP(hs:Sim sF s):∀{ops:List SOp} {id:Nat} {t t':TW} {l:List Value} {m m':Mem},TL t l->zCO E.P sF ops id t m=some (t',m')->∃l',TL t' l'∧zea E s id ops l m=some (l',m')
 |[],id,t,t',l,m,m',ht,h=>by have h:some (t,m)=some (t',m'):=h;cases h;exact⟨l,ht,rfl⟩
 |o::ops,id,t,t',l,m,m',ht,h=>by
  rw[zrP] at h;simp only[zea];cases hg:gF o.guard t with
  |none=>rw[hg] at h;cases h
  |some b=>
   rw[hg] at h;cases b with
   |false=>simp only at h;rw[(zgM hs ht).2 hg];exact zlP hs (ht.put? o.dst undef) h
   |true=>
    simp only at h;cases ho:opF E.P sF id o.op o.type (λx=>evF x t) m with
    |none=>rw[ho] at h;cases h
    |some q=>rw[ho] at h;rw[(zgM hs ht).1 hg ho];exact zlP hs (ht.put? o.dst q.1) h
theorem zqG(hs:Sim sF s){base:Nat}{ops:List SOp}:∀{ord:List (Nat×List Nat)} {hist:List (Nat×Mem)} {t t':TW} {l:List Value} {m m':Mem},TL t l->drF E sF base ops ord hist t m=some (t',m')->
  ∃l',TL t' l'∧zfn E s base ops ord hist l m=some (l',m')
 |[],hist,t,t',l,m,m',ht,h=>by have h:some (t,m)=some (t',m'):=h;cases h;exact⟨l,ht,rfl⟩
 |(i,re)::ord,hist,t,t',l,m,m',ht,h=>by
  simp only[drF] at h;simp only[zfn];cases hi:ops[i]? with
  |none=>rw[hi] at h;cases h
  |some o=>
   rw[hi] at h;simp only at h⊢;have hgw:=zCc ht o.guard;cases hg:gF o.guard t with
   |none=>rw[hg] at h;cases h
   |some b=>
    rw[hg] at h hgw;have hwb:wanted o.guard l=b:=by
     by_cases hok:gOk o.guard l=false
     ·simp[hok] at hgw
     ·simpa [hok] using hgw.symm
    cases b with
    |false=>simp only at h;rw[if_pos (.inl hwb),(zgM hs ht).2 hg];exact zqG hs (ht.put? o.dst undef) h
    |true=>
     simp only at h;cases hre:reF E o (λx=>evF x t) m hist re with
     |false=>rw[hre] at h;cases h
     |true=>
      rw[hre] at h;simp only[cond_true] at h;have hre':zAf E o l m hist re=true:=by rw[znm ht] at hre;exact hre
      rw[if_pos (.inr hre')];cases ho:opF E.P sF (base+i) o.op o.type (λx=>evF x t) m with
      |none=>rw[ho] at h;cases h
      |some q=>rw[ho] at h;rw[(zgM hs ht).1 hg ho];exact zqG hs (ht.put? o.dst q.1) h
theorem zmC{P:Program}{t:TW}{l:List Value}(ht:TL t l){m:Mem}:∀(rs:List ResultVar),zyZ P t m rs=zeh P l m rs
 |[]=>rfl
 | .tmp k::rs=>by simp only[zyZ,zeh,zmC ht rs,ht.2 k];rfl
 | .cell k ty::rs=>by simp only[zyZ,zeh,zmC ht rs,ht.2 k];rfl
theorem zrK(hs:Sim sF s){rd:Option Nat}{c:zan}{t t':TW}{l:List Value}{m m':Mem}{x:Exit}(ht:TL t l)(h:zeu E sF rd c t m=some (.exit x t',m')):∃l',TL t' l'∧zao E s rd c l m=some (.exit x l',m'):=by
 cases c with
 |skip=>cases h;exact⟨l,ht,rfl⟩
 |exit i=>cases h;exact⟨l,ht,rfl⟩
 |ret=>cases h;exact⟨l,ht,rfl⟩
 |seq a b=>
  simp only[zeu] at h;simp only[zao];unfold zDZ at h;split at h
  ·rename_i t1 m1 h1;obtain⟨l1,g1,g2⟩:=hs.code ht h1;obtain⟨l2,g3,g4⟩:=hs.code g1 h;exact⟨l2,g3,by rw[g2];exact g4⟩
  ·rename_i hne;obtain⟨l1,g1,g2⟩:=hs.code ht h;refine⟨l1,g1,?_⟩;rw[g2];cases x with
   |normal=>exact absurd h (λe=>hne _ _ e)
   |_=>rfl
 |loop b=>
  simp only[zeu] at h;simp only[zao];unfold zDZ at h;split at h
  ·rename_i t1 m1 h1;obtain⟨l1,g1,g2⟩:=hs.code ht h1;obtain⟨l2,g3,g4⟩:=hs.code g1 h;exact⟨l2,g3,by rw[g2];exact g4⟩
  ·rename_i hne;obtain⟨l1,g1,g2⟩:=hs.code ht h;refine⟨l1,g1,?_⟩;rw[g2];cases x with
   |normal=>exact absurd h (λe=>hne _ _ e)
   |_=>rfl
 |cond c a b=>
  simp only[zeu] at h;simp only[zao];have e:evF c t=ev c l:=congrFun (znm ht) c;rw[e] at h;unfold zAP at h;split at h
  ·rename_i hv;obtain⟨l1,g1,g2⟩:=hs.code ht h;exact⟨l1,g1,by rw[hv];exact g2⟩
  ·rename_i hv;obtain⟨l1,g1,g2⟩:=hs.code ht h;exact⟨l1,g1,by rw[hv];exact g2⟩
  ·cases h
 |block i b=>
  simp only[zeu] at h;simp only[zao];unfold zvY at h;split at h
  ·rename_i k t1 m1 h1;obtain⟨l1,g1,g2⟩:=hs.code ht h1;simp only[sI,pI,ze3.exit.injEq] at h;obtain⟨⟨rfl,rfl⟩,rfl⟩:=h;exact⟨l1,g1,by rw[g2]⟩
  ·rename_i hne;obtain⟨l1,g1,g2⟩:=hs.code ht h;refine⟨l1,g1,?_⟩;rw[g2];cases x with
   |exit k=>exact absurd h (λe=>hne _ _ _ e)
   |_=>rfl
 |label i=>cases h;exact⟨l,ht,rfl⟩
 |goto i=>cases h;exact⟨l,ht,rfl⟩
 |scope b=>
  simp only[zeu] at h;simp only[zao];unfold zm0 at h;split at h
  ·rename_i k t1 m1 h1;obtain⟨l1,g1,g2⟩:=hs.code ht h1;rw[g2];simp only;cases hf:zfh b k with
   |none=>rw[hf] at h;simp only[sI,pI,ze3.exit.injEq] at h;obtain⟨⟨rfl,rfl⟩,rfl⟩:=h;exact⟨l1,g1,rfl⟩
   |some r1=>rw[hf] at h;exact hs.code g1 h
  ·rename_i hne;obtain⟨l1,g1,g2⟩:=hs.code ht h;refine⟨l1,g1,?_⟩;rw[g2];cases x with
   |goto k=>exact absurd h (λe=>hne _ _ _ e)
   |_=>rfl
 |again b r=>
  simp only[zeu] at h;simp only[zao];unfold zm0 at h;split at h
  ·rename_i k t1 m1 h1;obtain⟨l1,g1,g2⟩:=hs.code ht h1;rw[g2];simp only;cases hf:zfh b k with
   |none=>rw[hf] at h;simp only[sI,pI,ze3.exit.injEq] at h;obtain⟨⟨rfl,rfl⟩,rfl⟩:=h;exact⟨l1,g1,rfl⟩
   |some r1=>rw[hf] at h;exact hs.code g1 h
  ·rename_i hne;obtain⟨l1,g1,g2⟩:=hs.code ht h;refine⟨l1,g1,?_⟩;rw[g2];cases x with
   |goto k=>exact absurd h (λe=>hne _ _ _ e)
   |_=>rfl
 |reg ops=>
  simp only[zeu] at h;simp only[zao];unfold zEm at h;split at h
  ·rename_i t1 m1 h1;cases h;obtain⟨l1,g1,g2⟩:=zlP hs ht h1;exact⟨l1,g1,by rw[g2]⟩
  ·cases h
 |dreg ops ord=>
  simp only[zeu] at h;simp only[zao];unfold zEm at h;split at h
  ·rename_i t1 m1 h1;cases h;obtain⟨l1,g1,g2⟩:=zqG hs ht h1;exact⟨l1,g1,by rw[g2]⟩
  ·cases h
 |rfn f ps asg bd=>
  simp only[zeu] at h;simp only[zao];have e:evF f t=ev f l:=congrFun (znm ht) f;rw[e] at h;unfold zH4 at h;split at h
  ·rename_i g first cap hv
   rw[hv];rw[ht.toList] at h;have fin:∀b:Bool,(if b=true then zy4 m.next t (sF (.call g (first.toList++ [.func (.yield m.next) #[] #[]]++cap.toList)) ((m.bump 1).put m.next (.loop {state:= .ready,pend:=none,tmps:=l,ps:=ps,assign:=asg,body:=bd}))) else none)=some (.exit x t',m')->
     ∃l',TL t' l'∧(if b=true then
      match s (.call g (first.toList++ [.func (.yield m.next) #[] #[]]++cap.toList)) ((m.bump 1).put m.next (.loop {state:= .ready,pend:=none,tmps:=l,ps:=ps,assign:=asg,body:=bd})) with
      |some (.val _,m2)=>match m2.get m.next with
       |some (.loop r)=>if r.state= .busy then none else
        match r.pend with
        |none=>some (Out.exit .normal l,m2.put m.next (.loop {r with state:= .exhausted}))
        |some x=>if zrH x then some (.exit x l,m2.put m.next (.loop {r with state:= .exhausted})) else none
       |_=>none
      |_=>none
      else none)=some (.exit x l',m'):=by
    intro b h;cases b with
    |false=>cases h
    |true=>
     simp only[if_true] at h⊢;unfold zy4 at h;split at h
     ·rename_i v m2 h1;rw[hs.call h1];simp only;split at h
      ·rename_i r hr
       try simp only[hr]
       split at h
       ·cases h
       ·rename_i hb;rw[if_neg hb];split at h
        ·rename_i hp;cases h;exact⟨l,ht,by simp only[hp]⟩
        ·rename_i x' hp;split at h
         ·rename_i hpx;cases h;exact⟨l,ht,by simp only[hp,hpx,if_true]⟩
         ·cases h
      ·cases h
     ·cases h
   exact fin _ h
  ·cases h
theorem zui(hs:Sim sF s):Sim (zt0 E sF) (step E s):=by
 refine⟨λ{rd c t l m x t' m'} ht h=>zrK hs ht h,λ{f args m v m'} h=>?_,λ{k args m v m'} h=>?_⟩
 ·simp only[zt0] at h;simp only[step];cases hp:E.prim f with
  |some p=>
   rw[hp] at h;simp only[zCd] at h;cases hq:p args m with
   |none=>rw[hq] at h;cases h
   |some q=>rw[hq] at h;cases h;simp only[hq]
  |none=>
   rw[hp] at h;simp only[zBC] at h;cases hf:zaG E.P f with
   |none=>rw[hf] at h;cases h
   |some fn=>
    rw[hf] at h;simp only at h⊢;have key:∀{x:Exit} {t':TW} {m2:Mem} {l':List Value},x= .normal∨x= .ret->TL t' l'->s (.code none fn.body (args++List.replicate (fn.ntmps-args.length) undef)) m=some (.exit x l',m2)->
      (match zyZ E.P t' m2 fn.results with|some vs=>some (ze3.val (zdb vs),m2)|none=>none)=some (ze3.val v,m')->
      (match s (.code none fn.body (args++List.replicate (fn.ntmps-args.length) undef)) m with
       |some (.exit x t',m')=>if x matches .normal| .ret then
         match zeh E.P t' m' fn.results with
         |some vs=>some (Out.val (zdb vs),m')
         |none=>none
        else none
       |_=>none)=some (Out.val v,m'):=by
     intro x t2 m2 l2 hx hl hrun hr;rw[hrun];rw[zmC hl] at hr;rcases hx with rfl|rfl
     ·simp only[if_true];cases hv:zeh E.P l2 m2 fn.results with
      |none=>rw[hv] at hr;cases hr
      |some vs=>rw[hv] at hr;cases hr;rfl
     ·simp only[if_true];cases hv:zeh E.P l2 m2 fn.results with
      |none=>rw[hv] at hr;cases hr
      |some vs=>rw[hv] at hr;cases hr;rfl
    unfold zHO at h;split at h
    ·rename_i t2 m2 h1;obtain⟨l2,g1,g2⟩:=hs.code (zeW fn.ntmps args) h1;exact key (.inl rfl) g1 g2 h
    ·rename_i t2 m2 h1;obtain⟨l2,g1,g2⟩:=hs.code (zeW fn.ntmps args) h1;exact key (.inr rfl) g1 g2 h
    ·cases h
 ·simp only[zt0,zwA] at h;simp only[step];split at h
  ·rename_i r hr
   try simp only[hr]
   split at h
   ·rename_i hc;rw[if_pos hc];unfold zqo at h;split at h
    ·rename_i t1 m1 h1;have h0:TL (TW.ofArgs 0 (zco r.ps args r.tmps)) (zco r.ps args r.tmps):=by have:=zeW 0 (zco r.ps args r.tmps);simpa using this
     obtain⟨l1,g1,g2⟩:=hs.code h0 h1;rw[g2];simp only;split at h
     ·rename_i r1 hr1;simp only[hr1];split at h
      ·rename_i hc1;rw[if_pos hc1];unfold zro at h;split at h
       ·rename_i x t3 m3 h3;obtain⟨l3,g3,g4⟩:=hs.code g1 h3;rw[g4];simp only;split at h
        ·rename_i r3 hr3;simp only[hr3];cases x<;>first|(cases h;rfl)|(cases h;done)
        ·cases h
       ·cases h
      ·cases h
     ·cases h
    ·cases h
   ·cases h
  ·cases h
theorem znh(E:Env):∀n,Sim (zDy E n) (run E n)
 |0=>{code:=λ_ h=>(by cases h),call:=λh=>(by cases h),round:=λh=>(by cases h)}
 |n+1=>zui (znh E n)
theorem zsq{E:Env}{n:Nat}{f:FuncId}{args:List Value}{m m':Mem}{v:Value}(h:zDy E n (.call f args) m=some (.val v,m')):run E n (.call f args) m=some (.val v,m'):=(znh E n).call h
def zl0:Option (ze3×Mem)->Bool
 |some (.val (.bool true),_)=>true
 |_=>false
theorem zmB{E:Env}{n:Nat}{f:FuncId}{m:Mem}(h:zl0 (zDy E n (.call f []) m)=true):∃m',run E n (.call f []) m=some (.val (.bool true),m'):=by
 cases hr:zDy E n (.call f []) m with
 |none=>rw[hr] at h;cases h
 |some q=>
  obtain⟨o,m'⟩:=q;rw[hr] at h;unfold zl0 at h;split at h
  ·rename_i e;cases e;exact⟨_,zsq hr⟩
  ·cases h
end
section
variable{σ:Sig}
noncomputable def zD0 (g:Nat)(cells:List Value):Mem:=⟨64,Tr.put g .leaf g (some (.cells (.ofList cells) false 1))⟩
theorem zgJ(g:Nat)(cells:List Value)(b:Nat):(zD0 g cells).get b=if b=g then some (.cells (.ofList cells) false 1) else none:=by show(Tr.put g .leaf g _).get b=_;rw[Tr.get_put _ _ _ _ _ (lR' g),Tr.get_leaf]
theorem zmG(g:Nat)(cells:List Value):zdw (zD0 g cells):=λb o h=>by
 rw[zgJ] at h;split at h
 ·cases h;rfl
 ·cases h
theorem zuJ{g:Nat}{cells:List Value}{w:World}(hg:g<64)(hne:cells≠ [])(hp:cells.all plain=true)(h:∀(i:Nat) v,cells[i]? =some v->w.cell? ⟨g,i,none⟩=some v):Rel σ ρ0 (zD0 g cells) w:=by
 refine⟨(ziD (σ:=σ) w).dom,(ziD (σ:=σ) w).glob,λb o x hb hx=>?_,λb1 b2 o1 o2 x1 x2 _ h1 _ _ _ hw=>?_,λb hb=>?_⟩
 ·rw[zgJ] at hb;split at hb
  ·rename_i hbg;subst hbg;cases hb;have hρ:ρ0 b=some (b,0,0):=by simp[ρ0,hg]
   rw[hρ] at hx;cases hx;show za2 σ ρ0 w (b,0,0) (ofL cells).list false 1;rw[Cells.ofList_list];obtain⟨v0,hv0⟩:∃v0,cells[0]? =some v0:=by
    cases cells with
    |nil=>exact absurd rfl hne
    |cons v l=>exact⟨v,rfl⟩
   have h0:=h 0 v0 hv0;unfold World.cell? at h0;cases hb2:w.heap[b]? with
   |none=>simp[hb2] at h0
   |some ob=>
    cases ob with
    |cells cs' t fz=>
     have hall:∀(i:Nat) v,cells[i]? =some v->cs'[i]? =some v:=λi v hv=>by have:=h i v hv;simpa [World.cell?,hb2] using this
     refine⟨cs',t,fz,hb2,?_,⟨λe=>(by cases e),λ_=>rfl⟩,λi hi=>?_⟩
     ·have hl:cells.length-1<cells.length:=by have:=List.length_pos_iff.2 hne;omega
      have:=hall (cells.length-1) _ (gE' hl);have:=(Array.getElem?_eq_some_iff.1 this).1;simp only;omega
     ·have h1:=gE' hi;have h2:=hall i _ h1;rw[gD',h1,Array.getD_eq_getD_getElem?,Nat.zero_add,h2];exact zaF ρ0 (List.all_eq_true.1 hp _ (List.getElem_mem hi))
    |_=>simp[hb2] at h0
  ·cases hb
 ·rw[zmG g cells b1 o1 h1] at hw;cases hw
 ·rw[zgJ,if_neg (by simp[zD0] at hb;omega)]
end
section
variable{σ:Sig}
def zfv(f:DataW Unit->Option (List Value))(k:Nat):List (DataW Unit)->Option (List Value)
 |[]=>some []
 |d::ds=>match f d,zfv f k ds with
  |some a,some b=>if a.length=k then some (a++b) else none
  |_,_=>none
def zdS(P:Program)(f:TypeId->DataW Unit->Option (List Value)):List Field->List (DataW Unit)->Nat->Option (List Value)
 |[],[],_=>some []
 |x::fs,d::ds,off=>match f x.type d,zdS P f fs ds (off+P.cellsOf x.type) with
  |some a,some b=>if x.offset=off∧a.length=P.cellsOf x.type then some (a++b) else none
  |_,_=>none
 |_,_,_=>none
def zdz(P:Program):Nat->TypeId->DataW Unit->Option (List Value)
 |0,_,_=>none
 |n+1,t,d=>match P.underlying t,d with
  |some (.int k), .lit (.int j a)=>if k=j then some [.int k a] else none
  |some .bool, .lit (.bool b)=>some [.bool b]
  |some .string, .lit (.string s)=>some [.string ⟨s.toArray⟩]
  |some (.array len e), .agg ds=>if ds.length=len∧P.cellsOf t=len*P.cellsOf e then zfv (zdz P n e) (P.cellsOf e) ds else none
  |some (.struct fs), .agg ds=>match zdS P (zdz P n) fs.toList ds 0 with
   |some l=>if l.length=P.cellsOf t then some l else none
   |none=>none
  |_,_=>none
theorem zvZ{f:DataW Unit->Option (List Value)}{k:Nat}:∀{ds:List (DataW Unit)} {l cs:List Value},zfv f k ds=some l->cs.length=ds.length*k->
  (∀(i:Nat) d a,ds[i]? =some d->f d=some a->(cs.drop (i*k)).take k=a)->cs=l
 |[],l,cs,h,hl,_=>by simp only[zfv,sI] at h;subst h;exact List.eq_nil_of_length_eq_zero (by simpa using hl)
 |d::ds,l,cs,h,hl,hc=>by
  simp only[zfv] at h;split at h
  ·rename_i a b ha hb;split at h
   ·rename_i hk;simp only[sI] at h;subst h;have h0:cs.take k=a:=by simpa using hc 0 d a (by simp) ha
    have hl':cs.length=ds.length*k+k:=by rw[hl,List.length_cons,Nat.add_mul,Nat.one_mul]
    have h1:cs.drop k=b:=zvZ hb (by rw[List.length_drop];omega) λi d' a' hd hf=>by have:=hc (i+1) d' a' (by simpa using hd) hf;rw[List.drop_drop];rw[Nat.add_mul,Nat.one_mul,Nat.add_comm] at this;exact this
    rw[<-List.take_append_drop k cs,h0,h1]
   ·cases h
  ·cases h
theorem zv6{P:Program}{f:TypeId->DataW Unit->Option (List Value)}:∀{fs:List Field} {ds:List (DataW Unit)} {off:Nat} {l cs:List Value},zdS P f fs ds off=some l->cs.length=off+l.length->
  (∀(i:Nat) x d a,fs[i]? =some x->ds[i]? =some d->f x.type d=some a->(cs.drop x.offset).take (P.cellsOf x.type)=a)->cs.drop off=l
 |[],[],off,l,cs,h,hl,_=>by simp only[zdS,sI] at h;subst h;exact List.drop_eq_nil_of_le (by simpa using Nat.le_of_eq hl)
 |x::fs,d::ds,off,l,cs,h,hl,hc=>by
  simp only[zdS] at h;split at h
  ·rename_i a b ha hb;split at h
   ·rename_i hk;obtain⟨ho,hk⟩:=hk;simp only[sI] at h;subst h;have h0:(cs.drop off).take (P.cellsOf x.type)=a:=by have:=hc 0 x d a (by simp) (by simp) ha;rwa[ho] at this
    rw[aL] at hl;have h1:cs.drop (off+P.cellsOf x.type)=b:=zv6 hb (by omega) λi x' d' a' hx hd hf=>hc (i+1) x' d' a' (by simpa using hx) (by simpa using hd) hf;rw[<-List.take_append_drop (P.cellsOf x.type) (cs.drop off),h0,List.drop_drop,h1]
   ·cases h
  ·cases h
 |[],_::_,_,_,_,h,_,_=>by simp[zdS] at h
 |_::_,[],_,_,_,h,_,_=>by simp[zdS] at h
theorem zls{P:Program}{W:World}{enc:TypeId×Value->Unit}{base:Nat}{sp:Nat->Bool}{held:Bool}:∀(n:Nat) {t:TypeId} {d:DataW Unit} {l cs:List Value} {fuel:Nat} {p:List MemPlace},
  zdz P n t d=some l->DataW.trod enc P W base sp held fuel t cs=some (d,p)->cs=l
 |0,t,d,l,cs,fuel,p,h,_=>by simp[zdz] at h
 |n+1,t,d,l,cs,fuel,p,h,ht=>by
  simp only[zdz] at h;split at h
  ·rename_i k j a hu;split at h
   ·rename_i hkj;subst hkj;simp only[sI] at h;subst h;obtain⟨x,e1,e2,_⟩:=DataW.trod_int hu ht;simp only[pI,DataW.lit.injEq,Lit.int.injEq] at e2;rw[e1,e2.1.2]
   ·cases h
  ·rename_i b hu;simp only[sI] at h;subst h;obtain⟨x,e1,e2⟩:=DataW.trod_bool hu ht;simp only[pI,DataW.lit.injEq,Lit.bool.injEq] at e2;rw[e1,e2.1]
  ·rename_i s hu;simp only[sI] at h;subst h;obtain⟨x,e1,e2,_⟩:=DataW.trod_string hu ht;simp only[pI,DataW.lit.injEq,Lit.string.injEq] at e2;rw[e1,e2.1]
  ·rename_i len e ds hu;split at h
   ·rename_i hc;obtain⟨hc1,hc2⟩:=hc;obtain⟨xs,m,rfl,hx,hlen,hn,hel⟩:=DataW.trod_array hu ht;simp only[pI,DataW.agg.injEq] at hx;refine zvZ h (by rw[hlen,hc2,hc1]) λi d' a hd hf=>?_;have hil:i<len:=by rw[<-hc1];exact(List.getElem?_eq_some_iff.1 hd).1
    have h1:(xs.map (·.1))[i]? =some d':=by rw[<-hx.1];exact hd
    rw[gM'] at h1;cases hxi:xs[i]? with
    |none=>rw[hxi] at h1;cases h1
    |some x=>rw[hxi] at h1;simp only[Option.map_some,sI] at h1;have h2:=hel i hil;rw[hxi] at h2;obtain⟨x1,x2⟩:=x;simp only at h1;subst h1;exact zls n hf h2
   ·cases h
  ·rename_i fs ds hu;split at h
   ·rename_i l' hl';split at h
    ·rename_i hlen';simp only[sI] at h;subst h;obtain⟨xs,m,rfl,hx,hlen,hn,hel⟩:=DataW.trod_struct hu ht;simp only[pI,DataW.agg.injEq] at hx;have:=zv6 (cs:=cs) hl' (by rw[hlen,hlen',Nat.zero_add]) λi x d' a hxf hd hf=>?_
     ·simpa using this
     ·have h1:(xs.map (·.1))[i]? =some d':=by rw[<-hx.1];exact hd
      rw[gM'] at h1;cases hxi:xs[i]? with
      |none=>rw[hxi] at h1;cases h1
      |some y=>rw[hxi] at h1;simp only[Option.map_some,sI] at h1;have h2:=hel i x (by simpa using hxf);rw[hxi] at h2;obtain⟨y1,y2⟩:=y;simp only at h1;subst h1;exact zls n hf h2
    ·cases h
   ·cases h
  ·cases h
def zgh(P:Program):List (String×DataW Unit)->Option (List (Nat×List Value))
 |[]=>some []
 |(n,d)::r=>match P.globalNamed n with
  |none=>none
  |some g=>match(P.globals[g]?).map (·.type) with
   |none=>none
   |some t=>match zdz P 8 t d,zgh P r with
    |some (v::l),some tl=>if g<64∧(v::l).all plain=true then some ((g,v::l)::tl) else none
    |_,_=>none
theorem zkQ{P:Program}{W:World}:∀{laid:List (String×DataW Unit)} {zcM:List (Nat×List Value)} {ps:List MemPlace},zgh P laid=some zcM->DataW.LaidVars P W laid ps->
  ∀q∈zcM,q.1<64∧q.2≠ []∧q.2.all plain=true∧∀(i:Nat) v,q.2[i]? =some v->W.cell? ⟨q.1,i,none⟩=some v
 |[],zcM,ps,h,_=>by simp only[zgh,sI] at h;subst h;intro q hq;cases hq
 |(n,d)::r,zcM,ps,h,hl=>by
  obtain⟨g0,t0,cs0,f0,p0,q0,hg0,ht0,hv0,hd0,hr,_⟩:=hl;simp only[zgh] at h;rw[hg0] at h;simp only at h;rw[ht0] at h;simp only at h;split at h
  ·rename_i v l tl hdc htl;split at h
   ·rename_i hc;simp only[sI] at h;subst h;intro q hq;rcases List.mem_cons.1 hq with rfl|hq
    ·refine⟨hc.1,by simp,hc.2,λi u hu=>?_⟩;have hcs:=zls 8 hdc hd0;rw[World.var?_cell hg0 hv0 i,<-Array.getElem?_toList,hcs];exact hu
    ·exact zkQ htl hr q hq
   ·cases h
  ·cases h
noncomputable def zqK (zcM:List (Nat×List Value)):Tr zaS:=match zcM with
 |[]=> .leaf
 |(g,l)::r=>Tr.put g (zqK r) g (some (.cells (.ofList l) false 1))
noncomputable def zc1 (zcM:List (Nat×List Value)):Mem:=⟨64,zqK zcM⟩
theorem zdA:∀{zcM:List (Nat×List Value)} {b:Nat} {o:zaS},(zqK zcM).get b=some o->∃l,(b,l)∈zcM∧o= .cells (.ofList l) false 1
 |[],b,o,h=>by rw[zqK,Tr.get_leaf] at h;cases h
 |(g,l)::r,b,o,h=>by
  rw[zqK,Tr.get_put _ _ _ _ _ (lR' g)] at h;split at h
  ·rename_i e;cases h;exact⟨l,by simp[e],rfl⟩
  ·obtain⟨l',h1,h2⟩:=zdA h;exact⟨l',List.mem_cons_of_mem _ h1,h2⟩
theorem zcS(zcM:List (Nat×List Value)):zdw (zc1 zcM):=λb o h=>by obtain⟨l,_,rfl⟩:=zdA (zcM:=zcM) h;rfl
theorem zii{zcM:List (Nat×List Value)}{w:World}(h:∀q∈zcM,q.1<64∧q.2≠ []∧q.2.all plain=true∧∀(i:Nat) v,q.2[i]? =some v->w.cell? ⟨q.1,i,none⟩=some v):Rel σ ρ0 (zc1 zcM) w:=by
 refine⟨(ziD (σ:=σ) w).dom,(ziD (σ:=σ) w).glob,λb o x hb hx=>?_,λb1 b2 o1 o2 x1 x2 _ h1 _ _ _ hw=>?_,λb hb=>?_⟩
 ·obtain⟨l,hm,rfl⟩:=zdA (zcM:=zcM) hb;obtain⟨q1,q2,q3,q4⟩:=h _ hm;have:=(zuJ (σ:=σ) q1 q2 q3 q4).obj b (.cells (.ofList l) false 1) x (by rw[zgJ,if_pos rfl]) hx;exact this
 ·rw[zcS zcM b1 o1 h1] at hw;cases hw
 ·cases hg:(zc1 zcM).get b with
  |none=>rfl
  |some o=>obtain⟨l,hm,_⟩:=zdA (zcM:=zcM) hg;have:=(h _ hm).1;simp[zc1] at hb;omega
end
end Go.Ab
namespace Go.Ab
open Go.RowKit Go.ChangeShapes
noncomputable section
section
variable{P:Program}{ρ:Rho}{m M:Mem}{w:World}
def zyT(ρ:Rho)(b k off:Nat):Rho:=λy=>if y=b then some (k,off,0) else ρ y
theorem znV(hR:Rel Sig.none ρ m w){k off:Nat}:Ext ρ (zyT ρ m.next k off):=λb x hb=>by unfold zyT;rw[if_neg (λe=>by rw[e,hR.dom _ (lR' _)] at hb;cases hb)];exact hb
theorem zhG{C:Cells}(b:Nat):((m.put m.next (.cells C false 1)).bump 1).get b=if b=m.next then some (.cells C false 1) else m.get b:=by rw[gB,gP]
theorem zv1(hm:zad m){C:Cells}:Nx m ((m.put m.next (.cells C false 1)).bump 1):=by
 refine⟨by rw[bN,nP];omega,⟨by rw[bN,nP];have:=hm.n64;omega,λb hb=>?_⟩,λy hy=>?_⟩
 ·rw[bN,nP] at hb;rw[zhG,if_neg (by omega)];exact hm.none b (by omega)
 ·rw[zhG,if_neg (by omega)]
theorem zil(hs:zdw m){C:Cells}:zdw ((m.put m.next (.cells C false 1)).bump 1):=λb o hb=>by
 rw[zhG] at hb;split at hb
 ·cases hb;rfl
 ·exact hs b o hb
theorem zzw(hR:Rel Sig.none ρ m w)(hs:zdw m)(hm:zad m){C:Cells}{k off:Nat}{cs:Array Value}{t:TypeId}{fz:Nat×Nat}(h1:w.heap[k]? =some (.cells cs t fz))(h2:off+C.n<=cs.size)
  (h3:∀i,i<C.n->plain (C.get i)=true∧cs.getD (off+i) undef=C.get i):Rel Sig.none (zyT ρ m.next k off) ((m.put m.next (.cells C false 1)).bump 1) w:=by
 refine⟨λb hb=>?_,λg hg=>?_,λb o x hb hx=>?_,λb1 b2 o1 o2 x1 x2 hne g1 g2 k1 k2 hw=>?_,λb hb=>?_⟩
 ·rw[bN,nP] at hb;unfold zyT;rw[if_neg (by omega)];exact hR.dom b (by omega)
 ·unfold zyT;rw[if_neg (by have:=hm.n64;omega)];exact hR.glob g hg
 ·rw[zhG] at hb;unfold zyT at hx;split at hb
  ·rename_i e;rw[if_pos e] at hx;cases hb;cases hx;refine⟨cs,t,fz,h1,by rw[Cells.list_length];simpa using h2,⟨λe=>(by cases e),λe=>(by cases e)⟩,λi hi=>?_⟩;rw[Cells.list_length] at hi;rw[zhw _ hi,(h3 i hi).2];exact zaF _ (h3 i hi).1
  ·rename_i e;rw[if_neg e] at hx;exact(hR.obj b o x hb hx).keep (znV hR) rfl
 ·rw[zil hs b1 o1 g1] at hw;cases hw
 ·rw[(zv1 hm).fresh.none b hb]
theorem zsp{H:Type}{enc:TypeId×Value->H}{base:Nat}{spare:Nat->Bool}{held:Bool}{t e:TypeId}{sz len cap:Nat}{a:Option Addr}{d:DataW H}{p:List MemPlace}{Q:List Value->Prop}
  (hR:Rel Sig.none ρ m w) (hs:zdw m) (hm:zad m) (ht:P.underlying t=some (.slice e)) (hc:P.cellsOf e=sz) (hsz:0<sz)
  (hQ:∀n l y,DataW.trod enc P w base spare held n e l=some y->Q l∧l.all plain=true)
  (h:DataW.Trod enc P w base spare held t (.slice a len cap) d p) (hn:a=none->len=0∧cap=0) (hle:len<=cap):
  ∃m' ρ' a' C,Rel Sig.none ρ' m' w∧zdw m'∧Ext ρ ρ'∧Nx m m'∧zaq Sig.none ρ' (.slice a' len C) (.slice a len cap)∧∃els:List (List Value),els.length=len∧(∀x∈els,Q x)∧
   (els=[]∨∃b cs,a'=some ⟨b,0,none⟩∧m'.get b=some (.cells cs false 1)∧∀(i:Nat) x,els[i]? =some x->cs.sub (i*sz) sz=some x):=by
 rcases zpc (sz:=sz) ht hc hsz h with rfl|⟨k,off,cs,tt,fz,rfl,h1,h2,h3⟩
 ·cases a with
  |none=>obtain⟨_,rfl⟩:=hn rfl;exact⟨m,ρ,none,0,hR,hs,λ_ _ h=>h,Nx.refl hm, .nilSlice,[],rfl,λx hx=>(by cases hx), .inl rfl⟩
  |some a=>exact⟨m,ρ,some ⟨0,0,some 0⟩,0,hR,hs,λ_ _ h=>h,Nx.refl hm, .lost a cap,[],rfl,λx hx=>(by cases hx), .inl rfl⟩
 ·have hel:∀i,i<len->Q ((List.range sz).map λj=>cs.getD (off+(i*sz+j)) undef)∧((List.range sz).map λj=>cs.getD (off+(i*sz+j)) undef).all plain=true:=λi hi=>by obtain⟨n,y,h4⟩:=h3 i hi;exact hQ n _ y h4
  have hC:∀i,i<len*sz->(ofL ((List.range (len*sz)).map λj=>cs.getD (off+j) undef)).get i=cs.getD (off+i) undef:=λi hi=>by rw[zf7 (by simpa using hi)];simp[gD',hi]
  have hCn:(ofL ((List.range (len*sz)).map λj=>cs.getD (off+j) undef)).n=len*sz:=by rw[zbW,lM,List.length_range]
  refine⟨_,_,some ⟨m.next,0,none⟩,cap,zzw hR hs hm (C:=ofL ((List.range (len*sz)).map λj=>cs.getD (off+j) undef)) h1 (by rw[hCn];exact h2) (λi hi=>?_),zil hs,znV hR,zv1 hm,
   .slice (b':=k) (off:=off) (sl:=0) (by simp[zyT]) (.inl rfl) hle,(List.range len).map λi=>(List.range sz).map λj=>cs.getD (off+(i*sz+j)) undef,by simp,λx hx=>?_, .inr ⟨m.next,_,rfl,by rw[zhG,if_pos rfl],λi x hx=>?_⟩⟩
  ·rw[hCn] at hi;rw[hC i hi];refine⟨?_,rfl⟩;have hi1:i/sz<len:=Nat.div_lt_of_lt_mul (by rw[Nat.mul_comm];exact hi);have hi2:=Nat.mod_lt i hsz;have h5:=List.all_eq_true.1 (hel _ hi1).2 (cs.getD (off+(i/sz*sz+i % sz)) undef) (List.mem_map.2 ⟨i % sz,List.mem_range.2 hi2,rfl⟩);rwa[Nat.div_add_mod'] at h5
  ·obtain⟨i,hi,rfl⟩:=List.mem_map.1 hx;exact(hel i (List.mem_range.1 hi)).1
  ·rw[gM'] at hx;have hi:i<len:=by
    rcases Nat.lt_or_ge i len with h|h
    ·exact h
    ·rw[List.getElem?_eq_none (by simpa using h)] at hx;cases hx
   rw[List.getElem?_range hi] at hx;cases hx;have hle2:i*sz+sz<=len*sz:=by rw[<-Nat.succ_mul];exact Nat.mul_le_mul_right _ hi
   refine zlD (by simp) (by rw[hCn];exact hle2) λj hj=>?_;rw[hC _ (by omega)];simp[gD',hj]
theorem zsi{α β:Type}{f:β->α}:∀{l:List α},(∀x∈l,∃y,x=f y)->∃ys:List β,l=ys.map f
 |[],_=>⟨[],rfl⟩
 |x::l,h=>by obtain⟨y,rfl⟩:=h x (by simp);obtain⟨ys,rfl⟩:=zsi (l:=l) λz hz=>h z (by simp[hz]);exact⟨y::ys,rfl⟩
theorem ztu{f:FuncId}{zcM:List (Nat×List Value)}{m0':Mem}{b:Bool}(h:zc5 Sig.none P f [] (zc1 zcM) (.bool b) m0')(hq:∀q∈zcM,q.1<64∧q.2.all plain=true)
  (hg:∀y o,(zc1 zcM).get y=some o->M.get y=some o):Con P f [] M (.bool b) M:=by
 refine⟨λρ w args' hR ha=>?_,Grow.rfl⟩;have h0:Rel Sig.none ρ0 (zc1 zcM) w:=by
  refine⟨(ziD (σ:=Sig.none) w).dom,(ziD (σ:=Sig.none) w).glob,λb o x hb hx=>?_,λb1 b2 o1 o2 x1 x2 _ h1 _ _ _ hw=>?_,λb hb=>?_⟩
  ·obtain⟨l,hm,rfl⟩:=zdA (zcM:=zcM) hb;obtain⟨q1,q2⟩:=hq _ hm;have hx':ρ0 b=some (b,0,0):=by simp[ρ0,show b<64 from q1]
   rw[hx'] at hx;cases hx;obtain⟨cs,t,fz,e1,e2,e3,e4⟩:=hR.obj b _ (b,0,0) (hg b _ hb) (hR.glob b q1);refine⟨cs,t,fz,e1,e2,e3,λi hi=>?_⟩;have hp:plain ((ofL l).list.getD i undef)=true:=by rw[Cells.ofList_list] at hi⊢;exact zd6 q2 hi
   rw[<-zbG hp (e4 i hi)];exact zaF _ hp
  ·rw[zcS zcM b1 o1 h1] at hw;cases hw
  ·cases hgb:(zc1 zcM).get b with
   |none=>rfl
   |some o=>obtain⟨l,hm,_⟩:=zdA (zcM:=zcM) hgb;have:=(hq _ hm).1;simp[zc1] at hb;omega
 have ha':zat Sig.none ρ0 [] args'.toList:=by have h1:=ha.1;have:args'.toList=[]:=List.eq_nil_of_length_eq_zero h1.symm;rw[this];exact zat.nil _
 refine(h ρ0 w args' h0 ha').mono ?_;rintro e w' ⟨v',ρ',rfl,hv,hP,_⟩;rw[hv.bool_inv];have still:∀k,k<w.heap.size->w'.heap[k]? =w.heap[k]? :=λk hk=>hP.frame k hk λb o x hb hw _=>by rw[zcS zcM b o hb] at hw;cases hw
 refine⟨_,ρ,rfl, .bool _,⟨⟨hR.dom,hR.glob,λb o x hb hx=>(hR.obj b o x hb hx).keep (Ext.refl ρ) (still _ (hR.obj b o x hb hx).lt),hR.inj,hR.fresh⟩,Ext.refl ρ,lR' _,hP.size,hP.os,hP.tape,hP.output,λk hk _=>still k hk,λb o x hb hx _=>⟨b,o,x,hb,hx,rfl,id⟩⟩,λ_ _ h=>h⟩
end
end
end Go.Ab
namespace Go.Ab
open Go.Proofs Go.RowKit Go.ChangeShapes
noncomputable section
set_option maxRecDepth 10000
section
variable{H:Type}{enc:TypeId×Value->H}{P:Program}{W:World}{base:Nat}{spare:Nat->Bool}{held:Bool}{v:Value}{d:DataW H}{p:List MemPlace}{r:Reach}{b0:Nat}{ρ:Rho}{m:Mem}
theorem zj5{t:TypeId}{fs:Array Field}{L:List (TypeId×Nat)}{n:Nat}{cs:List Value}{y:DataW H×List MemPlace}(hu:P.underlying t=some (.struct fs))(hf:fs.toList.map (λf=>(f.type,f.offset))=L)(h:DataW.trod enc P W base spare held n t cs=some y):
  ∃k,cs.length=P.cellsOf t∧∀(i:Nat) ty o,L[i]? =some (ty,o)->∃z,DataW.trod enc P W base spare held k ty ((cs.drop o).take (P.cellsOf ty))=some z:=by
 obtain⟨xs,k,_,_,hlen,hxs,hfs⟩:=DataW.trod_struct hu h;refine⟨k,hlen,λi ty o hi=>?_⟩;rw[<-hf,gM'] at hi;cases hfi:fs.toList[i]? with
 |none=>rw[hfi] at hi;cases hi
 |some f=>
  rw[hfi] at hi;simp only[Option.map_some,sI,pI] at hi;obtain⟨rfl,rfl⟩:=hi;have hlt:i<xs.length:=by have:=(List.getElem?_eq_some_iff.1 hfi).1;simp at this;omega
  have:=hfs i f (by simpa using hfi);rw[gE' hlt] at this;exact⟨_,this⟩
theorem zv3{n:Int}(hw:(Lit.int .u32 n).wf=true):∃a:BitVec 32,(Value.int .u32 n)=Um a:=by
 have h1:0<=n∧n<=4294967295:=by simp[Lit.wf,IntKind.min,IntKind.max,IntKind.signed,IntKind.bits] at hw;omega
 refine⟨BitVec.ofNat 32 n.toNat,?_⟩;rw[Um,BitVec.toNat_ofNat];congr 1;omega
theorem znW{t e:TypeId}{n:Nat}{cs:List Value}{y:DataW H×List MemPlace}(hu:P.underlying t=some (.slice e))(h:DataW.trod enc P W base spare held n t cs=some y):∃a len cap,cs=[.slice a len cap]∧(a=none->len=0∧cap=0)∧len<=cap∧∃d p,DataW.Trod enc P W base spare held t (.slice a len cap) d p:=by
 have h0:=h;rcases DataW.trod_slice hu h with⟨e,_⟩|⟨a,len,cap,_,_,_,_,e,_,_,hle,_⟩
 ·subst e;exact⟨none,0,0,rfl,λ_=>⟨rfl,rfl⟩,lR' _,y.1,y.2,n,h0⟩
 ·subst e;exact⟨some a,len,cap,rfl,λe=>(by cases e),hle,y.1,y.2,n,h0⟩
theorem Q.u3:Tryz.prog.underlying 3=some (.int .i64):=kr
theorem Q.u36:Tryz.prog.underlying 36=some (.int .u32):=kr
theorem Q.u9:Tryz.prog.underlying 9=some .string:=kr
theorem Q.u22:Tryz.prog.underlying 22=some (.slice 36):=kr
theorem Q.u25:Tryz.prog.underlying 25=some (.slice 38):=kr
theorem Q.u24:Tryz.prog.underlying 24=some (.struct (Tryz.prog.fieldsOf 24)):=kr
theorem Q.u38:Tryz.prog.underlying 38=some (.struct (Tryz.prog.fieldsOf 38)):=kr
theorem Q.f24:(Tryz.prog.fieldsOf 24).toList.map (λf=>(f.type,f.offset))=[(3,0),(3,1),(3,2),(3,3),(22,4)]:=kr
theorem Q.f38:(Tryz.prog.fieldsOf 38).toList.map (λf=>(f.type,f.offset))=[(3,0),(3,1),(3,2),(3,3),(3,4),(36,5),(9,6)]:=kr
theorem Q.c:Tryz.prog.cellsOf 3=1∧Tryz.prog.cellsOf 36=1∧Tryz.prog.cellsOf 9=1∧Tryz.prog.cellsOf 22=1∧Tryz.prog.cellsOf 24=5∧Tryz.prog.cellsOf 38=7:=⟨kr,kr,kr,kr,kr,kr⟩
theorem zw5{n:Nat}{l:List Value}{y:DataW H×List MemPlace}(h:DataW.trod enc Tryz.prog W base spare held n 38 l=some y):(∃o:OpR,l=opL o)∧l.all plain=true:=by
 obtain⟨k,hl,hk⟩:=zj5 Q.u38 Q.f38 h;obtain⟨c3,c36,c9,_,_,c38⟩:=Q.c;rw[c38] at hl;obtain⟨z0,h0⟩:=hk 0 3 0 rfl;obtain⟨z1,h1⟩:=hk 1 3 1 rfl;obtain⟨z2,h2⟩:=hk 2 3 2 rfl;obtain⟨z3,h3⟩:=hk 3 3 3 rfl;obtain⟨z4,h4⟩:=hk 4 3 4 rfl;obtain⟨z5,h5⟩:=hk 5 36 5 rfl;obtain⟨z6,h6⟩:=hk 6 9 6 rfl;rw[c3] at h0 h1 h2 h3 h4;rw[c36] at h5;rw[c9] at h6
 match l,hl with
 |[x0,x1,x2,x3,x4,x5,x6],_=>simp only[List.drop_succ_cons,List.drop_zero,List.take_succ_cons,List.take_zero] at h0 h1 h2 h3 h4 h5 h6;obtain⟨n0,e0,_⟩:=DataW.trod_int Q.u3 h0;obtain⟨n1,e1,_⟩:=DataW.trod_int Q.u3 h1;obtain⟨n2,e2,_⟩:=DataW.trod_int Q.u3 h2;obtain⟨n3,e3,_⟩:=DataW.trod_int Q.u3 h3;obtain⟨n4,e4,_⟩:=DataW.trod_int Q.u3 h4;obtain⟨n5,e5,_,w5⟩:=DataW.trod_int Q.u36 h5;obtain⟨s,e6,_⟩:=DataW.trod_string Q.u9 h6;obtain⟨a,ea⟩:=zv3 w5;simp only[List.cons.injEq,and_true] at e0 e1 e2 e3 e4 e5 e6;subst e0 e1 e2 e3 e4 e5 e6;exact⟨⟨⟨n0,n1,n2,n3,n4,a,s⟩,by rw[ea];rfl⟩,rfl⟩
theorem zBX{n:Nat}{l:List Value}{y:DataW H×List MemPlace}(h:DataW.trod enc Tryz.prog W base spare held n 36 l=some y):(∃a:BitVec 32,l=[Um a])∧l.all plain=true:=by obtain⟨n5,e5,_,w5⟩:=DataW.trod_int Q.u36 h;obtain⟨a,ea⟩:=zv3 w5;subst e5;exact⟨⟨a,by rw[ea]⟩,rfl⟩
theorem zqu(hR:Rel Sig.none ρ m W)(hs:zdw m)(hm:zad m)(hval:Value.okWide Tryz.prog W r b0 25 v)(h:DataW.Trod enc Tryz.prog W base spare held 25 v d p):
  ∃m' ρ' w l,Rel Sig.none ρ' m' W∧zdw m'∧Ext ρ ρ'∧Nx m m'∧zaq Sig.none ρ' w v∧zgq m' w l:=by
 obtain⟨a,len,cap,rfl⟩:=WideShapes.okWide_slice Q.u25 hval;obtain⟨n,h⟩:=h;obtain⟨a',len',cap',e,hn,hle,d',p',h'⟩:=znW Q.u25 h;simp only[Value.cells,List.cons.injEq,and_true,Value.slice.injEq] at e;obtain⟨rfl,rfl,rfl⟩:=e;obtain⟨m',ρ',a',C,h1,h2,h3,h4,h5,els,e1,e2,e3⟩:=zsp hR hs hm Q.u25 Q.c.2.2.2.2.2 (by decide) (λn l y=>zw5) h' hn hle;obtain⟨ys,rfl⟩:=zsi e2;rw[lM] at e1;refine⟨m',ρ',_,ys,h1,h2,h3,h4,h5,a',C,by rw[e1],?_⟩;rcases e3 with e3|⟨b,cs,f1,f2,f3⟩
 ·exact .inl (List.map_eq_nil_iff.1 e3)
 ·exact .inr ⟨b,cs,_,_,f1,f2,λi o ho=>f3 i _ (by rw[gM',ho];rfl)⟩
theorem zqb(hR:Rel Sig.none ρ m W)(hs:zdw m)(hm:zad m)(hval:Value.okWide Tryz.prog W r b0 24 v)(h:DataW.Trod enc Tryz.prog W base spare held 24 v d p):
  ∃m' ρ' b pv,Rel Sig.none ρ' m' W∧zdw m'∧Ext ρ ρ'∧Nx m m'∧zaq Sig.none ρ' (.agg (zbE b pv).toArray) v∧zgj m' pv b.prog:=by
 obtain⟨cs,rfl,hsz⟩:=WideShapes.okWide_struct Q.u24 hval;obtain⟨n,h⟩:=h;obtain⟨k,hl,hk⟩:=zj5 Q.u24 Q.f24 h;obtain⟨c3,_,_,c22,c24,_⟩:=Q.c;rw[c24] at hl;obtain⟨z0,h0⟩:=hk 0 3 0 rfl;obtain⟨z1,h1⟩:=hk 1 3 1 rfl;obtain⟨z2,h2⟩:=hk 2 3 2 rfl;obtain⟨z3,h3⟩:=hk 3 3 3 rfl;obtain⟨z4,h4⟩:=hk 4 22 4 rfl;rw[c3] at h0 h1 h2 h3;rw[c22] at h4;rw[show(Value.agg cs).cells=cs from rfl] at hl h0 h1 h2 h3 h4;obtain⟨l⟩:=cs;simp only at hl h0 h1 h2 h3 h4
 match l,hl with
 |[x0,x1,x2,x3,x4],_=>
  simp only[List.drop_succ_cons,List.drop_zero,List.take_succ_cons,List.take_zero] at h0 h1 h2 h3 h4;obtain⟨n0,e0,_⟩:=DataW.trod_int Q.u3 h0;obtain⟨n1,e1,_⟩:=DataW.trod_int Q.u3 h1;obtain⟨n2,e2,_⟩:=DataW.trod_int Q.u3 h2;obtain⟨n3,e3,_⟩:=DataW.trod_int Q.u3 h3;obtain⟨a,len,cap,e4,hn,hle,d',p',h'⟩:=znW Q.u22 h4;simp only[List.cons.injEq,and_true] at e0 e1 e2 e3 e4;subst e0 e1 e2 e3 e4;obtain⟨m',ρ',a',C,g1,g2,g3,g4,g5,els,e1,e2,e3⟩:=zsp hR hs hm Q.u22 Q.c.2.1 (by decide) (λn l y=>zBX) h' hn hle;obtain⟨ys,rfl⟩:=zsi e2;rw[lM] at e1;refine⟨m',ρ',⟨n0,n1,n2,n3,ys⟩, .slice a' len C,g1,g2,g3,g4,zat.agg (zat.cons (.int _ _) (zat.cons (.int _ _) (zat.cons (.int _ _) (zat.cons (.int _ _) (zat.cons g5 (zat.nil _)))))),a',C,by rw[e1],?_⟩;rcases e3 with e3|⟨b,cs,f1,f2,f3⟩
  ·exact .inl (List.map_eq_nil_iff.1 e3)
  ·refine .inr ⟨b,cs,_,_,f1,f2,λi o ho=>?_⟩;have:=f3 i _ (by rw[gM',ho];rfl);have:=zcw this (k:=0) (by decide);simpa using this
theorem zqx{t:TypeId}(hr:Tryz.prog.readableRec t=true)(ht:t<Tryz.prog.types.size){W W':World}(h:DataW.Trod enc Tryz.prog W 0 (λ_=>true) true t v d p)(hb:Below W.heap.size W W'):
  DataW.Trod enc Tryz.prog W' 0 (λb=>decide (b<W.heap.size)) true t v d p:=
 Below.trod kr hr ht h hb (λx hx=>by obtain⟨n,h⟩:=h;exact DataW.trod_lt n _ _ _ h x hx)
end
end
end Go.Ab
