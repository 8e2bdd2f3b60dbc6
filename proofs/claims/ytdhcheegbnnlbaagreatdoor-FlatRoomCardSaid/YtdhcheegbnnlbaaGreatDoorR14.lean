/- Part. -/
import Derived.Test.YtdhcheegbnnlbaaGreatDoorR13
set_option linter.all false
open Go.Ab.Mem renaming next_bump → bN, next_put → nP, get_bump → gB, get_put → gP
open Nat renaming le_of_ble_eq_true → bA, le_add_right_of_le → lA, lt_of_lt_of_le → lL, le_refl → lR', le_trans → lT
open List renaming getD_eq_getElem?_getD → gD', getElem?_eq_getElem → gE', length_append → aL, append_assoc → aA, getElem?_append_left → aB', getElem?_append_right → aC', getElem?_map → gM', length_map → lM, length_set → sL
open Go.Ab.CallI renaming ex2 → cX, con0 → cZ
open Go.Ab.TidyE renaming pure → tP
open Go.Ab.Cells renaming ofList → ofL
open Go.Ab.Be renaming trans → bE
open Nat renaming reduceLT → yA, reduceEqDiff → yB, reduceAdd → yC, reduceMul → yD, reduceSub → yE, reducePow → yF, reduceLeDiff → yG
open Int renaming reduceEq → yH, reduceLT → yI, reduceLE → yJ
namespace Go.Ab
open Go.Proofs
noncomputable section
set_option maxHeartbeats 4000000
set_option maxRecDepth 10000
section
variable{m m' M mr:Mem}{n:Nat}{L L' L1 L2:Loc}{X X' X1 X2 Y W:St}{v:Value}{fl:List Value}{pid:Int}
def addF(Y:St)(i k q:Nat)(w:Bool):St:={Y with F:=Y.F++ [⟨q,w,1⟩],P:=Y.P.set i {Y.p i with fds:=(Y.p i).fds.set k (some Y.F.length)}}
theorem GX.addF(h:GX Y){i k q:Nat}{w:Bool}(hi:i<Y.P.length)(hq:q<Y.I.length):GX (addF Y i k q w):=by have h1:=h.add_x (r:=⟨q,w,1⟩) hq;exact h1.set_p (r:={Y.p i with fds:=(Y.p i).fds.set k (some Y.F.length)}) ((h1.px hi).s_fds (r:=Y.p i) λg e=>by cases e;simp)
theorem FAt.addF(h:FAt m L Y)(hg:GX Y){i k q b qb pb:Nat}{w:Bool}(hi:i<Y.P.length)(hk:k<8)(hq:q<Y.I.length)(hb:¬L.D b)(hlt:b<m.next)(h64:64<=b)(eq:L.i q=qb)(ep:L.p i=pb){cp:Cells}(hp:m.get pb=some (.cells cp true 0)):
  FAt ((m.put b (.cells (ofL [PT qb, .bool w,In 1]) true 0)).put pb (.cells (cp.write (52+k) [PT b]) true 0)) {L with F:=L.F++ [b],D:=λy=>L.D y∨y=b} (Go.Ab.addF Y i k q w):=by
 subst eq ep;have h1:=h.add_x hg (r:=⟨q,w,1⟩) (cs:=ofL [PT (L.i q), .bool w,In 1]) hb hlt h64 ⟨rfl,rfl,rfl,rfl⟩ hq;obtain⟨c',p1,p2⟩:=h1.pr i hi;have nb:¬b=L.p i:=λe=>hb (by rw[e];exact h.dm _ (h.mp hi));have e:c'=cp:=by rw[gP,if_neg (λe=>nb e.symm)] at p1;have p1':m.get (L.p i)=some (.cells c' true 0):=p1;rw[hp] at p1';cases p1';rfl
 subst e;have h2:=p2.s_fds (k:=k) hk (x:=some Y.F.length);have e2:pV ((some Y.F.length).map ({L with F:=L.F++ [b],D:=λy=>L.D y∨y=b}:Loc).x)=PT b:=by show PT ((L.F++ [b]).getD Y.F.length 0)=_;rw[<-h.lF,zaA]
 rw[e2] at h2;exact h1.put_p hi h2
def zdj(W:St):St:={W with pipes:=IntKind.i64.wrap (W.pipes+1),files:=IntKind.i64.wrap (W.files+2),I:=W.I++ [⟨[],1,1⟩]}
def pipeA(W:St)(i a0 a1:Nat):St:=addF (addF (zdj W) i a0 W.I.length false) i a1 W.I.length true
theorem GX.pipe0(h:GX W):GX (zdj W):=((h.add_i (r:=⟨[],1,1⟩) (show((0:Nat):Int)<=W.cap by have:=h.cp;omega)).set_pipes).set_files
theorem Sh.pipeA(h:GX W){i a0 a1:Nat}(hi:i<W.P.length):Sh 0 W (pipeA W i a0 a1):=by have g0:=h.pipe0;have g1:=g0.addF (i:=i) (k:=a0) (q:=W.I.length) (w:=false) (show i<W.P.length from hi) (by simp[zdj]);have g2:=g1.addF (i:=i) (k:=a1) (q:=W.I.length) (w:=true) (by simp only[addF,sL];exact hi) (by simp[addF,zdj]);exact⟨by simp[Go.Ab.pipeA,addF,zdj],by simp[Go.Ab.pipeA,addF,zdj],by simp[Go.Ab.pipeA,addF,zdj],lR' _,lR' _,lR' _,lR' _,g2⟩
def zlO(Z:St×Int)(i a0 a1:Nat):St:=if Z.2=0 then zar (pipeA Z.1 i a0 a1) i 0#32 else zaZ Z.1 i Z.2
def zf4(F:List Nat):List (BitVec 8):=[BitVec.ofNat 32 (F.getD 0 0),BitVec.ofNat 32 (F.getD 1 0)].flatMap zb4
def zkC(X:St)(i:Nat)(a:BitVec 32)(F:List Nat):St:=if F.length<2 then zaZ X i 24 else if 62<X.files∨X.pipes=16 then zaZ X i 23 else zlO (zau X i a (zf4 F)) i (F.getD 0 0) (F.getD 1 0)
theorem ztx:zaT EE.P 297 [(1, .int .i64 1),(2, .int .i64 1)]=some (.agg [.slice none 0 0, .int .i64 1, .int .i64 1].toArray):=kr
theorem zsI{b:Nat}:zaT EE.P 294 [(0,PT b),(2, .int .i64 1)]=some (.agg [PT b, .bool false, .int .i64 1].toArray):=kr
theorem zrY{b:Nat}:zaT EE.P 294 [(0,PT b),(1, .bool true),(2, .int .i64 1)]=some (.agg [PT b, .bool true, .int .i64 1].toArray):=kr
theorem zyP(h:FAt m L X)(hm:zad m)(ht:Tb m)(hg:GX X){i:Nat}(hi:i<X.P.length)(hs:X.seen.length<99990){a:BitVec 32}{F:List Nat}(hv:SlV m 1 v F.length (nl F))(hvD:∀y,slB v=some y->¬L.D y)(hF:∀k∈F,k<8)(hF8:F.length<=8):∃u m',Con EE.P 179 [PT (L.p i),Um a,v] m u m'∧Be m L (zkC X i a F) m':=by
 refine Con.raw zai zGg (bA rfl) _ ?_;obtain⟨cs,h1,h2⟩:=h.pr i hi;obtain⟨cf,f1,f2⟩:=h.fl;have hlenA:∀M,lenA EE.P 41 v M=some (In F.length):=λM=>hv.lenA zdN;have hB:∀K (c:Int),∃u m',Con EE.P 87 [PT (L.p i),In c] (m.bump K) u m'∧Be (m.bump K) L (zaZ X i c) m':=λK c=>za1 (h.bump _) hm.bump (ht.bump _) hi (Nat.lt_trans hs (by decide));unfold zkC;by_cases hc:F.length<2
 ·have d1:=decide_eq_true (show(F.length:Int)<2 by omega);rw[if_pos hc];simp only[XX,XY,zzy,yA,yB,yC,h1,h2.f,hlenA,d1];refine cX (hB _ _) λu M hB'=>?_;have hB2:=hB'.of_bump;have nx:=hB2.next;simp only[XX,yA];exact hB2.raw
 have d1:=decide_eq_false (show¬(F.length:Int)<2 by omega);rw[if_neg hc];by_cases hc2:62<X.files∨X.pipes=16
 ·rw[if_pos hc2];cases d2:decide (62<X.files) with
  |true=>simp only[XX,XY,zzy,yA,yB,yC,h1,h2.f,f1,f2.files,hlenA,d1,d2];refine cX (hB _ _) λu M hB'=>?_;have hB2:=hB'.of_bump;have nx:=hB2.next;simp only[XX,yA];exact hB2.raw
  |false=>have d3:=decide_eq_true (show X.pipes=16 from hc2.elim (λe=>absurd e (of_decide_eq_false d2)) _root_.id);simp only[XX,XY,zzy,yA,yB,yC,h1,h2.f,f1,f2.files,f2.pipes,hlenA,d1,d2,d3];refine cX (hB _ _) λu M hB'=>?_;have hB2:=hB'.of_bump;have nx:=hB2.next;simp only[XX,yA];exact hB2.raw
 rw[if_neg hc2];have d2:=decide_eq_false (show¬62<X.files from λe=>hc2 (.inl e));have d3:=decide_eq_false (show¬X.pipes=16 from λe=>hc2 (.inr e));obtain⟨b,c,cv,rfl,k1,k2,k3,k4⟩:=hv.cons (by omega);obtain⟨F0,e0⟩:∃x,x=F.getD 0 0:=⟨_,rfl⟩;obtain⟨F1,e1⟩:∃x,x=F.getD 1 0:=⟨_,rfl⟩;have hgd:∀k,k<F.length->(nl F).getD k undef=In (F.getD k 0)∧F.getD k 0<8:=λk hk=>by rw[gD',gM',gD',gE' hk];exact⟨rfl,hF _ (List.getElem_mem hk)⟩
 have hnl:(nl F).length=F.length:=by simp
 have q0:cv.nth 0=some (In F0):=by rw[zbV (by omega),k4 0 (by omega),(hgd 0 (by omega)).1,e0]
 have q1:cv.nth 1=some (In F1):=by rw[zbV (by omega),k4 1 (by omega),(hgd 1 (by omega)).1,e1]
 have hF0:F0<8:=by rw[e0];exact(hgd 0 (by omega)).2
 have hF1:F1<8:=by rw[e1];exact(hgd 1 (by omega)).2
 rw[<-e0,<-e1];have g0:(0:Int)<(F.length:Int):=by omega
 have g1:(1:Int)<(F.length:Int):=by omega
 have cv0:=zcz (m:=m) (k:=F0) (by omega);have cv1:=zcz (m:=m) (k:=F1) (by omega);have bs22_2:∀x y:BitVec 32,bsV EE.P 22 2 [(0,Um x),(1,Um y)]=some ([Um x,Um y],1):=λ_ _=>by kernel_rfl
 have hbl:=hm.lt k1;have t0:Int.toNat 0=0:=rfl;have t1:Int.toNat 1=1:=rfl;have hbD:¬L.D b:=hvD b rfl;simp only[XX,XY,zzy,yA,yB,yC,yJ,h1,h2.f,f1,f2.files,f2.pipes,hlenA,d1,d2,d3,k1,q0,q1,g0,g1,t0,t1,bs22_2,zdf,BitVec.ofInt_natCast];have hN1:∀(M:Mem) (hm:zad M) (o:zaS),Nx M ((M.put (M.next+32) o).bump 36):=λM hm o=>⟨by(try simp only[bN,nP]);omega,zad.of_low (by have:=hm.n64;(try simp only[bN,nP]);omega) (by repeat(first|exact Low.of hm nO|refine Low.put ?_ nO|refine Low.bump ?_)),λy hy=>by simp only[gB,gP,zbL hy,if_false]⟩;refine cX (zje (hN1 m hm _).fresh (ws:=[BitVec.ofNat 32 F0,BitVec.ofNat 32 F1]) (SlV.one rfl) (by decide)) λu1 M1 hW1=>?_;have hN01:=(hN1 m hm _).trans hW1.nx;have nx1:=hN01.next;have hsl:=hW1.sl;have hwl:[BitVec.ofNat 32 F0,BitVec.ofNat 32 F1].flatMap zb4=zf4 F:=by unfold zf4;rw[e0,e1]
 rw[hwl] at hsl;have hwlen:(zf4 F).length=8:=by simp[zf4,zb4]
 have k1':=hN01.keep hm k1;have h1':=hN01.keep hm h1;have nbk:∀k,¬b=m.next+k:=λk=>by omega
 simp only[XX,XY,zzy,yA,yB];refine CallI.ex2L (zfB (h.nx hN01) hN01.fresh hg hi (a:=a) (l:=zf4 F) (by rw[hwlen];exact hsl) (by rw[hwlen];decide)) (by simp) λu2 M2 hW2=>?_;obtain⟨rfl,hB2⟩:=hW2;have hBW:Be m L (zau X i a (zf4 F)).1 M2:=bE Lx.refl (Fd.of_nx hN01) hB2;have hSW:=Sh.write (a:=a) (l:=zf4 F) hg hi;generalize zau X i a (zf4 F)=Wt at hBW hSW⊢;obtain⟨W,wr⟩:=Wt;have hBW0:=hBW;obtain⟨Lw,aw,xw,fw⟩:=hBW;have SW:Sh 0 X W:=hSW;have hFw:zad M2:=hBW0.fresh;have htw:Tb M2:=hBW0.tb h hm ht;have nw:m.next<=M2.next:=fw.next;have hiw:i<W.P.length:=lL hi SW.P;have eiw:Lw.p i=L.p i:=xw.p (by rw[h.lP];exact hi);have efw:Lw.f=L.f:=xw.f;by_cases hwr:wr=0
 ·subst hwr;have e:zlO (W,0) i F0 F1=zar (pipeA W i F0 F1) i 0#32:=by unfold zlO;rw[if_pos rfl]
  rw[e];have kb:M2.get b=some (.cells cv true 1):=(fw.old b hbl hbD).trans k1;obtain⟨cp,p1,p2⟩:=aw.pr _ hiw;obtain⟨cfw,w1,w2⟩:=aw.fl;rw[eiw] at p1;rw[efw] at w1;have k12:9+1<=cfw.n:=by rw[w2.n];decide
  have k13:8+1<=cfw.n:=by rw[w2.n];decide
  have lf2:L.f<M2.next:=by have:=aw.ids_lt aw.mf;omega
  have lp2:L.p i<M2.next:=by have:=aw.ids_lt (aw.mp hiw);omega
  have nfk:∀k,¬L.f=M2.next+k:=λk=>by omega
  have npk:∀k,¬L.p i=M2.next+k:=λk=>by omega
  have nbk2:∀k,¬b=M2.next+k:=λk=>by omega
  have nbf:¬b=L.f:=λe=>hbD (by rw[e];exact h.dm _ h.mf);have nbp:¬b=L.p i:=λe=>hbD (by rw[e];exact h.dm _ (h.mp hi));have npf:¬L.p i=L.f:=λe=>h.f_p hi e.symm;have wf8:=(w2.w_pipes (x:=IntKind.i64.wrap (W.pipes+1))).files;have gf0:(0:Int)<=(F0:Int):=by omega
  have gf1:(F0:Int)<((8:Nat):Int):=by omega
  have gf2:(0:Int)<=(F1:Int):=by omega
  have gf3:(F1:Int)<((8:Nat):Int):=by omega
  have p6:52+(F0+1)<=cp.n:=by rw[p2.n];omega
  have p7:52+(F1+1)<=cp.n:=by rw[p2.n];omega
  simp only[XX,XY,zzy,yA,yB,yC,yJ,nw,p1,w1,w2.pipes,wf8,p6,p7,gf0,gf1,gf2,gf3,ztx,zsI,zrY,k12,k13,nfk,npk,nbk2,nbf,npf,kb,q0,q1,g0,g1,t0,t1,lA];have SA:=Sh.pipeA SW.gx hiw (a0:=F0) (a1:=F1);have h64:=hFw.n64;refine CallI.gen (λM=>∃L1,FAt M L1 (pipeA W i F0 F1)∧Lx M2.next Lw L1∧Fd Lw.D M2 M) ?_ λM3 hM3=>?_
  ·have nD:∀k,¬Lw.D (M2.next+k):=λk e=>by have:=aw.lt _ e;omega
   have A1:=(aw.bump 45).add_i SW.gx (b:=M2.next+3) (v:= .slice none 0 0) (r:=⟨[],1,1⟩) (cs:=ofL [.slice none 0 0,In 1,In 1]) (nD 3) nO (by omega) ⟨rfl,rfl,rfl,rfl⟩ SlV.nil (λy e=>by cases e);have A2:=A1.s_pipes (cf:=cfw) (x:=IntKind.i64.wrap (W.pipes+1)) (by show(Mem.put _ _ _).get Lw.f=_;rw[efw,gP,if_neg (nfk 3)];exact w1);have A3:=A2.s_files (cf:=cfw.write 9 [In (IntKind.i64.wrap (W.pipes+1))]) (x:=IntKind.i64.wrap (W.files+2)) (by show(Mem.put _ _ _).get Lw.f=_;rw[gP,if_pos rfl]);have g0:GX (zdj W):=SW.gx.pipe0;have A3':FAt _ _ (zdj W):=A3;have eI:(Lw.I++ [M2.next+3]).getD W.I.length 0=M2.next+3:=by rw[<-aw.lI,zaA]
   have A5:=A3'.addF g0 (i:=i) (k:=F0) (q:=W.I.length) (b:=M2.next+31) (w:=false) (cp:=cp) hiw hF0 (by simp[zdj]) (λe=>e.elim (nD 31) λe=>by omega) nO (by omega) eI eiw (by show(Mem.put (Mem.put (Mem.put _ _ _) Lw.f _) Lw.f _).get (L.p i)=_;rw[efw,gP,if_neg npf,gP,if_neg npf,gP,if_neg (npk 3)];exact p1);have g1:=g0.addF (i:=i) (k:=F0) (q:=W.I.length) (w:=false) hiw (by simp[zdj]);have A7:=A5.addF g1 (i:=i) (k:=F1) (q:=W.I.length) (b:=M2.next+34) (w:=true) (cp:=cp.write (52+F0) [PT (M2.next+31)]) (by simpa [addF,zdj] using hiw) hF1 (by simp[addF,zdj]) (λe=>e.elim (λe=>e.elim (nD 34) λe=>by omega) λe=>by omega) nO (by omega) eI eiw (by show(Mem.put _ (L.p i) _).get (L.p i)=_;rw[gP,if_pos rfl]);have hF1':=(((((((Fd.refl hFw (D:=Lw.D)).bump 45).putN (b:=M2.next+3) (o:= .cells (ofL [.slice none 0 0,In 1,In 1]) true 0) (by omega) nO).putO (b:=L.f) (o:= .cells (cfw.write 9 [In (IntKind.i64.wrap (W.pipes+1))]) true 0) (by rw[<-efw];exact aw.dm _ aw.mf) lf2 (by rw[w1];simp)).putO (b:=L.f) (o:= .cells ((cfw.write 9 [In (IntKind.i64.wrap (W.pipes+1))]).write 8 [In (IntKind.i64.wrap (W.files+2))]) true 0) (by rw[<-efw];exact aw.dm _ aw.mf) lf2 (by rw[w1];simp)).putN (b:=M2.next+31) (o:= .cells (ofL [PT (M2.next+3), .bool false,In 1]) true 0) (by omega) nO).putO (b:=L.p i) (o:= .cells (cp.write (52+F0) [PT (M2.next+31)]) true 0) (by rw[<-eiw];exact aw.dm _ (aw.mp hiw)) lp2 (by rw[p1];simp));have hF2':=(hF1'.putN (b:=M2.next+34) (o:= .cells (ofL [PT (M2.next+3), .bool true,In 1]) true 0) (by omega) nO).putO (b:=L.p i) (o:= .cells ((cp.write (52+F0) [PT (M2.next+31)]).write (52+F1) [PT (M2.next+34)]) true 0) (by rw[<-eiw];exact aw.dm _ (aw.mp hiw)) lp2 (by rw[p1];simp);refine⟨{Lw with I:=Lw.I++ [M2.next+3],bv:=Lw.bv++ [.slice none 0 0],F:=(Lw.F++ [M2.next+31])++ [M2.next+34],D:=λy=>((Lw.D y∨y=M2.next+3)∨y=M2.next+31)∨y=M2.next+34},?_,⟨rfl,⟨[],by simp⟩,⟨[],by simp⟩,⟨[],by simp⟩,⟨[M2.next+3],rfl⟩,⟨[M2.next+31,M2.next+34],by simp⟩,λy hy=>?_⟩,?_⟩
   ·simp only[zbp] at A7;rw[<-efw];exact A7
   ·rcases hy with((hy|hy)|hy)|hy
    ·exact .inl hy
    ·exact .inr (by omega)
    ·exact .inr (by omega)
    ·exact .inr (by omega)
   ·simp only[zbp] at hF2';exact hF2'
  ·obtain⟨L1,a1,x1,f1'⟩:=hM3;have e1i:L1.p i=L.p i:=(x1.p (by rw[aw.lP];exact hiw)).trans eiw;have n3:m.next<=M3.next:=by have:=f1'.next;omega
   refine cX (by rw[<-e1i];exact zaL (v:=0#32) a1 f1'.fresh (htw.fd f1' hFw aw.d64) (lL hiw SA.P) (by have:=SA.sn;have:W.seen.length<=X.seen.length+0:=SW.sn;omega)) λu M9 hB9=>?_;have n9:=hB9.next;have n10:m.next<=M9.next:=by omega
   simp only[XX,yA];exact(bE xw fw (bE x1 f1' hB9)).raw
 ·have d4:=decide_eq_false hwr;have e:zlO (W,wr) i F0 F1=zaZ W i wr:=by unfold zlO;rw[if_neg hwr]
  rw[e];simp only[XX,XY,zzy,yA,yB,yC,nw,d4,lA];refine cX (by rw[<-eiw];exact za1 (aw.bump _) hFw.bump (htw.bump _) hiw (show W.seen.length<100000 by have:=SW.sn;omega)) λu M9 hB9=>?_;have hB9:=hB9.of_bump;have n9:=hB9.next;have n10:m.next<=M9.next:=by omega
  simp only[XX,yA];exact(bE xw fw hB9).raw
end
section
variable{E:Env}{base i:Nat}{rest:List (Nat×SOp)}{L:List zb8}{t:List Value}{m:Mem}{K:KI}{ty rt:TypeId}{d:Tmp}{P:Program}
def zAk(P:Program)(v w:Value):Option Value:=if plain v&&plain w then zcm P (Builtin.min_ #[] 0 #[v,w]) else none
theorem zwM{k k':IntKind}{x y:Int}:zAk P (.int k x) (.int k' y)=some (.int k (if y<x then y else x)):=rfl
theorem zn0 [zaM E]{x y:Operand}{ts:Array TypeId}:XWi E base ((i,⟨some d, .call ⟨.builtin .min,#[x,y],ts⟩,rt,none⟩)::rest) L t m (Q:=K)=okI (zAk E.P (ev x t) (ev y t)) (k:=⟨λv=>XWi E base rest L (t.set d v) m (Q:=K)⟩):=by
 refine propext ?_;unfold XWi okI;rw[zbg rfl rfl,zaD zaM.h];have e:za9 E.P ⟨some d, .call ⟨.builtin .min,#[x,y],ts⟩,rt,none⟩ (ev · t)=zAk E.P (ev x t) (ev y t):=by
  have h1:(#[x,y].map λx=>ev x t)= #[ev x t,ev y t]:=by simp
  simp only[za9,h1];unfold zAk;simp only[List.all_cons,List.all_nil,Bool.and_true];rfl
 rw[e];exact Iff.rfl
end
section
variable{m m' M mr:Mem}{n:Nat}{L L' L1 L2:Loc}{X X' X1 X2 Y W:St}{v:Value}{fl:List Value}{pid:Int}
theorem zwc{P:Program}{a b:Nat}:zAk P (In (a:Int)) (In (b:Int))=some (In ((min a b:Nat):Int)):=by rw[zwM];congr 2;split<;>omega
theorem zvA(h:SlV m 1 v n fl){k:Nat}(hk:k<=n):∃w,zb5 EE.P 127 v none (some (In (k:Int)))=some w∧SlV m 1 w k (fl.take k)∧(∀M,lenA EE.P 127 w M=some (In (k:Int))):=by
 rcases h.2 with⟨rfl,rfl⟩|⟨b,c,cs,rfl,k1,k2,k3,k4⟩
 ·obtain rfl:k=0:=by omega
  exact⟨.slice none 0 0,kr,by rw[List.take_zero];exact SlV.nil,λM=>(SlV.nil (M:=m) (sz:=1)).lenA zbf⟩
 ·have hl:=h.1;have hs:SlV m 1 (.slice (some ⟨b,0,none⟩) k c) k (fl.take k):=⟨by rw[List.length_take];omega, .inr ⟨b,c,cs,rfl,k1,k2,by omega,λx hx=>by rw[List.length_take] at hx;rw[k4 x (by omega),gD',gD',List.getElem?_take_of_lt (by omega)]⟩⟩;exact⟨.slice (some ⟨b,0,none⟩) k c,by rw[zjs zbf zpH (by omega) (by rw[Int.toNat_natCast];omega),Int.toNat_natCast],hs,λM=>hs.lenA zbf⟩
theorem FAt.be_p2(h:FAt m L X)(hm:zad m){i:Nat}(hi:i<X.P.length){o:zaS}{cs:Cells}{r:zb9}(hr:PC L r cs):Be m L {X with P:=X.P.set i r} ((m.put (L.p i) o).put (L.p i) (.cells cs true 0)):=
 ⟨L,h.upd_p hi hr (lR' _) (by rw[gP,if_pos rfl]) (λy _ hy=>by rw[gP,if_neg hy,gP,if_neg hy]),Lx.refl,(((Pu.refl hm (j:=0)).own h (h.mp hi)).own h (h.mp hi)).fd hm (Nat.zero_le 0)⟩
def rdK(X:St)(q:Nat)(n:BitVec 32):Nat:=min (X.i q).b.length n.toNat
def zld(W:St)(q k:Nat):St:=if 0<k then zcx {W with I:=W.I.set q {W.i q with b:=(W.i q).b.drop k}} 3 q else W
def zlS(Z:St×Int)(i q k:Nat):St:=if Z.2=0 then zar (zld Z.1 q k) i (BitVec.ofNat 32 k) else zaZ Z.1 i Z.2
def zgl(X:St)(i q:Nat)(a n:BitVec 32):St:=if 4096<n.toNat then zaZ X i 22 else
 if 0<n.toNat∧(X.i q).b.length=0∧0<(X.i q).writers then{X with P:=X.P.set i {X.p i with wait:=2,pipe:=some q}} else
 zlS (zau X i a ((X.i q).b.take (rdK X q n))) i q (rdK X q n)
theorem zm2{i:Nat}{a:BitVec 32}{l:List (BitVec 8)}:(zau X i a l).1.I=X.I:=by
 unfold zau;split
 ·rfl
 ·split
  ·rfl
  ·exact zeq.2.2.2.2.1
theorem zt5(h:FAt m L X)(hm:zad m)(ht:Tb m)(hg:GX X){i q:Nat}(hi:i<X.P.length)(hq:q<X.I.length)(hs:X.seen.length<99990)(hf:X.fut.length<99990){a n:BitVec 32}:∃u m',Con EE.P 180 [PT (L.p i),PT (L.i q),Um a,Um n] m u m'∧Be m L (zgl X i q a n) m':=by
 refine Con.raw zai zES (bA rfl) _ ?_;obtain⟨cs,h1,h2⟩:=h.pr i hi;obtain⟨ci,i1,i2⟩:=h.ip q hq;have hbs:=h.bs q hq;have hcap:=hg.ib q hq;have hcp:=hg.cp;have hbl:(X.i q).b.length<=64:=by omega
 have hlenB:∀M,lenA EE.P 127 (L.b q) M=some (In (X.i q).b.length):=λM=>hbs.lenA zbf;have hB:∀K (c:Int),∃u m',Con EE.P 87 [PT (L.p i),In c] (m.bump K) u m'∧Be (m.bump K) L (zaZ X i c) m':=λK c=>za1 (h.bump _) hm.bump (ht.bump _) hi (Nat.lt_trans hs (by decide));unfold zgl;by_cases hc:4096<n.toNat
 ·have d1:=decide_eq_true (show(4096:Int)<(n.toNat:Int) by omega);rw[if_pos hc];simp only[XX,XY,zwI,yA,yB,yC,d1];refine cX (hB _ _) λu M hB'=>?_;have hB2:=hB'.of_bump;have nx:=hB2.next;simp only[XX,yA];exact hB2.raw
 have d0:=decide_eq_false (show¬(4096:Int)<(n.toNat:Int) by omega);rw[if_neg hc];by_cases hc2:0<n.toNat∧(X.i q).b.length=0∧0<(X.i q).writers
 ·have d1:=decide_eq_true (show(0:Int)<(n.toNat:Int) by omega);have d2:=decide_eq_true (show((X.i q).b.length:Int)=0 by omega);have d3:=decide_eq_true hc2.2.2;rw[if_pos hc2];have hp:=(h2.w_wait (x:=2)).w_pipe (x:=some q);have k1:46+1<=cs.n:=by rw[h2.n];decide
  have k2:47+1<=cs.n:=by rw[h2.n];decide
  simp only[XX,XY,zwI,yA,yB,yC,d0,d1,d2,d3,h1,i1,i2.bv,i2.writers,hlenB,k1,k2];exact((h.be_p2 hm hi hp).bump _).raw
 rw[if_neg hc2];obtain⟨k,hk⟩:∃k,k=rdK X q n:=⟨_,rfl⟩;rw[<-hk];have hkl:k<=(X.i q).b.length:=by rw[hk];exact Nat.min_le_left _ _
 obtain⟨w,sw1,sw2,sw3⟩:=zvA hbs hkl;have hmin:=zwc (P:=EE.P) (a:=(X.i q).b.length) (b:=n.toNat);rw[show min (X.i q).b.length n.toNat=k from hk.symm] at hmin;have hcase:(decide ((0:Int)<(n.toNat:Int))=false∧True∧True)∨(decide ((0:Int)<(n.toNat:Int))=true∧decide (((X.i q).b.length:Int)=0)=false∧True)∨(decide ((0:Int)<(n.toNat:Int))=true∧decide (((X.i q).b.length:Int)=0)=true∧decide (0<(X.i q).writers)=false):=by
  by_cases c1:0<n.toNat
  ·by_cases c2:(X.i q).b.length=0
   ·exact .inr (.inr ⟨decide_eq_true (by omega),decide_eq_true (by omega),decide_eq_false λe=>hc2 ⟨c1,c2,e⟩⟩)
   ·exact .inr (.inl ⟨decide_eq_true (by omega),decide_eq_false (by omega),trivial⟩)
  ·exact .inl ⟨decide_eq_false (by omega),trivial,trivial⟩
 have hl:((X.i q).b.take k).length=k:=by rw[List.length_take];omega
 have hw:SlV m 1 w ((X.i q).b.take k).length (((X.i q).b.take k).map By):=by rw[hl,List.map_take];exact sw2
 have cvk:∀M,zbU EE.P 3 36 (In (k:Int)) M=some (Um (BitVec.ofNat 32 k)):=λM=>zcz (by omega);rcases hcase with⟨d1,d2,d3⟩|⟨d1,d2,d3⟩|⟨d1,d2,d3⟩
 all_goals
  simp only[XX,XY,zwI,yA,yB,yC,d0,d1,d2,d3,i1,i2.bv,i2.writers,hlenB,zn0,zdr,hmin,sw1];refine CallI.ex2L (zfB (h.bump _) hm.bump hg hi (a:=a) (l:=(X.i q).b.take k) (hw.bump _) (by rw[hl];omega)) (by simp) λu2 M2 hW2=>?_;obtain⟨rfl,hB2⟩:=hW2;have hBW0:=hB2.of_bump;have hSW:=Sh.write (a:=a) (l:=(X.i q).b.take k) hg hi;have hWI:(zau X i a ((X.i q).b.take k)).1.I=X.I:=zm2;generalize zau X i a ((X.i q).b.take k)=Wt at hBW0 hSW hWI⊢;obtain⟨W,wr⟩:=Wt;have SW:Sh 0 X W:=hSW;have hWI:W.I=X.I:=hWI;obtain⟨Lw,aw,xw,fw⟩:=id hBW0;have hFw:zad M2:=hBW0.fresh;have htw:Tb M2:=hBW0.tb h hm ht;have nw:m.next<=M2.next:=fw.next;have hiw:i<W.P.length:=lL hi SW.P;have hqw:q<W.I.length:=by rw[hWI];exact hq
  have eiw:Lw.p i=L.p i:=xw.p (by rw[h.lP];exact hi);have eqw:Lw.i q=L.i q:=xw.i (by rw[h.lI];exact hq);have efw:Lw.f=L.f:=xw.f;have eWq:W.i q=X.i q:=by show W.I.getD q pipe0=_;rw[hWI]
  have sW:W.seen.length<=X.seen.length+0:=SW.sn;have fW:W.fut.length<=X.fut.length+0:=SW.fut;by_cases hwr:wr=0
  ·subst hwr;have e:zlS (W,0) i q k=zar (zld W q k) i (BitVec.ofNat 32 k):=by unfold zlS;rw[if_pos rfl]
   rw[e];by_cases hk0:0<k
   ·have d4:=decide_eq_true (show(0:Int)<(k:Int) by omega);have e:zld W q k=zcx {W with I:=W.I.set q {W.i q with b:=(W.i q).b.drop k}} 3 q:=by unfold zld;rw[if_pos hk0]
    rw[e];obtain⟨ci2,j1,j2⟩:=aw.ip q hqw;have j1':=j1;rw[eqw] at j1;have hsW:=aw.bs q hqw;obtain⟨bl,cl,cls,elv,z1,z2,z3,z4⟩:=hsW.cons (by rw[eWq];omega);have j3:=j2.bv;rw[show Lw.bv.getD q (.slice none 0 0)= .slice (some ⟨bl,0,none⟩) (W.i q).b.length cl from elv] at j3;obtain⟨pt,ct,tt1,tt2,tt3⟩:=zmg (P:=EE.P) (k:=k) (M:=M2) zbf zpH z1 (by omega) z3 z4 (by simp) (by rw[eWq];exact hkl) (by omega);have hbl2:bl<M2.next:=hFw.lt z1;have h64w:=hFw.n64;have hpt:pt.block<M2.next:=by omega
    simp only[XX,XY,zwI,yA,yB,yC,nw,d4,sw3,j1,j3,tt1,lA];have hds:zdY 1 (.slice (some pt) ((W.i q).b.length-k) ct) (M2.bump 17)=some (((W.i q).b.drop k).map By,(W.i q).b.length-k):=by
     have e5:(List.drop k ((W.i q).b.map By)).length=(W.i q).b.length-k:=by rw[List.length_drop,lM]
     rw[e5] at tt2;rw[List.map_drop];exact(zbj λ_ _=>rfl).trans tt2
    refine cX (zsu hFw.bump (.inr ⟨pt,ct,rfl,by rw[bN];omega⟩) hds (by rw[lM,List.length_drop]) (by rw[List.all_map];exact List.all_eq_true.2 λ_ _=>rfl) (by rw[eWq];omega)) λu3 M3 hC=>?_;have hNC:Nx M2 M3:=((Nx.refl hFw).bump 17).trans hC.nx;have nC:=hNC.next;have j1k:=hNC.keep hFw j1;have hbD:(W.i q).b.length-k=((W.i q).b.drop k).length:=by rw[List.length_drop]
    have hres:=aw.set_b (M:=M3) (v':=u3) hqw (B:=(W.i q).b.drop k) j1' j2 nC (λy hy=>⟨by have:=hC.new y hy;rw[bN] at this;omega,hC.sl.lt hC.nx.fresh hy⟩) h64w hNC.old (by rw[<-hbD];exact hC.sl);obtain⟨cp,p1,p2⟩:=aw.pr _ hiw;rw[eiw] at p1;have p1k:=hNC.keep hFw p1;have npi:¬L.p i=L.i q:=h.p_i hi hq;have k0:0+1<=ci2.n:=by rw[j2.n];decide
    have hF5:Fd Lw.D M2 (M3.put (Lw.i q) (.cells (ci2.write 0 [u3]) true 0)):=(Fd.of_nx hNC).put (.inl (aw.dm _ (aw.mi hqw))) aw.lt (.inl (by rw[eqw,j1k];simp));rw[eqw] at hres hF5;have n9:m.next<=M3.next:=by omega
    have hgx:GX {W with I:=W.I.set q {W.i q with b:=(W.i q).b.drop k}}:=SW.gx.set_i (by have:=SW.gx.ib q hqw;rw[<-hbD];omega);have hx5:Lx M2.next Lw {Lw with bv:=Lw.bv.set q u3,D:=λy=>Lw.D y∨slB u3=some y}:=⟨rfl,⟨[],by simp⟩,⟨[],by simp⟩,⟨[],by simp⟩,⟨[],by simp⟩,⟨[],by simp⟩,λy hy=>hy.imp _root_.id λe=>by have:=hC.new y e;rw[bN] at this;omega⟩;have htM:Tb (M3.put (L.i q) (.cells (ci2.write 0 [u3]) true 0)):=(htw.nx hFw hNC).put (h.d64 _ (h.dm _ (h.mi hq)));have hu1:u3.cells.toList=[u3]:=by rcases hC.sl.at_ with⟨_,rfl⟩|⟨_,_,_,rfl,_⟩<;>rfl
    have hu2:[u3].length=1∧[u3].all oneCell=true:=by rcases hC.sl.at_ with⟨_,rfl⟩|⟨_,_,_,rfl,_⟩<;>exact⟨rfl,rfl⟩
    simp only[XX,XY,zwI,yA,yB,yC,n9,j1k,k0,hu1,hu2,p1k,npi,p2.f,efw];obtain⟨L5,hres,hx5,e5f,e5q⟩:∃L5,FAt (M3.put (L.i q) (.cells (ci2.write 0 [u3]) true 0)) L5 {W with I:=W.I.set q {W.i q with b:=(W.i q).b.drop k}}∧Lx M2.next Lw L5∧L5.f=L.f∧L5.i q=L.i q:=⟨_,hres,hx5,efw,eqw⟩;refine cX (by have hw:=zjB (hres.bump 6) hF5.fresh.bump hgx (show W.fut.length<100000 by omega) (w:=3) (q:=q) (show q<(W.I.set q _).length by rw[sL];exact hqw);rw[e5f,e5q] at hw;exact hw) λu4 M4 hB4=>?_;have hB4:=hB4.of_bump;have hWk:(zcx {W with I:=W.I.set q {W.i q with b:=(W.i q).b.drop k}} 3 q).P.length=W.P.length∧(zcx {W with I:=W.I.set q {W.i q with b:=(W.i q).b.drop k}} 3 q).seen=W.seen:=⟨zfb.1,zfb.2.2.2.2⟩;generalize zcx {W with I:=W.I.set q {W.i q with b:=(W.i q).b.drop k}} 3 q=V at hB4 hWk⊢;obtain⟨L4,a4,x4,f4⟩:=id hB4;have n40:=f4.next;rw[nP] at n40;have n41:m.next<=M4.next:=by omega
    have e4i:L4.p i=L.p i:=(x4.p (by rw[hres.lP];exact hiw)).trans ((hx5.p (by rw[aw.lP];exact hiw)).trans eiw);simp only[XX,XY,zwI,yA,yB,yC,n41,sw3,cvk];refine cX (by rw[<-e4i];exact zaL (v:=BitVec.ofNat 32 k) (a4.bump _) f4.fresh.bump ((htM.fd f4 hF5.fresh hres.d64).bump _) (by rw[hWk.1];exact hiw) (by rw[hWk.2];omega)) λu M9 hB9=>?_;have hB9:=hB9.of_bump;have n9:=hB9.next;have n10:m.next<=M9.next:=by omega
    simp only[XX,yA];exact(bE xw fw (bE hx5 hF5 (bE x4 f4 hB9))).raw
   ·have d4:=decide_eq_false (show¬(0:Int)<(k:Int) by omega);have e:zld W q k=W:=by unfold zld;rw[if_neg hk0]
    rw[e];simp only[XX,XY,zwI,yA,yB,yC,nw,d4,sw3,cvk,lA];refine cX (by rw[<-eiw];exact zaL (v:=BitVec.ofNat 32 k) (aw.bump _) hFw.bump (htw.bump _) hiw (show W.seen.length<100000 by omega)) λu M9 hB9=>?_;have hB9:=hB9.of_bump;have n9:=hB9.next;have n10:m.next<=M9.next:=by omega
    simp only[XX,yA];exact(bE xw fw hB9).raw
  ·have d4:=decide_eq_false hwr;have e:zlS (W,wr) i q k=zaZ W i wr:=by unfold zlS;rw[if_neg hwr]
   rw[e];simp only[XX,XY,zwI,yA,yB,yC,nw,d4,lA];refine cX (by rw[<-eiw];exact za1 (aw.bump _) hFw.bump (htw.bump _) hiw (show W.seen.length<100000 by omega)) λu M9 hB9=>?_;have hB9:=hB9.of_bump;have n9:=hB9.next;have n10:m.next<=M9.next:=by omega
   simp only[XX,yA];exact(bE xw fw hB9).raw
end
section
variable{m m' M mr:Mem}{n:Nat}{L L' L1 L2:Loc}{X X' X1 X2 Y W:St}{v:Value}{fl:List Value}{pid:Int}
def wrR(X:St)(q:Nat):Nat:=(X.cap-((X.i q).b.length:Int)).toNat
def wrY(W:St)(q:Nat)(l:List (BitVec 8)):St:=if 0<l.length then zcx {W with I:=W.I.set q {W.i q with b:=(W.i q).b++l}} 2 q else W
def wrZ(X:St)(i q k:Nat):Option (List (BitVec 8))->St
 |none=>zaZ X i 14
 |some l=>zar (wrY X q l) i (BitVec.ofNat 32 k)
def zel(X:St)(i q:Nat)(a n:BitVec 32):St:=if 4096<n.toNat then zaZ X i 22 else if(X.i q).readers=0 then zaZ X i 32 else
 if 0<n.toNat∧wrR X q=0 then{X with P:=X.P.set i {X.p i with wait:=3,pipe:=some q}} else
 wrZ X i q (min n.toNat (wrR X q)) (zdE X i a (min n.toNat (wrR X q)))
theorem zFb{p1 p2:Option Addr}{n1 c1 n2 c2:Nat}:bsV EE.P 190 2 [(0, .slice p1 n1 c1),(1, .slice p2 n2 c2)]=some ([.slice p1 n1 c1, .slice p2 n2 c2],1):=kr
theorem zrc(h:FAt m L X)(hm:zad m)(ht:Tb m)(hg:GX X){i q:Nat}(hi:i<X.P.length)(hq:q<X.I.length)(hs:X.seen.length<99990)(hf:X.fut.length<99990){a n:BitVec 32}:∃u m',Con EE.P 181 [PT (L.p i),PT (L.i q),Um a,Um n] m u m'∧Be m L (zel X i q a n) m':=by
 refine Con.raw zai zFs (bA rfl) _ ?_;obtain⟨cs,h1,h2⟩:=h.pr i hi;obtain⟨cf,f1,f2⟩:=h.fl;obtain⟨ci,i1,i2⟩:=h.ip q hq;have hbs:=h.bs q hq;have hcap:=hg.ib q hq;have hcp:=hg.cp;have hbl:(X.i q).b.length<=64:=by omega
 have hlenB:∀M,lenA EE.P 127 (L.b q) M=some (In (X.i q).b.length):=λM=>hbs.lenA zbf;have hroom:IntKind.i64.wrap (X.cap-((X.i q).b.length:Int))=((wrR X q:Nat):Int):=by rw[zae (by omega) (by omega)];unfold wrR;omega
 have hB:∀K (c:Int),∃u m',Con EE.P 87 [PT (L.p i),In c] (m.bump K) u m'∧Be (m.bump K) L (zaZ X i c) m':=λK c=>za1 (h.bump _) hm.bump (ht.bump _) hi (Nat.lt_trans hs (by decide));unfold zel;by_cases hc:4096<n.toNat
 ·have d1:=decide_eq_true (show(4096:Int)<(n.toNat:Int) by omega);rw[if_pos hc];simp only[XX,XY,zuU,yA,yB,yC,h1,h2.f,f1,f2.cap,i1,i2.bv,hlenB,d1];refine cX (hB _ _) λu M hB'=>?_;have hB2:=hB'.of_bump;have nx:=hB2.next;simp only[XX,yA];exact hB2.raw
 have d0:=decide_eq_false (show¬(4096:Int)<(n.toNat:Int) by omega);rw[if_neg hc];by_cases hc1:(X.i q).readers=0
 ·have d1:=decide_eq_true hc1;rw[if_pos hc1];simp only[XX,XY,zuU,yA,yB,yC,h1,h2.f,f1,f2.cap,i1,i2.bv,i2.readers,hlenB,d0,d1];refine cX (hB _ _) λu M hB'=>?_;have hB2:=hB'.of_bump;have nx:=hB2.next;simp only[XX,yA];exact hB2.raw
 have d1:=decide_eq_false hc1;rw[if_neg hc1];obtain⟨r,hr⟩:∃r,r=wrR X q:=⟨_,rfl⟩;rw[<-hr] at hroom⊢;have hrl:(X.i q).b.length+r<=X.cap.toNat:=by rw[hr];unfold wrR;omega
 by_cases hc2:0<n.toNat∧r=0
 ·have d2:=decide_eq_true (show(0:Int)<(n.toNat:Int) by omega);have d3:=decide_eq_true (show(r:Int)=0 by omega);rw[if_pos hc2];have hp:=(h2.w_wait (x:=3)).w_pipe (x:=some q);have k1:46+1<=cs.n:=by rw[h2.n];decide
  have k2:47+1<=cs.n:=by rw[h2.n];decide
  simp only[XX,XY,zuU,yA,yB,yC,h1,h2.f,f1,f2.cap,i1,i2.bv,i2.readers,hlenB,hroom,d0,d1,d2,d3,k1,k2];exact((h.be_p2 hm hi hp).bump _).raw
 rw[if_neg hc2];obtain⟨k,hk⟩:∃k,k=min n.toNat r:=⟨_,rfl⟩;rw[<-hk];have hkr:k<=r:=by rw[hk];exact Nat.min_le_right _ _
 have hmin:=zwc (P:=EE.P) (a:=n.toNat) (b:=r);rw[<-hk] at hmin;have cvk:∀M,zbU EE.P 3 36 (In (k:Int)) M=some (Um (BitVec.ofNat 32 k)):=λM=>zcz (by omega);have hcase:(decide ((0:Int)<(n.toNat:Int))=false∧True)∨(decide ((0:Int)<(n.toNat:Int))=true∧decide ((r:Int)=0)=false):=by
  by_cases c1:0<n.toNat
  ·exact .inr ⟨decide_eq_true (by omega),decide_eq_false (by omega)⟩
  ·exact .inl ⟨decide_eq_false (by omega),trivial⟩
 rcases hcase with⟨d2,d3⟩|⟨d2,d3⟩
 all_goals
  simp only[XX,XY,zuU,yA,yB,yC,h1,h2.f,f1,f2.cap,i1,i2.bv,i2.readers,hlenB,hroom,d0,d1,d2,d3,zn0,zdr,hmin];refine cX (zrm (n:=k) (h.bump _) hm.bump hg hi (by omega)) λu M hM=>?_;obtain⟨hn1,hM⟩:=hM;have hn1:=hn1.of_bump;have nx:=hn1.next;have hFM:=hn1.fresh;have hAM:=h.nx hn1;have htM:=ht.nx hm hn1;cases hr:zdE X i a k with
  |none=>
   rw[hr] at hM;subst hM;simp only[XX,XY,zuU,yA,yB,yC,yH,nx,lA];refine cX (za1 (hAM.bump _) hFM.bump (htM.bump _) hi (by omega)) λu M9 hB9=>?_;have hB9:=hB9.of_bump;have n9:=hB9.next;have n10:m.next<=M9.next:=by omega
   simp only[XX,yA];exact(bE Lx.refl (Fd.of_nx hn1) hB9).raw
  |some l=>
   rw[hr] at hM;obtain⟨v,rfl,hN⟩:=hM;have hl:=zeC hr;have e:wrZ X i q k (some l)=zar (wrY X q l) i (BitVec.ofNat 32 k):=rfl;rw[e];have hlenv:∀M,lenA EE.P 127 v M=some (In (k:Int)):=λM=>hN.sl.lenA zbf;by_cases hk0:0<k
   ·have d4:=decide_eq_true (show(0:Int)<(k:Int) by omega);have e:wrY X q l=zcx {X with I:=X.I.set q {X.i q with b:=(X.i q).b++l}} 2 q:=by unfold wrY;rw[if_pos (by omega)]
    rw[e];have i1k:=hn1.keep hm i1;have h1k:=hn1.keep hm h1;have hbs2:=hAM.bs q hq;have hb2:=i2.bv;obtain⟨p0,c0,ep0⟩:∃p c,L.bv.getD q (.slice none 0 0)= .slice p (X.i q).b.length c:=by
     rcases hbs2.at_ with⟨e0,e1⟩|⟨b,c,_,e1,_⟩
     ·exact⟨none,0,by rw[e0];exact e1⟩
     ·exact⟨_,c,e1⟩
    rw[ep0] at hb2;obtain⟨b9,c9,cs9,rfl,z1,z2,z3,z4⟩:=hN.sl.cons (by omega);simp only[XX,XY,zuU,yA,yB,yC,nx,d4,hlenv,i1k,hb2,zFb,lA];have hNx:∀(m:Mem) (hm:zad m) (o:zaS),Nx m ((m.put (m.next+11) o).bump 16):=λm hm o=>⟨by(try simp only[bN,nP]);omega,zad.of_low (by have:=hm.n64;(try simp only[bN,nP]);omega) (by repeat(first|exact Low.of hm nO|refine Low.put ?_ nO|refine Low.bump ?_)),λy hy=>by simp only[gB,gP,zbL hy,if_false]⟩;have hNc:=hNx M hFM (.cells (ofL [.slice p0 (X.i q).b.length c0, .slice (some ⟨b9,0,none⟩) k c9]) true 1);have hb3:=(hAM.nx hNc).bs q hq;rw[show L.b q=_ from ep0] at hb3;have hs3:=hN.sl.keep (M':=(M.put (M.next+11) (.cells (ofL [.slice p0 (X.i q).b.length c0, .slice (some ⟨b9,0,none⟩) k c9]) true 1)).bump 16) λy o hy ho=>(hNc.old y (hN.sl.lt hFM hy)).trans ho;have hL1:((X.i q).b.map By).length=(X.i q).b.length:=by rw[lM]
    have hL2:(l.map By).length=k:=by rw[lM,hl]
    refine cX (zkO hNc.fresh (b0:=M.next+11) (f1:=(X.i q).b.map By) (f2:=l.map By) (by rw[gB,gP,if_pos rfl]) rfl rfl (by rw[hL1];exact hb3.src) (by rw[hL2];exact hs3.src) (λM=>by rw[hL1];exact hb3.lenA zbf) (λM=>by rw[hL2];exact hs3.lenA zbf) (by rw[List.all_map];exact List.all_eq_true.2 λ_ _=>rfl) (by rw[List.all_map];exact List.all_eq_true.2 λ_ _=>rfl) (by rw[hL1,hL2];omega) (λy hy=>hb3.lt hNc.fresh hy) (λy hy=>hs3.lt hNc.fresh hy)) λu3 M3 hC=>?_;have hNC:=hNc.trans hC.nx;have nC:=hNC.next;have i1C:=hNC.keep hFM i1k;have h1C:=hNC.keep hFM h1k;have hLB:((X.i q).b++l).length=((X.i q).b.map By).length+(l.map By).length:=by rw[aL,hL1,hL2,hl]
    have h64:=hFM.n64;have hnc0:=hNc.next;have hnew:∀y,slB u3=some y->M.next<=y∧y<M3.next:=λy hy=>⟨by have:=hC.new y hy;omega,hC.sl.lt hC.nx.fresh hy⟩;have hres:=hAM.set_b (M:=M3) (v':=u3) hq (B:=(X.i q).b++l) i1k i2 nC hnew h64 hNC.old (by rw[hLB,List.map_append];exact hC.sl);have npi:¬L.p i=L.i q:=h.p_i hi hq;have k0:0+1<=ci.n:=by rw[i2.n];decide
    have hF5:Fd L.D M (M3.put (L.i q) (.cells (ci.write 0 [u3]) true 0)):=(Fd.of_nx hNC).put (.inl (h.dm _ (h.mi hq))) hAM.lt (.inl (by rw[i1C];simp));have n9:m.next<=M3.next:=by omega
    have hgx:GX {X with I:=X.I.set q {X.i q with b:=(X.i q).b++l}}:=hg.set_i (by show((((X.i q).b++l).length:Nat):Int)<=X.cap;rw[hLB,hL1,hL2];omega);have hx5:Lx M.next L {L with bv:=L.bv.set q u3,D:=λy=>L.D y∨slB u3=some y}:=⟨rfl,⟨[],by simp⟩,⟨[],by simp⟩,⟨[],by simp⟩,⟨[],by simp⟩,⟨[],by simp⟩,λy hy=>hy.imp _root_.id λe=>(hnew y e).1⟩;have htM5:Tb (M3.put (L.i q) (.cells (ci.write 0 [u3]) true 0)):=(htM.nx hFM hNC).put (h.d64 _ (h.dm _ (h.mi hq)));have hu1:u3.cells.toList=[u3]:=by rcases hC.sl.at_ with⟨_,rfl⟩|⟨_,_,_,rfl,_⟩<;>rfl
    have hu2:[u3].length=1∧[u3].all oneCell=true:=by rcases hC.sl.at_ with⟨_,rfl⟩|⟨_,_,_,rfl,_⟩<;>exact⟨rfl,rfl⟩
    simp only[XX,XY,zuU,yA,yB,yC,n9,i1C,k0,hu1,hu2,h1C,npi,h2.f];obtain⟨L5,hres,hx5,e5f,e5q⟩:∃L5,FAt (M3.put (L.i q) (.cells (ci.write 0 [u3]) true 0)) L5 {X with I:=X.I.set q {X.i q with b:=(X.i q).b++l}}∧Lx M.next L L5∧L5.f=L.f∧L5.i q=L.i q:=⟨_,hres,hx5,rfl,rfl⟩;refine cX (by have hw:=zjB (hres.bump 6) hF5.fresh.bump hgx (show X.fut.length<100000 by omega) (w:=2) (q:=q) (show q<(X.I.set q _).length by rw[sL];exact hq);rw[e5f,e5q] at hw;exact hw) λu4 M4 hB4=>?_;have hB4:=hB4.of_bump;have hWk:(zcx {X with I:=X.I.set q {X.i q with b:=(X.i q).b++l}} 2 q).P.length=X.P.length∧(zcx {X with I:=X.I.set q {X.i q with b:=(X.i q).b++l}} 2 q).seen=X.seen:=⟨zfb.1,zfb.2.2.2.2⟩;generalize zcx {X with I:=X.I.set q {X.i q with b:=(X.i q).b++l}} 2 q=V at hB4 hWk⊢;obtain⟨L4,a4,x4,f4⟩:=id hB4;have n40:=f4.next;rw[nP] at n40;have n41:m.next<=M4.next:=by omega
    have e4i:L4.p i=L.p i:=(x4.p (by rw[hres.lP];exact hi)).trans (hx5.p (by rw[h.lP];exact hi));simp only[XX,XY,zuU,yA,yB,yC,n41,hlenv,cvk];refine cX (by rw[<-e4i];exact zaL (v:=BitVec.ofNat 32 k) (a4.bump _) f4.fresh.bump ((htM5.fd f4 hF5.fresh hres.d64).bump _) (by rw[hWk.1];exact hi) (by rw[hWk.2];omega)) λu M9 hB9=>?_;have hB9:=hB9.of_bump;have n9:=hB9.next;have n10:m.next<=M9.next:=by omega
    simp only[XX,yA];exact(bE Lx.refl (Fd.of_nx hn1) (bE hx5 hF5 (bE x4 f4 hB9))).raw
   ·have d4:=decide_eq_false (show¬(0:Int)<(k:Int) by omega);have e:wrY X q l=X:=by unfold wrY;rw[if_neg (by omega)]
    rw[e];simp only[XX,XY,zuU,yA,yB,yC,nx,d4,hlenv,cvk,lA];refine cX (zaL (v:=BitVec.ofNat 32 k) (hAM.bump _) hFM.bump (htM.bump _) hi (by omega)) λu M9 hB9=>?_;have hB9:=hB9.of_bump;have n9:=hB9.next;have n10:m.next<=M9.next:=by omega
    simp only[XX,yA];exact(bE Lx.refl (Fd.of_nx hn1) hB9).raw
end
section
variable{m m' M mr:Mem}{n:Nat}{L L' L1 L2:Loc}{X X' X1 X2 Y W:St}{v:Value}{fl:List Value}{pid:Int}
def fdS(X:St)(i k:Nat)(o:Option Nat):St:={X with P:=X.P.set i {X.p i with fds:=(X.p i).fds.set k o}}
def closeF(X:St)(i k x:Nat):St:=zcu (zar (fdS X i k none) i 0#32) x
def zo3(X:St)(x:Nat):St:={X with F:=X.F.set x {X.x x with refs:=IntKind.i64.wrap ((X.x x).refs+1)}}
def zEn(X:St)(i x k:Nat):St:=zar (fdS (zo3 X x) i k (some x)) i (BitVec.ofNat 32 k)
def zbI(X:St)(i:Nat)(n:Int)(a0 a1 a2:BitVec 32)(F:List Nat):St:=if n=6 then zkC X i a0 F else match zwy X i a0 with
 |none=>zaZ X i 9
 |some x=>if n=7∧(X.x x).write=false then zgl X i (X.x x).p a1 a2 else if n=8∧(X.x x).write=true then zel X i (X.x x).p a1 a2 else if n=9 then closeF X i a0.toNat x else if n≠10 then zaZ X i 9 else
  if F.length=0 then zaZ X i 24 else zEn X i x (F.getD 0 0)
def zhg(X:St)(i:Nat)(n:Int)(a0 a1 a2:BitVec 32):St:=zbI X i n a0 a1 a2 (zc0 (X.p i).fds 8)
theorem zqp(hg:GX X){i x:Nat}{a:BitVec 32}(hi:i<X.P.length)(h:zwy X i a=some x):a.toNat<8∧(X.p i).fds.getD a.toNat none=some x∧x<X.F.length:=by
 unfold zwy at h;by_cases c:8<=a.toNat
 ·rw[if_pos c] at h;cases h
 ·rw[if_neg c] at h;exact⟨by omega,h,(hg.fd i hi).2 _ _ h⟩
theorem GX.fdS(h:GX X){i k:Nat}{o:Option Nat}(hi:i<X.P.length)(ho:∀x,o=some x->x<X.F.length):GX (fdS X i k o):=h.set_p ((h.px hi).s_fds ho)
theorem n5{n:Int}:(decide (n=7)=true∧decide (n=8)=false∧decide (n=9)=false∧decide (n=10)=false)∨(decide (n=7)=false∧decide (n=8)=true∧decide (n=9)=false∧decide (n=10)=false)∨(decide (n=7)=false∧decide (n=8)=false∧decide (n=9)=true∧decide (n=10)=false)∨(decide (n=7)=false∧decide (n=8)=false∧decide (n=9)=false∧decide (n=10)=true)∨(decide (n=7)=false∧decide (n=8)=false∧decide (n=9)=false∧decide (n=10)=false):=by simp only[decide_eq_true_eq,decide_eq_false_iff_not];omega
theorem zup(h:FAt m L X)(hm:zad m)(ht:Tb m)(hg:GX X){i:Nat}(hi:i<X.P.length)(hs:X.seen.length<99980)(hf:X.fut.length<99980){n:Int}{a0 a1 a2:BitVec 32}:∃u m',Con EE.P 130 [PT (L.p i),In n, .agg [Um a0,Um a1,Um a2].toArray] m u m'∧Be m L (zhg X i n a0 a1 a2) m':=by
 refine Con.raw zai zFj (bA rfl) _ ?_;have hfl:=(hg.fd i hi).1;have t0:Int.toNat 0=0:=rfl;have t1:Int.toNat 1=1:=rfl;have t2:Int.toNat 2=2:=rfl;have g0:(0:Int)<=0:=by decide
 have g1:(0:Int)<=1:=by decide
 have g2:(0:Int)<=2:=by decide
 have i0:(0:Int)<((3:Nat):Int):=by decide
 have i1:(1:Int)<((3:Nat):Int):=by decide
 have i2:(2:Int)<((3:Nat):Int):=by decide
 simp only[XX,XY,zof,yA,yB,yC,t0,g0,i0];refine cZ (zAX ((h.new' (j:=0)).bump _) hg hi) ?_;simp only[XX,XY,zof,yA,yB];refine CallI.ex2L (zzf ((h.new' (j:=0)).bump _) (⟨by(try simp only[bN,nP]);omega,zad.of_low (by have:=hm.n64;(try simp only[bN,nP]);omega) (by repeat(first|exact Low.of hm nO|refine Low.put ?_ nO|refine Low.bump ?_)),λy hy=>by simp only[gB,gP,zbL hy,if_false]⟩:Nx m _).fresh hg hi) (by simp) λv M hN=>?_;have hN0:Nx m ((m.put m.next (.cells (ofL [Um a0,Um a1,Um a2]) true 0)).bump 9):=⟨by(try simp only[bN,nP]);omega,zad.of_low (by have:=hm.n64;(try simp only[bN,nP]);omega) (by repeat(first|exact Low.of hm nO|refine Low.put ?_ nO|refine Low.bump ?_)),λy hy=>by simp only[gB,gP,zb3 hy,if_false]⟩;have hNM:=hN0.trans hN.nx;have nx:=hNM.next;have hb:M.get m.next=some (.cells (ofL [Um a0,Um a1,Um a2]) true 0):=hN.nx.keep hN0.fresh gA;have hbl:m.next<M.next:=by have:=hN.nx.next;simp only[bN,nP] at this;omega
 have hFM:=hNM.fresh;have hAM:=h.nx hNM;have htM:=ht.nx hm hNM;have hlenF:∀M,lenA EE.P 41 v M=some (In (zc0 (X.p i).fds 8).length):=λM=>hN.sl.lenA zdN;have hvD:∀y,slB v=some y->¬L.D y:=λy hy e=>by have:=hN.new y hy;have:=h.lt y e;simp only[bN,nP] at*;omega
 have hvl:∀y,slB v=some y->y<M.next:=λy hy=>hN.sl.lt hN.nx.fresh hy;have hF8:=zj2 (F:=(X.p i).fds) (k:=8);have hFm:∀k∈zc0 (X.p i).fds 8,k<8:=λk hk=>(zs1.1 hk).1;have hsl:=hN.sl;unfold zhg;generalize zc0 (X.p i).fds 8=F at hlenF hF8 hFm hsl⊢;have hB:∀K (c:Int),∃u m',Con EE.P 87 [PT (L.p i),In c] (M.bump K) u m'∧Be (M.bump K) L (zaZ X i c) m':=λK c=>za1 (hAM.bump _) hFM.bump (htM.bump _) hi (Nat.lt_trans hs (by decide));by_cases e6:n=6
 ·have d6:=decide_eq_true e6;rw[show zbI X i n a0 a1 a2 F=zkC X i a0 F by unfold zbI;rw[if_pos e6]];simp only[XX,XY,zof,yA,yB,yC,nx,hb,t0,g0,i0,d6,lA];refine cX (zyP (hAM.bump _) hFM.bump (htM.bump _) hg hi (by omega) (hsl.bump _) hvD hFm hF8) λu M9 hB9=>?_;have hB9:=hB9.of_bump;have n9:=hB9.next;have n10:m.next<=M9.next:=by omega
  simp only[XX,yA];exact(bE Lx.refl (Fd.of_nx hNM) hB9).raw
 have d6:=decide_eq_false e6;cases ho:zwy X i a0 with
 |none=>
  rw[show zbI X i n a0 a1 a2 F=zaZ X i 9 by unfold zbI;rw[if_neg e6,ho]];rcases n5 (n:=n) with⟨d7,d8,d9,d10⟩|⟨d7,d8,d9,d10⟩|⟨d7,d8,d9,d10⟩|⟨d7,d8,d9,d10⟩|⟨d7,d8,d9,d10⟩
  all_goals
   simp only[XX,XY,zof,yA,yB,yC,nx,d6,d7,d8,d9,d10,zsf,lA];refine cX (hB _ _) λu M9 hB9=>?_;have hB9:=hB9.of_bump;have n9:=hB9.next;have n10:m.next<=M9.next:=by omega
   simp only[XX,yA];exact(bE Lx.refl (Fd.of_nx hNM) hB9).raw
 |some x=>
  obtain⟨ha8,hgx,hx⟩:=zqp hg hi ho;obtain⟨cx,x1,x2⟩:=hAM.xs x hx;have x3:=x2.write;have hq:=hg.xp x hx;obtain⟨cp,p1,p2⟩:=hAM.pr i hi;have h1M:=p1;have gA0:(0:Int)<=(a0.toNat:Int):=by omega
  have gA1:(a0.toNat:Int)<((8:Nat):Int):=by omega
  have kA:52+(a0.toNat+1)<=cp.n:=by rw[p2.n];omega
  have kX:2+1<=cx.n:=by rw[x2.n];decide
  rcases n5 (n:=n) with⟨d7,d8,d9,d10⟩|⟨d7,d8,d9,d10⟩|⟨d7,d8,d9,d10⟩|⟨d7,d8,d9,d10⟩|⟨d7,d8,d9,d10⟩
  ·have c7:=of_decide_eq_true d7;have c8:=of_decide_eq_false d8;have c9:=of_decide_eq_false d9;have c10:=of_decide_eq_false d10;cases hw:(X.x x).write with
   |false=>
    rw[show zbI X i n a0 a1 a2 F=zgl X i (X.x x).p a1 a2 by unfold zbI;rw[if_neg e6,ho];show(if n=7∧_ then _ else _)=_;rw[if_pos ⟨c7,hw⟩]];rw[hw] at x3;simp only[XX,XY,zof,yA,yB,yC,nx,hb,t1,t2,g1,g2,i1,i2,d6,d7,x1,x3,x2.p,zc9,lA];refine cX (zt5 (hAM.bump _) hFM.bump (htM.bump _) hg hi hq (by omega) (by omega)) λu M9 hB9=>?_;have hB9:=hB9.of_bump;have n9:=hB9.next;have n10:m.next<=M9.next:=by omega
    simp only[XX,yA];exact(bE Lx.refl (Fd.of_nx hNM) hB9).raw
   |true=>
    rw[show zbI X i n a0 a1 a2 F=zaZ X i 9 by unfold zbI;rw[if_neg e6,ho];show(if n=7∧_ then _ else _)=_;rw[if_neg (λe=>by rw[hw] at e;cases e.2),if_neg (λe=>c8 e.1),if_neg c9,if_pos c10]];rw[hw] at x3;simp only[XX,XY,zof,yA,yB,yC,nx,d6,d7,d8,d9,d10,x1,x3,zc9,lA];refine cX (hB _ _) λu M9 hB9=>?_;have hB9:=hB9.of_bump;have n9:=hB9.next;have n10:m.next<=M9.next:=by omega
    simp only[XX,yA];exact(bE Lx.refl (Fd.of_nx hNM) hB9).raw
  ·have c7:=of_decide_eq_false d7;have c8:=of_decide_eq_true d8;have c9:=of_decide_eq_false d9;have c10:=of_decide_eq_false d10;cases hw:(X.x x).write with
   |false=>
    rw[show zbI X i n a0 a1 a2 F=zaZ X i 9 by unfold zbI;rw[if_neg e6,ho];show(if n=7∧_ then _ else _)=_;rw[if_neg (λe=>c7 e.1),if_neg (λe=>by rw[hw] at e;cases e.2),if_neg c9,if_pos c10]];rw[hw] at x3;simp only[XX,XY,zof,yA,yB,yC,nx,d6,d7,d8,d9,d10,x1,x3,zc9,lA];refine cX (hB _ _) λu M9 hB9=>?_;have hB9:=hB9.of_bump;have n9:=hB9.next;have n10:m.next<=M9.next:=by omega
    simp only[XX,yA];exact(bE Lx.refl (Fd.of_nx hNM) hB9).raw
   |true=>
    rw[show zbI X i n a0 a1 a2 F=zel X i (X.x x).p a1 a2 by unfold zbI;rw[if_neg e6,ho];show(if n=7∧_ then _ else _)=_;rw[if_neg (λe=>c7 e.1),if_pos ⟨c8,hw⟩]];rw[hw] at x3;simp only[XX,XY,zof,yA,yB,yC,nx,hb,t1,t2,g1,g2,i1,i2,d6,d7,d8,x1,x3,x2.p,zc9,lA];refine cX (zrc (hAM.bump _) hFM.bump (htM.bump _) hg hi hq (by omega) (by omega)) λu M9 hB9=>?_;have hB9:=hB9.of_bump;have n9:=hB9.next;have n10:m.next<=M9.next:=by omega
    simp only[XX,yA];exact(bE Lx.refl (Fd.of_nx hNM) hB9).raw
  ·have c7:=of_decide_eq_false d7;have c8:=of_decide_eq_false d8;have c9:=of_decide_eq_true d9;have c10:=of_decide_eq_false d10;rw[show zbI X i n a0 a1 a2 F=closeF X i a0.toNat x by unfold zbI;rw[if_neg e6,ho];simp[c9]];simp only[XX,XY,zof,yA,yB,yC,nx,hb,h1M,gA0,gA1,kA,t0,g0,i0,d6,d7,d8,d9,zc9,lA];have hp:=p2.s_fds (k:=a0.toNat) ha8 (x:=none);have hB3:=hAM.be_p hFM hi hp;obtain⟨L3,a3,x3',f3⟩:=id hB3;refine cX (zaL (v:=0#32) ((hAM.put_p hi hp).bump 46) hB3.fresh.bump ((htM.put (h.d64 _ (h.dm _ (h.mp hi)))).bump _) (by rw[sL];exact hi) (show X.seen.length<100000 by omega)) λu M4 hB4=>?_;have hB4:Be M L (zar (fdS X i a0.toNat none) i 0#32) M4:=bE Lx.refl (Fd.own hAM hFM (h.mp hi)) hB4.of_bump;have g3:GX (fdS X i a0.toNat none):=hg.fdS hi (λx e=>by cases e);have S4:=Sh.answer (i:=i) (v:=0#32) g3 (by simpa [fdS] using hi);have sF:(zar (fdS X i a0.toNat none) i 0#32).fut.length<=X.fut.length:=lR' _;unfold closeF;generalize zar (fdS X i a0.toNat none) i 0#32=V at hB4 S4 sF⊢;obtain⟨L4,a4,x4,f4⟩:=id hB4;have e4f:L4.f=L.f:=x4.f;have e4x:L4.x x=L.x x:=x4.x (by rw[h.lF];exact hx);have n4:=f4.next;have n41:m.next<=M4.next:=by omega
   obtain⟨c4,y1,y2⟩:=a4.pr i (by rw[show i=i from rfl];exact lL hi (lT (by simp[fdS]) S4.P));have e4p:L4.p i=L.p i:=x4.p (by rw[h.lP];exact hi);rw[e4p] at y1;simp only[XX,XY,zof,yA,yB,yC,n41,y1,y2.f,e4f];refine cX (by rw[<-e4f,<-e4x];exact zqq (a4.bump _) f4.fresh.bump S4.gx (by omega) (lL hx S4.F)) λu M9 hB9=>?_;have hB9:=hB9.of_bump;have n9:=hB9.next;have n10:m.next<=M9.next:=by omega
   simp only[XX,yA];exact(bE Lx.refl (Fd.of_nx hNM) (bE x4 f4 hB9)).raw
  ·have c7:=of_decide_eq_false d7;have c8:=of_decide_eq_false d8;have c9:=of_decide_eq_false d9;have c10:=of_decide_eq_true d10;by_cases hF0:F.length=0
   ·have d11:=decide_eq_true (show(F.length:Int)=0 by omega);rw[show zbI X i n a0 a1 a2 F=zaZ X i 24 by unfold zbI;rw[if_neg e6,ho];simp[c10,hF0]];simp only[XX,XY,zof,yA,yB,yC,nx,d6,d7,d8,d9,d10,d11,hlenF,zc9,lA];refine cX (hB _ _) λu M9 hB9=>?_;have hB9:=hB9.of_bump;have n9:=hB9.next;have n10:m.next<=M9.next:=by omega
    simp only[XX,yA];exact(bE Lx.refl (Fd.of_nx hNM) hB9).raw
   ·have d11:=decide_eq_false (show¬(F.length:Int)=0 by omega);rw[show zbI X i n a0 a1 a2 F=zEn X i x (F.getD 0 0) by unfold zbI;rw[if_neg e6,ho];simp[c10,hF0]];obtain⟨b9,c9,cs9,rfl,z1,z2,z3,z4⟩:=hsl.cons (by omega);obtain⟨F0,eF0⟩:∃k,k=F.getD 0 0:=⟨_,rfl⟩;have hF08:F0<8:=by rw[eF0];exact hFm _ (zax (by omega))
    have q0:cs9.nth 0=some (In F0):=by rw[zbV (by omega),z4 0 (by simp;omega),eF0,gD',gM',gD',gE' (by omega)];rfl
    rw[<-eF0];have gF:(0:Int)<(F.length:Int):=by omega
    have gF0:(0:Int)<=(F0:Int):=by omega
    have gF1:(F0:Int)<((8:Nat):Int):=by omega
    have kF:52+(F0+1)<=cp.n:=by rw[p2.n];omega
    have cvF:∀M,zbU EE.P 3 36 (In (F0:Int)) M=some (Um (BitVec.ofNat 32 F0)):=λM=>zcz (by omega);have npx:¬L.p i=L.x x:=h.p_x hi hx;have nb9:∀{y:Nat},L.D y->¬b9=y:=λhy e=>hvD b9 rfl (by rw[e];exact hy);have nbx:¬b9=L.x x:=nb9 (h.dm _ (h.mx hx));have nbp:¬b9=L.p i:=nb9 (h.dm _ (h.mp hi));simp only[XX,XY,zof,yA,yB,yC,nx,t0,g0,d6,d7,d8,d9,d10,d11,hlenF,x2.refs,kX,z1,q0,gF,gF0,gF1,kF,cvF,npx,nbx,nbp,h1M,x1,zc9,lA];have A1:FAt _ L (zo3 X x):=hAM.s_xrefs hx x1 (x:=IntKind.i64.wrap ((X.x x).refs+1));have B1:=hAM.be_x hFM hx (x2.w_refs (x:=IntKind.i64.wrap ((X.x x).refs+1)));have hp:=p2.s_fds (k:=F0) hF08 (x:=some x);have A2:=A1.put_p hi hp;have B2:=A1.be_p B1.fresh hi hp;refine cX (zaL (v:=BitVec.ofNat 32 F0) (A2.bump 71) B2.fresh.bump (((htM.put (h.d64 _ (h.dm _ (h.mx hx)))).put (h.d64 _ (h.dm _ (h.mp hi)))).bump _) (by rw[sL];exact hi) (show X.seen.length<100000 by omega)) λu M9 hB9=>?_;have hB9:=hB9.of_bump;have n9:=hB9.next;rw[nP,nP] at n9;have n10:m.next<=M9.next:=by omega
    simp only[XX,yA];exact(bE Lx.refl (Fd.of_nx hNM) (bE Lx.refl (Fd.own hAM hFM (h.mx hx)) (bE Lx.refl (Fd.own A1 B1.fresh (h.mp hi)) hB9))).raw
  ·have c7:=of_decide_eq_false d7;have c8:=of_decide_eq_false d8;have c9:=of_decide_eq_false d9;have c10:=of_decide_eq_false d10;rw[show zbI X i n a0 a1 a2 F=zaZ X i 9 by unfold zbI;rw[if_neg e6,ho];simp[c7,c8,c9,c10]];simp only[XX,XY,zof,yA,yB,yC,nx,d6,d7,d8,d9,d10,zc9,lA];refine cX (hB _ _) λu M9 hB9=>?_;have hB9:=hB9.of_bump;have n9:=hB9.next;have n10:m.next<=M9.next:=by omega
   simp only[XX,yA];exact(bE Lx.refl (Fd.of_nx hNM) hB9).raw
end
section
variable{m m' M mr:Mem}{n:Nat}{L L' L1 L2:Loc}{X X' X1 X2 Y W:St}{v:Value}{fl:List Value}{pid:Int}
def ziP(X:St)(i:Nat)(s:Sg):St:={X with P:=X.P.set i {X.p i with sig:=s}}
def zkq(X:St)(i:Nat)(w:BitVec 32)(s:Sg)(e:Int):St:=if e=0 then zar (ziP X i s) i w else zaZ X i 22
theorem zsw(h:FAt m L X)(hm:zad m)(ht:Tb m){i:Nat}(hi:i<X.P.length)(hs:X.seen.length<99999){w:BitVec 32}{s:Sg}(h16:s.h.length=16){e:Int}:∃u m',Con EE.P 184 [PT (L.p i),Um w,SgV s,In e] m u m'∧Be m L (zkq X i w s e) m':=by
 refine Con.raw zai zGW (bA rfl) _ ?_;have ho:= @zbv s;have hl:=za6 h16;have hsb:=zfK h16;have hlt:=h.ids_lt (h.mp hi);by_cases e0:e=0
 ·have d0:=decide_eq_true e0;obtain⟨cs,h1,h2⟩:=h.pr i hi;have ne1:¬L.p i=m.next:=by omega
  have ne2:¬m.next=L.p i:=by omega
  have k1:27+19<=cs.n:=by rw[h2.n];decide
  have hp:=h2.w_sig (x:=s) hl h16;have A1:FAt (m.put m.next (.cells (ofL (sgL s)) true 0)) L X:=h.new' (j:=0);have F2:∀k,1<=k->Fd L.D m (((m.put m.next (.cells (ofL (sgL s)) true 0)).put (L.p i) (.cells (cs.write 27 (sgL s)) true 0)).bump k):=λk hk=>Pu.fd (j:=1) (Pu.own h (h.mp hi) (Pu.new (Pu.refl hm) (by omega))) hm hk;simp only[XX,XY,zHE,yA,yB,yC,ho,hl,hsb,d0,h1,ne1,k1];refine cX (zaL (v:=w) ((A1.put_p hi hp).bump _) (F2 _ (by omega)).fresh (((ht.put (by have:=hm.n64;omega)).put (h.d64 _ (h.dm _ (h.mp hi)))).bump _) (by simpa using hi) (show X.seen.length<100000 by omega)) λu M hB=>?_;have nx:=hB.of_bump.next;simp only[nP] at nx;simp only[XX,yA];refine zcY.fin ?_ (bE Lx.refl (F2 _ (by omega)) hB);unfold zkq;rw[if_pos e0];rfl
 ·have d0:=decide_eq_false e0;simp only[XX,XY,zHE,yA,yB,yC,d0];refine cX (za1 ((h.new' (j:=0)).bump _) (⟨by(try simp only[bN,nP]);omega,zad.of_low (by have:=hm.n64;(try simp only[bN,nP]);omega) (by repeat(first|exact Low.of hm nO|refine Low.put ?_ nO|refine Low.bump ?_)),λy hy=>by simp only[gB,gP,zbL hy,if_false]⟩:Nx m _).fresh ((ht.put (by have:=hm.n64;omega)).bump _) hi (show X.seen.length<100000 by omega)) λu M hB=>?_;have nx:=hB.of_bump.next;simp only[nP] at nx;simp only[XX,yA];refine zcY.fin ?_ (bE Lx.refl (Fd.of_nx ⟨by(try simp only[bN,nP]);omega,zad.of_low (by have:=hm.n64;(try simp only[bN,nP]);omega) (by repeat(first|exact Low.of hm nO|refine Low.put ?_ nO|refine Low.bump ?_)),λy hy=>by simp only[gB,gP,zbL hy,if_false]⟩) hB);unfold zkq;rw[if_neg e0]
def zsQ(X:St)(i:Nat)(pid:Int)(g:BitVec 32):St:=if 15<g.toNat then zaZ X i 22 else if zbO X pid=none then zaZ X i 3 else if 0<g.toNat then zeO (zar X i 0#32) pid g.toNat else zar X i 0#32
theorem zyp(h:FAt m L X)(hm:zad m)(ht:Tb m)(hg:GX X){i:Nat}(hi:i<X.P.length)(hs:X.seen.length<99990)(hf:X.fut.length<99990){g:BitVec 32}:∃u m',Con EE.P 182 [PT (L.p i),In pid,Um g] m u m'∧Be m L (zsQ X i pid g) m':=by
 refine Con.raw zai zGH (bA rfl) _ ?_;have hlt:=h.ids_lt (h.mp hi);have hB:∀K (c:Int),∃u m',Con EE.P 87 [PT (L.p i),In c] (m.bump K) u m'∧Be (m.bump K) L (zaZ X i c) m':=λK c=>za1 (h.bump _) hm.bump (ht.bump _) hi (Nat.lt_trans hs (by decide));unfold zsQ;by_cases hc:15<g.toNat
 ·have d1:=decide_eq_true (show(15:Int)<(g.toNat:Int) by omega);rw[if_pos hc];simp only[XX,XY,zAc,yA,yB,yC,d1];refine cX (hB _ _) λu M hB'=>?_;have hB2:=hB'.of_bump;have nx:=hB2.next;simp only[XX,yA];exact hB2.raw
 have d1:=decide_eq_false (show¬(15:Int)<(g.toNat:Int) by omega);rw[if_neg hc];obtain⟨cs,h1,h2⟩:=h.pr i hi;simp only[XX,XY,zAc,yA,yB,yC,d1,h1,h2.f];refine cZ (zf6 (h.bump _) hg) ?_;cases hl:zbO X pid with
 |none=>rw[if_pos rfl];simp only[XX,XY,zAc,yA,yB,yC,pV];refine cX (hB _ _) λu M hB'=>?_;have hB2:=hB'.of_bump;have nx:=hB2.next;simp only[XX,yA];exact hB2.raw
 |some j=>
  rw[if_neg (by simp)];simp only[XX,XY,zAc,yA,yB,yC,pV];refine cX (zaL (v:=0#32) (h.bump _) hm.bump (ht.bump _) hi (show X.seen.length<100000 by omega)) λu M hB1=>?_;have hB1:=hB1.of_bump;have n1:=hB1.next;obtain⟨L1,a1,x1,f1⟩:=id hB1;have S1:=Sh.answer (v:=0#32) hg hi;by_cases hc2:0<g.toNat
  ·have d2:=decide_eq_true (show(0:Int)<(g.toNat:Int) by omega);rw[if_pos hc2];have e1f:L1.f=L.f:=x1.f;obtain⟨c1,y1,y2⟩:=a1.pr i (lL hi S1.P);have e1p:L1.p i=L.p i:=x1.p (by rw[h.lP];exact hi);rw[e1p] at y1;have sF:(zar X i 0#32).fut.length<=X.fut.length:=lR' _;have sN:=S1.sn;simp only[XX,XY,zAc,yA,yB,yC,n1,d2,y1,y2.f,e1f,zdr,lA];refine cX (by rw[<-e1f];exact ziV (a1.bump _) f1.fresh.bump ((hB1.tb h hm ht).bump _) S1.gx (by omega) (by omega)) λu M9 hB9=>?_;have hB9:=hB9.of_bump;have n9:=hB9.next;have n10:m.next<=M9.next:=by omega
   simp only[XX,yA];exact(bE x1 f1 hB9).raw
  ·have d2:=decide_eq_false (show¬(0:Int)<(g.toNat:Int) by omega);rw[if_neg hc2];simp only[XX,XY,zAc,yA,yB,yC,n1,d2];exact(hB1.bump _).raw
end
section
variable{m m' M mr:Mem}{n:Nat}{L L' L1 L2:Loc}{X X' X1 X2 Y W:St}{v:Value}{fl:List Value}{pid:Int}
def smW(a:BitVec 32):BitVec 32:=if 2147483647<a.toNat then 2147483647#32 else a
theorem zDB{a:BitVec 32}:zAk EE.P (Um a) (.int .u32 2147483647)=some (Um (smW a)):=by
 rw[zwM];unfold smW;by_cases c:2147483647<a.toNat
 ·rw[if_pos c,if_pos (by omega)];rfl
 ·rw[if_neg c,if_neg (by omega)]
theorem zDx{s:Sg}{x:BitVec 32}(h:s.h.length=16):(zcF s x).2.1.h.length=16:=by unfold zcF;split<;>exact h
theorem zCJ{s:Sg}{g:Int}{x:BitVec 32}(h:s.h.length=16):(zci s g x).2.1.h.length=16:=by
 unfold zci;split
 ·show(s.h.set _ _).length=16;rw[sL];exact h
 ·exact h
theorem zHo{s:Sg}(h:s.h.length=16):(zef s).1.h.length=16:=by unfold zef;split<;>exact h
def zEg(X:St)(i:Nat):St:=if(zef (X.p i).sig).2=0 then{X with P:=X.P.set i {X.p i with sig:=(zef (X.p i).sig).1,cpu:=(X.p i).saved,saved:=zov}} else zaZ X i 22
def zpa(X:St)(i:Nat)(n:Int)(a0 a1:BitVec 32):St:=if n=11 then zsQ X i (smW a0).toNat a1
 else if n=12 then zkq X i (zcF (X.p i).sig a0).1 (zcF (X.p i).sig a0).2.1 (zcF (X.p i).sig a0).2.2
 else if n=13 then zkq X i (zci (X.p i).sig (smW a0).toNat a1).1 (zci (X.p i).sig (smW a0).toNat a1).2.1 (zci (X.p i).sig (smW a0).toNat a1).2.2 else zEg X i
theorem zxI(h:FAt m L X)(hm:zad m)(ht:Tb m)(hg:GX X){i:Nat}(hi:i<X.P.length)(hs:X.seen.length<99980)(hf:X.fut.length<99980){n:Int}{a0 a1 a2:BitVec 32}:∃u m',Con EE.P 131 [PT (L.p i),In n, .agg [Um a0,Um a1,Um a2].toArray] m u m'∧Be m L (zpa X i n a0 a1) m':=by
 refine Con.raw zai zFW (bA rfl) _ ?_;have t0:Int.toNat 0=0:=rfl;have t1:Int.toNat 1=1:=rfl;have g0:(0:Int)<=0:=by decide
 have g1:(0:Int)<=1:=by decide
 have i0:(0:Int)<((3:Nat):Int):=by decide
 have i1:(1:Int)<((3:Nat):Int):=by decide
 have h64:=hm.n64;have hmn:=zDB (a:=a0);have hN1:∀(o1:zaS) (k:Nat),1<=k->Nx m ((m.put m.next o1).bump k):=λo1 k hk=>⟨by(try simp only[bN,nP]);omega,zad.of_low (by have:=hm.n64;(try simp only[bN,nP]);omega) (by repeat(first|exact Low.of hm nO|refine Low.put ?_ nO|refine Low.bump ?_)),λy hy=>by simp only[gB,gP,zb3 hy,if_false]⟩;obtain⟨cs,h1,h2⟩:=h.pr i hi;have hlt:=h.ids_lt (h.mp hi);have ne1:¬L.p i=m.next:=by omega
 have ne2:¬m.next=L.p i:=by omega
 have ne3:∀j,¬L.p i=m.next+j:=λj=>by omega
 have ne4:∀j,¬m.next+j=L.p i:=λj=>by omega
 have h16:=h2.okh;have hh:=h2.sig;have ho:= @zbv (X.p i).sig;have hl:=za6 h16;have q1:= @zq1;have q2:= @zAF;have q3:= @zwL;unfold zpa;by_cases c11:n=11
 ·have d11:=decide_eq_true c11;rw[if_pos c11];simp only[XX,XY,zvP,yA,yB,yC,t0,t1,g0,g1,i0,i1,d11,zn0,hmn,zdr];refine cX (zyp (h.nx (hN1 _ _ (by omega))) (hN1 _ _ (by omega)).fresh (ht.nx hm (hN1 _ _ (by omega))) hg hi (by omega) (by omega)) λu M hB=>?_;have nx:=hB.of_bump.next;simp only[nP] at nx;simp only[XX,yA];exact(bE Lx.refl (Fd.of_nx (hN1 _ _ (by omega))) hB).raw
 have d11:=decide_eq_false c11;rw[if_neg c11];by_cases c12:n=12
 ·have d12:=decide_eq_true c12;rw[if_pos c12];simp only[XX,XY,zvP,yA,yB,yC,t0,g0,i0,d11,d12,zn0,hmn,zdr,h1,hh,ne1];refine cZ (zBf h16) ?_;have h16':=zDx (x:=a0) h16;have ho':= @zbv (zcF (X.p i).sig a0).2.1;have hl':=za6 h16';have hw':∀c:Cells,c.n=19->(c.write 0 (sgL (zcF (X.p i).sig a0).2.1)).sub 0 19=some (sgL (zcF (X.p i).sig a0).2.1):=λc hc=>zes h16' hc;simp only[XX,XY,zvP,yA,yB,yC,ho',hl',hw'];refine CallI.gen (λM=>Nx m M) (nX hm) λM hN=>?_;refine cX (zsw (h.nx hN) hN.fresh (ht.nx hm hN) hi (by omega) h16') λu M' hB=>?_;have nx:=lT hN.next hB.next;simp only[XX,yA];exact(bE Lx.refl (Fd.of_nx hN) hB).raw
 have d12:=decide_eq_false c12;rw[if_neg c12];by_cases c13:n=13
 ·have d13:=decide_eq_true c13;rw[if_pos c13];simp only[XX,XY,zvP,yA,yB,yC,t0,t1,g0,g1,i0,i1,d11,d12,d13,zn0,hmn,zdr,h1,hh,ne1];refine cZ (zDU h16) ?_;have h16':=zCJ (g:=(smW a0).toNat) (x:=a1) h16;have ho':= @zbv (zci (X.p i).sig (smW a0).toNat a1).2.1;have hl':=za6 h16';have hw':∀c:Cells,c.n=19->(c.write 0 (sgL (zci (X.p i).sig (smW a0).toNat a1).2.1)).sub 0 19=some (sgL (zci (X.p i).sig (smW a0).toNat a1).2.1):=λc hc=>zes h16' hc;simp only[XX,XY,zvP,yA,yB,yC,ho',hl',hw'];refine CallI.gen (λM=>Nx m M) (nX hm) λM hN=>?_;refine cX (zsw (h.nx hN) hN.fresh (ht.nx hm hN) hi (by omega) h16') λu M' hB=>?_;have nx:=lT hN.next hB.next;simp only[XX,yA];exact(bE Lx.refl (Fd.of_nx hN) hB).raw
 have d13:=decide_eq_false c13;rw[if_neg c13];simp only[XX,XY,zvP,yA,yB,yC,t0,g0,i0,d11,d12,d13,zn0,hmn,zdr,h1,hh,ne1];refine cZ (zEC h16) ?_;have h16':=zHo h16;have ho':= @zbv (zef (X.p i).sig).1;have hl':=za6 h16';have hw':∀c:Cells,c.n=19->(c.write 0 (sgL (zef (X.p i).sig).1)).sub 0 19=some (sgL (zef (X.p i).sig).1):=λc hc=>zes h16' hc;unfold zEg;by_cases c0:(zef (X.p i).sig).2=0
 ·have d0:=decide_eq_true c0;rw[if_pos c0];have b0:zaT EE.P 47 []=some (.agg (zbm zov).toArray):=kr;have h11:(zbm zov).length=11:=rfl;have o1:= @zdQ;have h12:=zcy h2.oks;have k1:27+19<=cs.n:=by rw[h2.n];decide
  have k2:5+11<=cs.n:=by rw[h2.n];decide
  have k3:16+11<=cs.n:=by rw[h2.n];decide
  have sv:=h2.saved;have q4:= @zlr;have hp:=((h2.w_sig (x:=(zef (X.p i).sig).1) hl' h16').w_cpu (x:=(X.p i).saved) h12 h2.oks).w_saved (x:=zov) h11 zf9;simp only[XX,XY,zvP,yA,yB,yC,d0,h1,ne1,ne3,ho',hl',hw',b0,h11,o1,h12,k1,k2,k3,sv];refine zcY.fin rfl ⟨L,h.upd_p hi hp nO gA (λy hy hne=>(by have:=h.lt y hy;(simp only[gB,gP];repeat(first|rw[if_neg (by omega)]|rw[if_pos trivial]|rw[if_pos (by omega)])))),Lx.refl,Pu.fd (j:=22) (Pu.own h (h.mp hi) (Pu.own h (h.mp hi) (Pu.own h (h.mp hi) (Pu.new (Pu.new (Pu.new (Pu.refl hm) (by omega)) (by omega)) (by omega))))) hm (by omega)⟩
 ·have d0:=decide_eq_false c0;rw[if_neg c0];simp only[XX,XY,zvP,yA,yB,yC,d0,ho',hl'];refine CallI.gen (λM=>Nx m M) (nX hm) λM hN=>?_;refine cX (za1 (h.nx hN) hN.fresh (ht.nx hm hN) hi (show X.seen.length<100000 by omega)) λu M' hB=>?_;have nx:=lT hN.next hB.next;simp only[XX,yA];exact(bE Lx.refl (Fd.of_nx hN) hB).raw
end
section
variable{m:Mem}{w:BitVec 32}
def i16(w:BitVec 32):Int:=IntKind.i16.wrap (w.toNat:Int)
theorem zq2: -32768<=i16 w∧i16 w<=32767:=by have:=w.isLt;unfold i16 IntKind.wrap;simp only[IntKind.signed,IntKind.bits];simp;split<;>omega
def zyw(w:BitVec 32):Ins:=⟨((w>>>24).toNat:Int),((w>>>20&&&15#32).toNat:Int),((w>>>16&&&15#32).toNat:Int),i16 w⟩
def zwG:Ins:=⟨0,0,0,0⟩
def zc6(w:BitVec 32):Option Ins:=if zfs (zyw w) then some (zyw w) else none
theorem zrq(ht:m.get 0=some (.cells (.ofList zcp) false 1)):Con EE.P 170 [Um w] m (.tuple [.agg (zbx ((zc6 w).getD zwG)).toArray,In (if(zc6 w).isSome then 0 else 30)].toArray) m:=by
 refine Con.of zai zHl (bA rfl) Grow.rfl λhm=>?_;have h64:=hm.n64;have s24:∀{P ty},zcG P .shr ty (Um w) (.int .u64 24)=some (Um (w>>>24)):=zfz (by decide);have s20:∀{P ty},zcG P .shr ty (Um w) (.int .u64 20)=some (Um (w>>>20)):=zfz (by decide);have s16:∀{P ty},zcG P .shr ty (Um w) (.int .u64 16)=some (Um (w>>>16)):=zfz (by decide);have wi:∀x:BitVec 32,IntKind.i64.wrap (x.toNat:Int)=(x.toNat:Int):=λx=>zae (by omega) (by have:=x.isLt;omega);have w16:IntKind.i64.wrap (IntKind.i16.wrap (w.toNat:Int))=i16 w:=zae (by have:= @zq2 w;unfold i16 at this;omega) (by have:= @zq2 w;unfold i16 at this;omega);have hw4:= @zbl;have b1:∀a b c d:Int,zaT EE.P 237 [(0,In a),(1,In b),(2,In c),(3,In d)]=some (.agg [In a,In b,In c,In d].toArray):=λa b c d=>by kernel_rfl
 have b0:zaT EE.P 237 []=some (.agg [In 0,In 0,In 0,In 0].toArray):=kr;simp only[XX,XY,zHp,yA,yB,yC,XG,s24,s20,s16,wi,w16,zBZ,b1,zbl];refine cZ (ztO (x:=zyw w) ?_ (Int.natCast_nonneg _) (Int.natCast_nonneg _) (Int.natCast_nonneg _) zq2) ?_
 ·simp only[gB,gP]
  repeat rw[if_neg (by omega)]
  exact ht
 ·by_cases hc:zfs (zyw w)=true
  ·have e:zc6 w=some (zyw w):=by unfold zc6;rw[if_pos hc]
   rw[e,hc];simp only[XX,XY,zHp,yA,yB,yC,XG,zbl];exact tP rfl λy hy=>by simp only[gB,gP];repeat rw[if_neg (by omega)]
  ·have e:zc6 w=none:=by unfold zc6;rw[if_neg hc]
   have hc:zfs (zyw w)=false:=by simpa using hc
   rw[e,hc];simp only[XX,XY,zHp,yA,yB,yC,yH,zbl,b0,Option.getD_none,Option.isSome_none];exact tP rfl λy hy=>by simp only[gB,gP];repeat rw[if_neg (by omega)]
end
section
variable{m m' M:Mem}{x:Ins}{c:Cpu}{pb:Nat}{cs:Cells}
structure CpC(c:Cpu)(cs:Cells):Prop where
 n:cs.n=11
 l:cs.sub 0 11=some (zbm c)
 ok:c.ok0
theorem CpC.pc(h:CpC c cs):cs.nth 10=some (Um c.pc):=by have:=zcw (k:=10) h.l (by decide);rw[show 0+10=10 from rfl] at this;rw[this];unfold zbm;rw[aC' (by simp[h.ok.1,h.ok.2])];simp[h.ok.1,h.ok.2]
theorem CpC.reg(h:CpC c cs){k:Nat}(hk:k<8):cs.nth k=some (Um (c.r.getD k 0#32)):=by have h1:=zcw (k:=k) h.l (by omega);rw[Nat.zero_add] at h1;have h8:=h.ok.1;rw[h1];unfold zbm;rw[aA,aB' (by rw[lM];omega),gM',gD',gE' (by omega)];rfl
theorem CpC.setr(h:CpC c cs){k:Nat}(hk:k<8){v:BitVec 32}:CpC {c with r:=c.r.set k v} (cs.write k [Um v]):=by refine⟨by rw[zap,h.n],?_,by show(c.r.set k v).length=8;rw[sL];exact h.ok.1,h.ok.2⟩;have h1:=zaU (k:=k) (v:=Um v) h.l (by omega);rw[Nat.zero_add] at h1;rw[h1];congr 1;unfold zbm;rw[aA,List.set_append_left _ _ (by rw[lM,h.ok.1];exact hk),aA];show List.set (c.r.map Um) k (Um v)++_=(c.r.set k v).map Um++_;rw[List.map_set]
theorem CpC.setpc(h:CpC c cs){v:BitVec 32}:CpC {c with pc:=v} (cs.write 10 [Um v]):=by refine⟨by rw[zap,h.n],?_,h.ok⟩;have h1:=zaU (k:=10) (v:=Um v) h.l (by omega);rw[Nat.zero_add] at h1;rw[h1];congr 1;unfold zbm;rw[List.set_append_right _ _ (by simp[h.ok.1,h.ok.2])];simp[h.ok.1,h.ok.2]
structure CpW(m:Mem)(pb:Nat)(c:Cpu)(m':Mem):Prop where
 next:m.next<=m'.next
 fresh:zad m'
 cell:∃cs,m'.get pb=some (.cells cs true 0)∧CpC c cs
 old:∀y,y<m.next->y≠pb->m'.get y=m.get y
theorem CpW.raw{u:Value}{p:BitVec 32}(hp:m.get pb=some (.cells cs true 0))(h:CpW m pb c m')(hu:u=Um p):zcY m m' u λu m'=>u=Um p∧CpW m pb c m':=
 ⟨⟨h.next,λy hy e=>by rw[h.old y hy (λe2=>by rw[e2,hp] at e;cases e),e]⟩,hu,h⟩
def zcj(x:Ins)(c:Cpu):BitVec 32×Cpu:=
 let next:=c.pc+4#32
 let far:=next+4#32*w32 x.imm
 let a:=c.r.getD x.a.toNat 0#32
 if x.op=23 then(a,c) else if x.op=22 then(far,{c with r:=c.r.set x.a.toNat next})
 else if x.op=19∨(x.op=20∧a=0#32)∨(x.op=21∧¬a=0#32) then(far,c) else(next,c)
theorem zmE{a:BitVec 32}:IntKind.u32.wrap ((a.toNat:Int)+4)=((a+4#32).toNat:Int):=zcH (b:=4#32)
theorem zwx{a:BitVec 32}:IntKind.u32.wrap (4*(a.toNat:Int))=((4#32*a).toNat:Int):=zAZ (a:=4#32)
theorem eq0{a:BitVec 32}:decide ((a.toNat:Int)=0)=decide (a=0#32):=zHN (b:=0#32)
theorem zzp(hm:zad m)(hp:m.get pb=some (.cells cs true 0))(hc:CpC c cs)(h0:0<=x.a)(h8:x.a<8):∃u m',Con EE.P 127 [.agg (zbx x).toArray,PT pb] m u m'∧u=Um (zcj x c).1∧CpW m pb (zcj x c).2 m':=by
 obtain⟨op,xa,xb,imm⟩:=x;simp only at h0 h8;refine Con.raw zai zGF (bA rfl) _ ?_;have hl:=hm.lt hp;have ne1:∀j,¬pb=m.next+j:=λj=>by omega
 have ne2:∀j,¬m.next+j=pb:=λj=>by omega
 have ne3:¬pb=m.next:=by omega
 have ne4:¬m.next=pb:=by omega
 have g2:xa<((8:Nat):Int):=by omega
 have hr:=hc.reg (k:=xa.toNat) (by omega);have hpc:=hc.pc;have ww:IntKind.u32.wrap imm=((w32 imm).toNat:Int):=zaR;have fr:∀o c1 j,zad (((m.put m.next o).put pb c1).bump (j+1)):=λo c1 j=>zad.of_low (by have:=hm.n64;simp only[bN,nP];omega) (Low.bump (Low.put (Low.put (Low.of hm nO) nO) nO));have base:∀o j,CpW m pb c ((m.put m.next o).bump (j+1)):=λo j=>⟨nO,zad.of_low (by have:=hm.n64;simp only[bN,nP];omega) (Low.bump (Low.put (Low.of hm nO) nO)),⟨cs,by rw[gB,gP,if_neg ne3];exact hp,hc⟩,λy hy _=>by rw[gB,gP,if_neg (by omega)]⟩;have fin:∀(p:BitVec 32) o j,zcj ⟨op,xa,xb,imm⟩ c=(p,c)->zcY m ((m.put m.next o).bump (j+1)) (Um p) λu m'=>u=Um (zcj ⟨op,xa,xb,imm⟩ c).1∧CpW m pb (zcj ⟨op,xa,xb,imm⟩ c).2 m':=λp o j e=>by rw[e];exact CpW.raw hp (base o j) rfl
 by_cases e23:op=23
 ·subst e23;have ej:zcj ⟨23,xa,xb,imm⟩ c=(c.r.getD xa.toNat 0#32,c):=rfl;simp only[XX,XY,zvL,yA,yB,yC,XG,zbx,hp,ne3,h0,g2,hr,hpc,ww,zmE,zwx,zcH,Nat.reduceAdd];exact fin _ _ _ ej
 by_cases e22:op=22
 ·subst e22;have ej:zcj ⟨22,xa,xb,imm⟩ c=(c.pc+4#32+4#32*w32 imm,{c with r:=c.r.set xa.toNat (c.pc+4#32)}):=rfl;have hk:xa.toNat+1<=cs.n:=by rw[hc.n];omega
  simp only[XX,XY,zvL,yA,yB,yC,yH,XG,zbx,hp,ne3,h0,g2,hr,hpc,ww,zmE,zwx,zcH,hk];rw[ej];refine CpW.raw hp ⟨nO,fr _ _ _,⟨_,by rw[gB,gP,if_pos rfl],hc.setr (by omega)⟩,λy hy e=>by rw[gB,gP,if_neg e,gP,if_neg (by omega)]⟩ rfl
 by_cases e19:op=19
 ·subst e19;have ej:zcj ⟨19,xa,xb,imm⟩ c=(c.pc+4#32+4#32*w32 imm,c):=rfl;simp only[XX,XY,zvL,yA,yB,yC,yH,XG,zbx,hp,ne3,h0,g2,hr,hpc,ww,zmE,zwx,zcH,Nat.reduceAdd];exact fin _ _ _ ej
 by_cases e20:op=20
 ·subst e20;by_cases hz:c.r.getD xa.toNat 0#32=0#32
  ·have ej:zcj ⟨20,xa,xb,imm⟩ c=(c.pc+4#32+4#32*w32 imm,c):=by unfold zcj;dsimp only;rw[if_neg (by decide),if_neg (by decide),if_pos (.inr (.inl ⟨rfl,hz⟩))]
   have hd:=decide_eq_true hz;simp only[XX,XY,zvL,yA,yB,yC,yH,XG,zbx,hp,ne3,h0,g2,hr,hpc,ww,zmE,zwx,zcH,eq0,hd];exact fin _ _ _ ej
  ·have ej:zcj ⟨20,xa,xb,imm⟩ c=(c.pc+4#32,c):=by unfold zcj;dsimp only;rw[if_neg (by decide),if_neg (by decide),if_neg (λh=>by rcases h with h|⟨_,h⟩|⟨h,_⟩<;>first|exact hz h|exact absurd h (by decide))]
   have hd:=decide_eq_false hz;simp only[XX,XY,zvL,yA,yB,yC,yH,XG,zbx,hp,ne3,h0,g2,hr,hpc,ww,zmE,zwx,zcH,eq0,hd];exact fin _ _ _ ej
 by_cases e21:op=21
 ·subst e21;by_cases hz:c.r.getD xa.toNat 0#32=0#32
  ·have ej:zcj ⟨21,xa,xb,imm⟩ c=(c.pc+4#32,c):=by unfold zcj;dsimp only;rw[if_neg (by decide),if_neg (by decide),if_neg (λh=>by rcases h with h|⟨h,_⟩|⟨_,h⟩<;>first|exact h hz|exact absurd h (by decide))]
   have hd:=decide_eq_true hz;simp only[XX,XY,zvL,yA,yB,yC,yH,XG,zbx,hp,ne3,h0,g2,hr,hpc,ww,zmE,zwx,zcH,eq0,hd];exact fin _ _ _ ej
  ·have ej:zcj ⟨21,xa,xb,imm⟩ c=(c.pc+4#32+4#32*w32 imm,c):=by unfold zcj;dsimp only;rw[if_neg (by decide),if_neg (by decide),if_pos (.inr (.inr ⟨rfl,hz⟩))]
   have hd:=decide_eq_false hz;simp only[XX,XY,zvL,yA,yB,yC,yH,XG,zbx,hp,ne3,h0,g2,hr,hpc,ww,zmE,zwx,zcH,eq0,hd];exact fin _ _ _ ej
 ·have ej:zcj ⟨op,xa,xb,imm⟩ c=(c.pc+4#32,c):=by unfold zcj;simp[e23,e22,e19,e20,e21]
  simp only[XX,XY,zvL,yA,yB,yC,XG,zbx,hp,ne3,h0,g2,hr,hpc,ww,zmE,zwx,zcH,e23,e22,e19,e20,e21];exact fin _ _ _ ej
end
section
variable{m m' M:Mem}{x:Ins}{c:Cpu}{pb:Nat}{cs:Cells}
abbrev Cpu.zg(c:Cpu)(k:Nat):Int×Int:=c.z.getD k (0,0)
theorem CpC.zr(h:CpC c cs){k:Nat}(hk:k<2):cs.nth (8+k)=some (zV (c.zg k)):=by
 have h1:=zcw (k:=8+k) h.l (by omega);rw[Nat.zero_add] at h1;rw[h1];unfold zbm;have e1:(c.r.map Um).length=8:=by rw[lM];exact h.ok.1
 have h2:=h.ok.2;rw[aA,aC' (by omega),e1,aB' (by rw[lM];omega),gM',show 8+k-8=k by omega];show _=some (zV (c.z.getD k (0,0)));rw[gD',gE' (by omega)];rfl
theorem CpC.setz(h:CpC c cs){k:Nat}(hk:k<2){v:Int×Int}:CpC {c with z:=c.z.set k v} (cs.write (8+k) [zV v]):=by
 refine⟨by rw[zap,h.n],?_,h.ok.1,by show(c.z.set k v).length=2;rw[sL];exact h.ok.2⟩;have h1:=zaU (k:=8+k) (v:=zV v) h.l (by omega);rw[Nat.zero_add] at h1;rw[h1];congr 1;unfold zbm;have e1:(c.r.map Um).length=8:=by rw[lM];exact h.ok.1
 have h2:=h.ok.2;rw[aA,List.set_append_right _ _ (by omega),e1,show 8+k-8=k by omega,List.set_append_left _ _ (by rw[lM];omega),aA];show _++(List.set (c.z.map zV) k (zV v)++_)=_++((c.z.set k v).map zV++_);rw[List.map_set]
def Cpu.zok(c:Cpu):Prop:=∀k,k<2->Zin (c.zg k)
def zby(x:Ins)(c:Cpu):Cpu:=
 let a:=c.zg x.a.toNat
 let b:=c.zg x.b.toNat
 if x.op=25 then{c with z:=c.z.set x.a.toNat (zbK (s32 (c.r.getD x.b.toNat 0#32)),zbK (s32 (c.r.getD (x.b.toNat+1) 0#32)))}
 else if x.op=26 then{c with r:=(c.r.set x.b.toNat (w32 a.1)).set (x.b.toNat+1) (w32 a.2)}
 else if x.op=27 then{c with z:=c.z.set x.a.toNat (zbK (a.1+b.1),zbK (a.2+b.2))}
 else if x.op=28 then{c with z:=c.z.set x.a.toNat (zbK (a.1*b.1-a.2*b.2),zbK (a.1*b.2+a.2*b.1))}
 else{c with z:=c.z.set x.a.toNat (zbK a.1,zbK (-a.2))}
theorem zhq{z:Int}:EE.eqv (In z) (In z)=true:=by show((IntKind.i64==IntKind.i64)&&(z==z))=true;simp
theorem zgB{k:FloatKind}{a b:Nat}:(Value.complex k a b).cells.toList=[.complex k a b]:=rfl
theorem znz{o:zaS}{k j:Nat}{v:Value}{c':Cpu}{u:Value}(hm:zad m)(hp:m.get pb=some (.cells cs true 0))(h:CpC c' (cs.write k [v])):zcY m (((m.put m.next o).put pb (.cells (cs.write k [v]) true 0)).bump (j+1)) u λ_ m'=>CpW m pb c' m':=by
 have hl:=hm.lt hp;have ne3:¬pb=m.next:=by omega
 have hw:CpW m pb c' (((m.put m.next o).put pb (.cells (cs.write k [v]) true 0)).bump (j+1)):=⟨nO,zad.of_low (by have:=hm.n64;simp only[bN,nP];omega) (Low.bump (Low.put (Low.put (Low.of hm nO) nO) nO)),⟨_,by rw[gB,gP,if_pos rfl],h⟩,λy hy e=>by rw[gB,gP,if_neg e,gP,if_neg (by omega)]⟩;exact⟨⟨hw.next,λy hy e=>by rw[hw.old y hy (λe2=>by rw[e2,hp] at e;cases e),e]⟩,hw⟩
theorem zn9(hm:zad m)(hp:m.get pb=some (.cells cs true 0))(hc:CpC c cs)(hz:c.zok)(e:x.op=27)(a0:0<=x.a)(a2:x.a<2)(b0:0<=x.b)(b2:x.b<2):∃u m',Con EE.P 128 [.agg (zbx x).toArray,PT pb] m u m'∧CpW m pb (zby x c) m':=by
 obtain⟨op,xa,xb,imm⟩:=x;simp only at*
 subst e;refine Con.raw zai zsn (bA rfl) _ ?_;have hl:=hm.lt hp;have ne1:∀j,¬pb=m.next+j:=λj=>by omega
 have ne2:∀j,¬m.next+j=pb:=λj=>by omega
 have ne3:¬pb=m.next:=by omega
 have ne4:¬m.next=pb:=by omega
 have ga:xa<((2:Nat):Int):=by omega
 have gb:xb<((2:Nat):Int):=by omega
 have rb:=hc.zr (k:=xb.toNat) (by omega);have ra:=hc.zr (k:=xa.toNat) (by omega);have ej:zby ⟨27,xa,xb,imm⟩ c={c with z:=c.z.set xa.toNat (zbK ((c.zg xa.toNat).1+(c.zg xb.toNat).1),zbK ((c.zg xa.toNat).2+(c.zg xb.toNat).2))}:=rfl;have hk:8+(xa.toNat+1)<=cs.n:=by rw[hc.n];omega
 rw[ej];have hq:= @zhq;simp only[XX,XY,zti,yA,yB,yC,yH,zbx,hp,ne3,a0,ga,ra,b0,gb,rb];refine cZ (zz8 (hz _ (by omega)) (hz _ (by omega))) ?_;simp only[XX,XY,zti,yA,yB,hp,ne3,a0,ga,hk,hq,zV,zgB];exact znz hm hp (hc.setz (k:=xa.toNat) (by omega))
theorem zoY(hm:zad m)(hp:m.get pb=some (.cells cs true 0))(hc:CpC c cs)(hz:c.zok)(e:x.op=28)(a0:0<=x.a)(a2:x.a<2)(b0:0<=x.b)(b2:x.b<2):∃u m',Con EE.P 128 [.agg (zbx x).toArray,PT pb] m u m'∧CpW m pb (zby x c) m':=by
 obtain⟨op,xa,xb,imm⟩:=x;simp only at*
 subst e;refine Con.raw zai zsn (bA rfl) _ ?_;have hl:=hm.lt hp;have ne1:∀j,¬pb=m.next+j:=λj=>by omega
 have ne2:∀j,¬m.next+j=pb:=λj=>by omega
 have ne3:¬pb=m.next:=by omega
 have ne4:¬m.next=pb:=by omega
 have ga:xa<((2:Nat):Int):=by omega
 have gb:xb<((2:Nat):Int):=by omega
 have rb:=hc.zr (k:=xb.toNat) (by omega);have ra:=hc.zr (k:=xa.toNat) (by omega);have ej:zby ⟨28,xa,xb,imm⟩ c={c with z:=c.z.set xa.toNat (zbK ((c.zg xa.toNat).1*(c.zg xb.toNat).1-(c.zg xa.toNat).2*(c.zg xb.toNat).2),zbK ((c.zg xa.toNat).1*(c.zg xb.toNat).2+(c.zg xa.toNat).2*(c.zg xb.toNat).1))}:=rfl;have hk:8+(xa.toNat+1)<=cs.n:=by rw[hc.n];omega
 rw[ej];have hq:= @zhq;simp only[XX,XY,zti,yA,yB,yC,yH,zbx,hp,ne3,a0,ga,ra,b0,gb,rb];refine cZ (zxC (hz _ (by omega)) (hz _ (by omega))) ?_;simp only[XX,XY,zti,yA,yB,hp,ne3,a0,ga,hk,hq,zV,zgB];exact znz hm hp (hc.setz (k:=xa.toNat) (by omega))
theorem zpp(hm:zad m)(hp:m.get pb=some (.cells cs true 0))(hc:CpC c cs)(hz:c.zok)(e:x.op=29)(a0:0<=x.a)(a2:x.a<2):∃u m',Con EE.P 128 [.agg (zbx x).toArray,PT pb] m u m'∧CpW m pb (zby x c) m':=by
 obtain⟨op,xa,xb,imm⟩:=x;simp only at*
 subst e;refine Con.raw zai zsn (bA rfl) _ ?_;have hl:=hm.lt hp;have ne1:∀j,¬pb=m.next+j:=λj=>by omega
 have ne2:∀j,¬m.next+j=pb:=λj=>by omega
 have ne3:¬pb=m.next:=by omega
 have ne4:¬m.next=pb:=by omega
 have ga:xa<((2:Nat):Int):=by omega
 have ra:=hc.zr (k:=xa.toNat) (by omega);have ej:zby ⟨29,xa,xb,imm⟩ c={c with z:=c.z.set xa.toNat (zbK (c.zg xa.toNat).1,zbK (-(c.zg xa.toNat).2))}:=rfl;have hk:8+(xa.toNat+1)<=cs.n:=by rw[hc.n];omega
 rw[ej];have hq:= @zhq;simp only[XX,XY,zti,yA,yB,yC,yH,zbx,hp,ne3,a0,ga,ra];refine cZ (zzr (hz _ (by omega))) ?_;simp only[XX,XY,zti,yA,yB,hp,ne3,a0,ga,hk,hq,zV,zgB];exact znz hm hp (hc.setz (k:=xa.toNat) (by omega))
theorem zpd(hm:zad m)(hp:m.get pb=some (.cells cs true 0))(hc:CpC c cs)(hz:c.zok)(e:x.op=25)(a0:0<=x.a)(a2:x.a<2)(b0:0<=x.b)(b2:x.b<7):∃u m',Con EE.P 128 [.agg (zbx x).toArray,PT pb] m u m'∧CpW m pb (zby x c) m':=by
 obtain⟨op,xa,xb,imm⟩:=x;simp only at*
 subst e;refine Con.raw zai zsn (bA rfl) _ ?_;have hl:=hm.lt hp;have ne1:∀j,¬pb=m.next+j:=λj=>by omega
 have ne2:∀j,¬m.next+j=pb:=λj=>by omega
 have ne3:¬pb=m.next:=by omega
 have ne4:¬m.next=pb:=by omega
 have ga:xa<((2:Nat):Int):=by omega
 have gb:xb<((8:Nat):Int):=by omega
 have gb1:xb+1<((8:Nat):Int):=by omega
 have b1:0<=xb+1:=by omega
 have wb:IntKind.i64.wrap (xb+1)=xb+1:=zae (by omega) (by omega);have tb:(xb+1).toNat=xb.toNat+1:=by omega
 have r0:=hc.reg (k:=xb.toNat) (by omega);have r1:=hc.reg (k:=xb.toNat+1) (by omega);have ra:=hc.zr (k:=xa.toNat) (by omega);have ej:zby ⟨25,xa,xb,imm⟩ c={c with z:=c.z.set xa.toNat (zbK (s32 (c.r.getD xb.toNat 0#32)),zbK (s32 (c.r.getD (xb.toNat+1) 0#32)))}:=rfl;have hk:8+(xa.toNat+1)<=cs.n:=by rw[hc.n];omega
 rw[ej];have hq:= @zhq;simp only[XX,XY,zti,yA,yB,yC,zbx,hp,ne3,b0,gb,gb1,b1,wb,tb,r0,r1];refine cZ zkR ?_;simp only[XX,XY,zti,yA,yB,hp,ne3,a0,ga,hk,hq,zV,zgB];exact znz hm hp (hc.setz (k:=xa.toNat) (by omega))
end
section
variable{m m' M:Mem}{x:Ins}{c:Cpu}{pb:Nat}{cs:Cells}
theorem zwX{o:zaS}{k k' j:Nat}{v v':Value}{c':Cpu}{u:Value}(hm:zad m)(hp:m.get pb=some (.cells cs true 0))(h:CpC c' ((cs.write k [v]).write k' [v'])):zcY m ((((m.put m.next o).put pb (.cells (cs.write k [v]) true 0)).put pb (.cells ((cs.write k [v]).write k' [v']) true 0)).bump (j+1)) u λ_ m'=>CpW m pb c' m':=by
 have hl:=hm.lt hp;have ne3:¬pb=m.next:=by omega
 have hw:CpW m pb c' ((((m.put m.next o).put pb (.cells (cs.write k [v]) true 0)).put pb (.cells ((cs.write k [v]).write k' [v']) true 0)).bump (j+1)):=⟨nO,zad.of_low (by have:=hm.n64;simp only[bN,nP];omega) (Low.bump (Low.put (Low.put (Low.put (Low.of hm nO) nO) nO) nO)),⟨_,by rw[gB,gP,if_pos rfl],h⟩,λy hy e=>by rw[gB,gP,if_neg e,gP,if_neg e,gP,if_neg (by omega)]⟩;exact⟨⟨hw.next,λy hy e=>by rw[hw.old y hy (λe2=>by rw[e2,hp] at e;cases e),e]⟩,hw⟩
theorem zo8(hm:zad m)(hp:m.get pb=some (.cells cs true 0))(hc:CpC c cs)(hz:c.zok)(e:x.op=26)(a0:0<=x.a)(a2:x.a<2)(b0:0<=x.b)(b2:x.b<7):∃u m',Con EE.P 128 [.agg (zbx x).toArray,PT pb] m u m'∧CpW m pb (zby x c) m':=by
 obtain⟨op,xa,xb,imm⟩:=x;simp only at*
 subst e;refine Con.raw zai zsn (bA rfl) _ ?_;have hl:=hm.lt hp;have ne1:∀j,¬pb=m.next+j:=λj=>by omega
 have ne2:∀j,¬m.next+j=pb:=λj=>by omega
 have ne3:¬pb=m.next:=by omega
 have ne4:¬m.next=pb:=by omega
 have ga:xa<((2:Nat):Int):=by omega
 have gb:xb<((8:Nat):Int):=by omega
 have gb1:xb+1<((8:Nat):Int):=by omega
 have b1:0<=xb+1:=by omega
 have wb:IntKind.i64.wrap (xb+1)=xb+1:=zae (by omega) (by omega);have tb:(xb+1).toNat=xb.toNat+1:=by omega
 have ra:=hc.zr (k:=xa.toNat) (by omega);have ej:zby ⟨26,xa,xb,imm⟩ c={c with r:=(c.r.set xb.toNat (w32 (c.zg xa.toNat).1)).set (xb.toNat+1) (w32 (c.zg xa.toNat).2)}:=rfl;have hk:xb.toNat+1<=cs.n:=by rw[hc.n];omega
 have hk2:xb.toNat+(1+1)<=cs.n:=by rw[hc.n];omega
 rw[ej];have hq:= @zhq;simp only[XX,XY,zti,yA,yB,yC,yH,zbx,hp,ne3,a0,ga,ra];refine cZ (zp6 (hz _ (by omega))) ?_;simp only[XX,XY,zti,yA,yB,yC,hp,ne3,ne4,hq,b0,gb,gb1,b1,wb,tb,hk,hk2];exact zwX hm hp ((hc.setr (k:=xb.toNat) (by omega)).setr (k:=xb.toNat+1) (by omega))
theorem zvk(hm:zad m)(hp:m.get pb=some (.cells cs true 0))(hc:CpC c cs)(hz:c.zok)(e:25<=x.op∧x.op<=29)(a0:0<=x.a)(a2:x.a<2)(b0:0<=x.b)(b2:x.b<7)(b3:x.op=27∨x.op=28->x.b<2):∃u m',Con EE.P 128 [.agg (zbx x).toArray,PT pb] m u m'∧CpW m pb (zby x c) m':=by
 by_cases e1:x.op=25
 ·exact zpd hm hp hc hz e1 a0 a2 b0 b2
 by_cases e2:x.op=26
 ·exact zo8 hm hp hc hz e2 a0 a2 b0 b2
 by_cases e3:x.op=27
 ·exact zn9 hm hp hc hz e3 a0 a2 b0 (b3 (.inl e3))
 by_cases e4:x.op=28
 ·exact zoY hm hp hc hz e4 a0 a2 b0 (b3 (.inr e4))
 ·exact zpp hm hp hc hz (by omega) a0 a2
theorem zoR(hz:c.zok):(zby x c).zok:=by
 have key:∀(z:List (Int×Int)) (i:Nat) (v:Int×Int),(∀k,k<2->Zin (z.getD k (0,0)))->Zin v->∀k,k<2->Zin ((z.set i v).getD k (0,0)):=λz i v h hv k hk=>by
  rw[gD',List.getElem?_set];split
  ·split
   ·exact hv
   ·exact⟨by decide,by decide⟩
  ·rw[<-gD'];exact h k hk
 unfold zby;dsimp only;split
 ·exact key _ _ _ hz Zin.wrap
 split
 ·exact hz
 split
 ·exact key _ _ _ hz Zin.wrap
 split
 ·exact key _ _ _ hz Zin.wrap
 ·exact key _ _ _ hz Zin.wrap
end
section
variable{m m' M:Mem}{x:Ins}{c:Cpu}{p:Nat}{tyP fW:Nat}{w:Option (BitVec 32)}
theorem zva(h:c.ok0):(zbm c)[10]? =some (Um c.pc):=by unfold zbm;rw[aC' (by simp[h.1,h.2])];simp[h.1,h.2]
def za5(w:Option (BitVec 32))(c:Cpu):Ins×Int:=
 if¬c.pc % 4#32=0#32 then(zwG,2) else match w with
  |none=>(zwG,2)
  |some v=>match zc6 v with
   |none=>(zwG,3)
   |some x=>(x,0)
def zjU(w:Option (BitVec 32)):Value:= .tuple [Um (w.getD 0#32), .bool w.isSome].toArray
theorem zwq{P:Program}{ty:TypeId}{a:BitVec 32}:zcG P .rem ty (Um a) (.int .u32 4)=some (Um (a % 4#32)):=by rw[zjP (by decide)];rw[Int.tmod_eq_emod_of_nonneg (Int.natCast_nonneg _)];rfl
theorem zcA(ht:m.get 0=some (.cells (.ofList zcp) false 1))(hc:c.ok0)(hma:zaB EE.P tyP "Word" =some fW)(hcl:zab EE.P fW=true)(hW:∀M,Nx m M->Con EE.P fW [PT p,Um c.pc] M (zjU w) M):
  Con EE.P 125 [.agg (zbm c).toArray, .iface tyP (PT p)] m (.tuple [.agg (zbx (za5 w c).1).toArray,In (za5 w c).2].toArray) m:=by
 refine Con.of zai zGe (bA rfl) Grow.rfl λhm=>?_;have h64:=hm.n64;have hpc:=zva hc;have hl:(zbm c).length=11:=by simp[zbm,hc.1,hc.2]
 have he:∀q r M,eqA EE.P .eql 250 q r (.iface tyP (PT p)) .nilIface M=some (.bool false):=λq r M=>by kernel_rfl
 have b0:zaT EE.P 237 []=some (.agg [In 0,In 0,In 0,In 0].toArray):=kr;have z0:decide (((c.pc % 4#32).toNat:Int)=0)=decide (c.pc % 4#32=0#32):=eq0;by_cases h4:c.pc % 4#32=0#32
 ·have d4:=decide_eq_true h4;have hi:zl9 EE.P (.iface tyP (PT p)) "Word" =some (fW,PT p):=zhQ hma hcl
  simp only[XX,XY,zAg,yA,yB,yC,XG,he,hpc,zwq,z0,d4,hi];refine cZ (hW _ (nX hm)) ?_;cases w with
  |none=>
   have ef:za5 none c=(zwG,2):=by unfold za5;rw[if_neg (λh=>h h4)]
   rw[ef];simp only[XX,XY,zAg,yA,yB,yC,zjU,Option.getD_none,Option.isSome_none,b0,zbl];exact tP rfl λy hy=>by simp only[gB,gP];repeat rw[if_neg (by omega)]
  |some v=>
   simp only[XX,XY,zAg,yA,yB,yC,XG,zjU];refine cZ (zrq (w:=v) (by simp only[gB,gP];(repeat rw[if_neg (by omega)]);exact ht)) ?_;cases hd:zc6 v with
   |none=>
    have ef:za5 (some v) c=(zwG,3):=by unfold za5;rw[if_neg (λh=>h h4)];simp only[hd]
    rw[ef];simp only[XX,XY,zAg,yA,yB,yC,yH,Option.getD_none,Option.isSome_none,zbx,zwG,b0,zbl];exact tP rfl λy hy=>by simp only[gB,gP];repeat rw[if_neg (by omega)]
   |some x=>
    have ef:za5 (some v) c=(x,0):=by unfold za5;rw[if_neg (λh=>h h4)];simp only[hd]
    rw[ef];simp only[XX,XY,zAg,yA,yB,yC,XG,zbx,zbl];exact tP rfl λy hy=>by simp only[gB,gP];repeat rw[if_neg (by omega)]
 ·have d4:=decide_eq_false h4;have ef:za5 w c=(zwG,2):=by unfold za5;rw[if_pos h4]
  rw[ef];simp only[XX,XY,zAg,yA,yB,yC,he,hpc,zwq,z0,d4,b0,zbl];exact tP rfl λy hy=>by simp only[gB,gP];repeat rw[if_neg (by omega)]
end
section
variable{m m' M:Mem}{x:Ins}{c:Cpu}{p pb:Nat}{cs:Cells}{tyP fW:Nat}{w:Option (BitVec 32)}
def adX(x:Ins)(c:Cpu):BitVec 32:=c.r.getD x.b.toNat 0#32+w32 x.imm
def zd4(x:Ins)(c:Cpu):Option (BitVec 32)->Cpu
 |none=>c
 |some v=>{c with r:=c.r.set x.a.toNat v}
theorem CpW.raw'{u v:Value}{c':Cpu}(hp:m.get pb=some (.cells cs true 0))(h:CpW m pb c' m')(hu:u=v):zcY m m' u λu m'=>u=v∧CpW m pb c' m':=
 ⟨⟨h.next,λy hy e=>by rw[h.old y hy (λe2=>by rw[e2,hp] at e;cases e),e]⟩,hu,h⟩
theorem zt9{o:zaS}{j:Nat}(hm:zad m)(hp:m.get pb=some (.cells cs true 0))(hc:CpC c cs):CpW m pb c ((m.put m.next o).bump (j+1)):=by have hl:=hm.lt hp;exact⟨nO,zad.of_low (by have:=hm.n64;simp only[bN,nP];omega) (Low.bump (Low.put (Low.of hm nO) nO)),⟨cs,by rw[gB,gP,if_neg (by omega)];exact hp,hc⟩,λy hy _=>by rw[gB,gP,if_neg (by omega)]⟩
theorem zDM{o:zaS}{j k:Nat}{v:Value}{c':Cpu}(hm:zad m)(hp:m.get pb=some (.cells cs true 0))(h:CpC c' (cs.write k [v])):CpW m pb c' (((m.put m.next o).put pb (.cells (cs.write k [v]) true 0)).bump (j+1)):=by have hl:=hm.lt hp;exact⟨nO,zad.of_low (by have:=hm.n64;simp only[bN,nP];omega) (Low.bump (Low.put (Low.put (Low.of hm nO) nO) nO)),⟨_,by rw[gB,gP,if_pos rfl],h⟩,λy hy e=>by rw[gB,gP,if_neg e,gP,if_neg (by omega)]⟩
theorem ztb(hm:zad m)(hp:m.get pb=some (.cells cs true 0))(hc:CpC c cs)(e:x.op=15)(a0:0<=x.a)(a8:x.a<8)(b0:0<=x.b)(b8:x.b<8)(hma:zaB EE.P tyP "Word" =some fW)(hcl:zab EE.P fW=true)(hW:∀M,Nx m M->Con EE.P fW [PT p,Um (adX x c)] M (zjU w) M):
  ∃u m',Con EE.P 126 [.agg (zbx x).toArray,PT pb, .iface tyP (PT p)] m u m'∧u= .bool (decide (adX x c % 4#32=0#32)&&w.isSome)∧CpW m pb (if adX x c % 4#32=0#32 then zd4 x c w else c) m':=by
 obtain⟨op,xa,xb,imm⟩:=x;simp only at e a0 a8 b0 b8;subst e;refine Con.raw zai zpK (bA rfl) _ ?_;have hl:=hm.lt hp;have ne1:∀j,¬pb=m.next+j:=λj=>by omega
 have ne2:∀j,¬m.next+j=pb:=λj=>by omega
 have ne3:¬pb=m.next:=by omega
 have ne4:¬m.next=pb:=by omega
 have ga:xa<((8:Nat):Int):=by omega
 have gb:xb<((8:Nat):Int):=by omega
 have rb:=hc.reg (k:=xb.toNat) (by omega);have ww:IntKind.u32.wrap imm=((w32 imm).toNat:Int):=zaR;have hi:zl9 EE.P (.iface tyP (PT p)) "Word" =some (fW,PT p):=zhQ hma hcl
 have ha:c.r.getD xb.toNat 0#32+w32 imm=adX ⟨15,xa,xb,imm⟩ c:=rfl;have hk:xa.toNat+1<=cs.n:=by rw[hc.n];omega
 generalize adX ⟨15,xa,xb,imm⟩ c=at_ at hW ha⊢;have z0:decide (((at_ % 4#32).toNat:Int)=0)=decide (at_ % 4#32=0#32):=eq0;by_cases h4:at_ % 4#32=0#32
 ·have d4:=decide_eq_true h4;rw[if_pos h4,d4];simp only[XX,XY,ztj,yA,yB,yC,XG,zbx,hp,ne3,b0,gb,rb,ww,zcH,ha,zwq,z0,d4,hi];refine cZ (hW _ ⟨by(try simp only[bN,nP]);omega,zad.of_low (by have:=hm.n64;(try simp only[bN,nP]);omega) (by repeat(first|exact Low.of hm nO|refine Low.put ?_ nO|refine Low.bump ?_)),λy hy=>by simp only[gB,gP,zb3 hy,if_false]⟩) ?_;cases w with
  |none=>simp only[XX,XY,ztj,yA,yB,yC,zjU,Option.getD_none,Option.isSome_none];exact CpW.raw' hp (zt9 hm hp hc) rfl
  |some v=>simp only[XX,XY,ztj,yA,yB,yC,XG,zjU,hp,ne3,a0,ga,hk];exact CpW.raw' hp (zDM hm hp (hc.setr (k:=xa.toNat) (by omega))) rfl
 ·have d4:=decide_eq_false h4;rw[if_neg h4,d4];simp only[XX,XY,ztj,yA,yB,yC,XG,zbx,hp,ne3,b0,gb,rb,ww,zcH,ha,zwq,z0,d4];exact CpW.raw' hp (zt9 hm hp hc) rfl
end
end
end Go.Ab
