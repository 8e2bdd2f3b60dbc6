/- Part. -/
import Derived.Test.YtdhcheegbnnlbaaGreatDoorA14
import Derived.Shelf.Spec.SlicesGrow
import Derived.Test.YtdhcheegbnnlbaaGreatDoorChecked
set_option linter.all false
open Go.Ab.Mem renaming next_bump → bN, next_put → nP, get_bump → gB, get_put → gP
open Nat renaming le_of_ble_eq_true → bA, le_add_right_of_le → lA, lt_of_lt_of_le → lL, le_refl → lR', le_trans → lT
open List renaming getD_eq_getElem?_getD → gD', getElem?_eq_getElem → gE', length_append → aL, getElem?_append_left → aB', getElem?_append_right → aC', getElem?_map → gM', length_map → lM, length_set → sL
open Option.some renaming injEq → sI
open Prod.mk renaming injEq → pI
open Go.Ab.CallI renaming ex2 → cX, con0 → cZ
open Go.Ab.Cells renaming ofList → ofL
open Go.Ab.View renaming temps → vT
open Go.Ab.Be renaming trans → bE
open Nat renaming reduceLT → yA, reduceEqDiff → yB, reduceAdd → yC, reduceMul → yD, reduceSub → yE, reducePow → yF, reduceLeDiff → yG
open Int renaming reduceEq → yH, reduceLT → yI, reduceLE → yJ
namespace Go.Ab
open Go.Proofs
noncomputable section
set_option maxHeartbeats 4000000
set_option maxRecDepth 10000
section
variable{m m' M mr:Mem}{n:Nat}{L L' L1 L2:Loc}{X X' X1 X2 Y:St}{v:Value}{fl:List Value}{pid:Int}
def cwB(r:Page):Bool:=r.cow||(r.write&& !r.shared)
def clone1(X:St)(j k g:Nat):St:={X with C:=X.C.set (X.g g).c {X.c (X.g g).c with refs:=IntKind.i64.wrap ((X.c (X.g g).c).refs+1)},G:=X.G.set g {X.g g with cow:=cwB (X.g g)}++ [{X.g g with cow:=cwB (X.g g)}],P:=X.P.set j {X.p j with pages:=(X.p j).pages.set k (some X.G.length)}}
def cloneS(X:St)(j k:Nat):Option Nat->St
 |none=>X
 |some g=>clone1 X j k g
def cloneI(X:St)(j:Nat)(F:List (Option Nat))(l:List Nat):St:=l.foldl (λY k=>cloneS Y j k (F.getD k none)) X
theorem cloneI_snoc{j k:Nat}{F:List (Option Nat)}{l:List Nat}:cloneI X j F (l++ [k])=cloneS (cloneI X j F l) j k (F.getD k none):=by
 unfold cloneI;rw[List.foldl_append];rfl
theorem cloneI_0{j:Nat}{F:List (Option Nat)}:cloneI X j F (List.range 0)=X:=rfl
theorem GC.all{r:Page}{cs:Cells}(h:GC L r cs):cs.sub 0 4=some [PT (L.c r.c), .bool r.write, .bool r.shared, .bool r.cow]:=by
 refine sub_ext rfl (by rw[h.n];decide) λk hk=>?_
 have g:∀{k:Nat} {v:Value},k<4->cs.nth k=some v->cs.get k=v:=λhk e=>by rw[nth_lt (by rw[h.n];exact hk)] at e;exact Option.some.inj e
 rw[Nat.zero_add]
 match k,hk with
 |0,_=>exact g (by decide) h.c
 |1,_=>exact g (by decide) h.write
 |2,_=>exact g (by decide) h.shared
 |3,_=>exact g (by decide) h.cow
theorem GX.clone1(h:GX X){j k g:Nat}(hj:j<X.P.length)(hgl:g<X.G.length):GX (clone1 X j k g):=by
 have hc:=h.gc g hgl
 have h1:=h.set_c (c:=(X.g g).c) (r:={X.c (X.g g).c with refs:=IntKind.i64.wrap ((X.c (X.g g).c).refs+1)}) (h.cb _ hc)
 have h2:=h1.set_g (g:=g) (r:={X.g g with cow:=cwB (X.g g)}) (by simpa using hc)
 have h3:=h2.add_g (r:={X.g g with cow:=cwB (X.g g)}) (by simpa using hc)
 exact h3.set_p (i:=j) (r:={X.p j with pages:=(X.p j).pages.set k (some X.G.length)}) ((h3.px (i:=j) hj).s_pages λg hg=>by cases hg;simp)
theorem Sh.clone1(h:GX X){j k g:Nat}(hj:j<X.P.length)(hgl:g<X.G.length):Sh 0 X (clone1 X j k g):=⟨by simp[Go.Ab.clone1],lR' _,lR' _,by simp[Go.Ab.clone1],by simp[Go.Ab.clone1],lR' _,lR' _,h.clone1 hj hgl⟩
theorem Sh.cloneI{j:Nat}{F:List (Option Nat)}{l:List Nat}:∀{X:St},GX X->j<X.P.length->(∀k g,F.getD k none=some g->g<X.G.length)->Sh 0 X (cloneI X j F l):=by
 induction l with
 |nil=>intro X h _ _;exact Sh.refl h
 |cons k l ih=>
  intro X h hj hF
  have h1:Sh 0 X (cloneS X j k (F.getD k none)):=by
   cases e:F.getD k none with
   |none=>exact Sh.refl h
   |some g=>exact Sh.clone1 h hj (hF k g e)
  exact h1.trans (ih h1.gx (lL hj h1.P) λk g e=>lL (hF k g e) h1.G)
theorem clone_step(h:FAt M L X)(hF:Fresh M)(hg:GX X){j k g K id:Nat}(hj:j<X.P.length)(hk:k<64)(hgl:g<X.G.length){cc cg cp zc:Cells}{z0:AObj}(hcc:M.get (L.c (X.g g).c)=some (.cells cc true 0))(hcg:M.get (L.g g)=some (.cells cg true 0))(hcp:M.get (L.p j)=some (.cells cp true 0))(hz:zc.n=4)(hid:M.next<=id∧id<M.next+K):
  Be M L (clone1 X j k g) ((((((M.put (L.c (X.g g).c) (.cells (cc.write 64 [In (IntKind.i64.wrap ((X.c (X.g g).c).refs+1))]) true 0)).put (L.g g) (.cells (cg.write 3 [.bool (cwB (X.g g))]) true 0)).put id z0).put id (.cells (zc.write 0 [PT (L.c (X.g g).c), .bool (X.g g).write, .bool (X.g g).shared, .bool (cwB (X.g g))]) true 0)).put (L.p j) (.cells (cp.write (61+k) [PT id]) true 0)).bump K):=by
 have hcl:=hg.gc g hgl
 have pl:=h.ids_lt (h.mp hj)
 have gl:=h.ids_lt (h.mg hgl)
 have cl:=h.ids_lt (h.mc hcl)
 have h64:=hF.n64
 have h0:=h.bump K
 have n1:¬L.g g=L.c (X.g g).c:=h.g_c hgl hcl
 have hn1:¬L.D id:=λe=>by have:=h.lt _ e;omega
 have A1:=h0.s_refs hcl (cs:=cc) (x:=IntKind.i64.wrap ((X.c (X.g g).c).refs+1)) hcc
 have A2:=A1.s_cow (g:=g) hgl (cs:=cg) (x:=cwB (X.g g)) (by rw[gP,if_neg n1];exact hcg)
 have hg1:=hg.set_c (c:=(X.g g).c) (r:={X.c (X.g g).c with refs:=IntKind.i64.wrap ((X.c (X.g g).c).refs+1)}) (hg.cb _ hcl)
 have hg2:=hg1.set_g (g:=g) (r:={X.g g with cow:=cwB (X.g g)}) (by simpa using hcl)
 have A2':=A2.new (b:=id) (o:=z0) hn1
 have w:=λ(k:Nat) (hk:k<4)=>(sub_write_same (c:=zc) (o:=0) (n:=4) (l:=[PT (L.c (X.g g).c), .bool (X.g g).write, .bool (X.g g).shared, .bool (cwB (X.g g))]) rfl (by rw[hz];decide))
 have w':=λ(k:Nat) (hk:k<4)=>sub_nth (k:=k) (w k hk) hk
 have A3:=A2'.add_g hg2 (b:=id) hn1 nO (by omega) (cs:=zc.write 0 [PT (L.c (X.g g).c), .bool (X.g g).write, .bool (X.g g).shared, .bool (cwB (X.g g))]) (r:={X.g g with cow:=cwB (X.g g)}) ⟨by rw[write_n,hz],w' 0 (by decide),w' 1 (by decide),w' 2 (by decide),w' 3 (by decide)⟩ (by simpa using hcl)
 have hgN:(L.G++ [id]).getD X.G.length 0=id:=by rw[<-h.lG,getD_last]
 have m1:¬L.p j=id:=by omega
 have m2:¬L.p j=L.g g:=h.p_g hj hgl
 have m3:¬L.p j=L.c (X.g g).c:=h.p_c hj hcl
 obtain⟨cp',e1,e2⟩:=A3.pr j hj
 have e1':((((((M.bump K).put (L.c (X.g g).c) (.cells (cc.write 64 [In (IntKind.i64.wrap ((X.c (X.g g).c).refs+1))]) true 0)).put (L.g g) (.cells (cg.write 3 [.bool (cwB (X.g g))]) true 0)).put id z0).put id (.cells (zc.write 0 [PT (L.c (X.g g).c), .bool (X.g g).write, .bool (X.g g).shared, .bool (cwB (X.g g))]) true 0))).get (L.p j)=some (.cells cp' true 0):=e1
 rw[gP,if_neg m1,gP,if_neg m1,gP,if_neg m2,gP,if_neg m3,gB,hcp] at e1'
 cases e1'
 have e3:=e2.s_pages hk (x:=some X.G.length)
 have A4:=A3.put_p hj e3
 have hF4:Fd L.D M ((((((M.bump K).put (L.c (X.g g).c) (.cells (cc.write 64 [In (IntKind.i64.wrap ((X.c (X.g g).c).refs+1))]) true 0)).put (L.g g) (.cells (cg.write 3 [.bool (cwB (X.g g))]) true 0)).put id z0).put id (.cells (zc.write 0 [PT (L.c (X.g g).c), .bool (X.g g).write, .bool (X.g g).shared, .bool (cwB (X.g g))]) true 0)).put (L.p j) (.cells (cp.write (61+k) [PT id]) true 0)):=
  ((((((Fd.refl hF).bump K).putO (h.dm _ (h.mc hcl)) cl (by rw[hcc];simp)).putO (h.dm _ (h.mg hgl)) gl (by rw[hcg];simp)).putN hid.1 nO).putN hid.1 nO).putO (h.dm _ (h.mp hj)) pl (by rw[hcp];simp)
 have A5:FAt ((((((M.bump K).put (L.c (X.g g).c) (.cells (cc.write 64 [In (IntKind.i64.wrap ((X.c (X.g g).c).refs+1))]) true 0)).put (L.g g) (.cells (cg.write 3 [.bool (cwB (X.g g))]) true 0)).put id z0).put id (.cells (zc.write 0 [PT (L.c (X.g g).c), .bool (X.g g).write, .bool (X.g g).shared, .bool (cwB (X.g g))]) true 0)).put (L.p j) (.cells (cp.write (61+k) [PT id]) true 0)) {L with G:=L.G++ [id],D:=λy=>L.D y∨y=id} (clone1 X j k g):=by
  have hvv:pV ((some X.G.length).map (λx=>(L.G++ [id]).getD x 0))=PT id:=by
   show PT ((L.G++ [id]).getD X.G.length 0)=PT id
   rw[hgN]
  have hle:(X.G.set g {X.g g with cow:=cwB (X.g g)}).length=X.G.length:=by simp
  rw[<-hvv]
  exact A4
 have hB:Be M L (clone1 X j k g) _:=⟨_,A5,⟨rfl,⟨[],by simp⟩,⟨[id],rfl⟩,⟨[],by simp⟩,⟨[],by simp⟩,⟨[],by simp⟩,λy hy=>by
  rcases hy with hy|hy
  ·exact .inl hy
  ·exact .inr (by omega)⟩,hF4⟩
 simp only[put_bump] at hB
 exact hB
theorem clone_ok'(h:FAt m L X)(hm:Fresh m)(hg:GX X){i j:Nat}(hi:i<X.P.length)(hj:j<X.P.length)(hij:i≠j):∃u m',Con EE.P 235 [PT (L.p i),PT (L.p j)] m u m'∧Be m L (cloneI X j (X.p i).pages (List.range 64)) m':=by
 refine Con.raw EE_ok fn235 (bA rfl) _ ?_
 obtain⟨cs,h1,h2⟩:=h.pr i hi
 have hsp:=h2.pages
 obtain⟨F,hF⟩:∃F,F=(X.p i).pages:=⟨_,rfl⟩
 have hFl:F.length=64:=by rw[hF];exact(hg.pg i hi).1
 have hFg:∀k g,F.getD k none=some g->g<X.G.length:=λk g e=>by rw[hF] at e;exact(hg.pg i hi).2 k g e
 rw[<-hF] at hsp⊢
 have hl64:(F.map λx=>pV (x.map L.g)).length=64:=by rw[lM];exact hFl
 simp only[XX,XY,F235,yA,yB,yC,h1,hsp]
 refine WX.loop_of (λkk tt M=>∃k:Nat,k<=64∧kk=64-k∧tt=T 56 [(11,In k),(10, .agg (F.map λx=>pV (x.map L.g)).toArray),(0,PT (L.p i)),(1,PT (L.p j))]∧Be m L (cloneI X j F (List.range k)) M) ?_ (k:=64) (t1:=T 56 [(11,In (0:Nat)),(10, .agg (F.map λx=>pV (x.map L.g)).toArray),(0,PT (L.p i)),(1,PT (L.p j))]) (vT ⟨rfl,rfl,rfl,rfl,trivial⟩) ⟨0,by omega,rfl,rfl,by rw[cloneI_0];exact Be.same h hm _⟩
 rintro kk tt M ⟨k,hk,rfl,rfl,hB⟩
 have nx:=hB.next
 by_cases hk2:k<64
 ·have g1:(k:Int)<64:=by omega
  have g2:(0:Int)<=k:=by omega
  have g3:(k:Int)<((64:Nat):Int):=by omega
  have hw:IntKind.i64.wrap ((k:Int)+1)=((k+1:Nat):Int):=by rw[wrap_i64 (by omega) (by omega)];omega
  have hix:ixV EE.P 81 (.agg (F.map λx=>pV (x.map L.g)).toArray) (In k)=some (pV ((F.getD k none).map L.g)):=by
   rw[ixV_agg und_81 g2 g3,sz_80,lay_80,paG_1,Int.toNat_natCast,Nat.mul_one,gM',gD',gE' (by omega)];rfl
  have eS:cloneI X j F (List.range (k+1))=cloneS (cloneI X j F (List.range k)) j k (F.getD k none):=by rw[List.range_succ,cloneI_snoc]
  have hSh:=Sh.cloneI (l:=List.range k) hg hj hFg
  cases hx:F.getD k none with
  |none=>
   rw[hx] at hix eS
   simp only[XX,XY,F235,yA,yB,yC,pV_n',g1,hix,nx,hw,roundQ_normal,lA]
   refine⟨64-(k+1),_,_,by omega,vT (l':=[(11,In ((k+1:Nat):Int)),(10, .agg (F.map λx=>pV (x.map L.g)).toArray),(0,PT (L.p i)),(1,PT (L.p j))]) ⟨rfl,rfl,rfl,rfl,trivial⟩,k+1,by omega,rfl,rfl,?_⟩
   rw[eS]
   exact hB.bump _
  |some g=>
   rw[hx] at hix eS
   have hgl0:=hFg k g hx
   generalize cloneI X j F (List.range k)=Y at hB hSh eS
   have hgl:=lL hgl0 hSh.G
   have hjY:=lL hj hSh.P
   obtain⟨L1,a1,x1,f1⟩:=hB
   have eg:L1.g g=L.g g:=x1.g (by rw[h.lG];exact hgl0)
   have ej:L1.p j=L.p j:=x1.p (by rw[h.lP];exact hj)
   obtain⟨cg,p1,p2⟩:=a1.pg g hgl
   have hcl:=hSh.gx.gc g hgl
   obtain⟨cc,c1,c2⟩:=a1.ct _ hcl
   obtain⟨cp,q1,q2⟩:=a1.pr j hjY
   have gl:=a1.ids_lt (a1.mg hgl)
   have pl:=a1.ids_lt (a1.mp hjY)
   have cl:=a1.ids_lt (a1.mc hcl)
   have n1:¬L1.g g=L1.c (Y.g g).c:=a1.g_c hgl hcl
   have n2:¬L1.p j=L1.c (Y.g g).c:=a1.p_c hjY hcl
   have n3:¬L1.p j=L1.g g:=a1.p_g hjY hgl
   have hst:=λ(K id:Nat) (zc:Cells) (z0:AObj) (hz:zc.n=4) (hid:M.next<=id∧id<M.next+K)=>clone_step (K:=K) (id:=id) (k:=k) (zc:=zc) (z0:=z0) a1 f1.fresh hSh.gx hjY hk2 hgl c1 p1 q1 hz hid
   have w4:(cg.write 3 [.bool (cwB (Y.g g))]).sub 0 4=some [PT (L1.c (Y.g g).c), .bool (Y.g g).write, .bool (Y.g g).shared, .bool (cwB (Y.g g))]:=(p2.w_cow (x:=cwB (Y.g g))).all
   rw[eg] at p1 gl n1 n3 hst
   rw[ej] at q1 pl n2 n3 hst
   have n4:∀k,¬L.p j=M.next+k:=λk=>by omega
   have k1:64+1<=cc.n:=by rw[c2.n];decide
   have k2:3+1<=cg.n:=by rw[p2.n];decide
   have k3:61+(k+1)<=cp.n:=by rw[q2.n];omega
   cases hcow:(Y.g g).cow<;>cases hwr:(Y.g g).write<;>cases hsh:(Y.g g).shared
   all_goals
    simp only[cwB,hcow,hwr,hsh,Bool.or_true,Bool.or_false,Bool.and_true,Bool.and_false,Bool.not_true,Bool.not_false] at w4 hst
    simp only[XX,XY,F235,yA,yB,yC,pV_s',g1,g2,g3,hix,nx,p1,p2.c,p2.write,p2.shared,p2.cow,hcow,hwr,hsh,c1,c2.refs,w4,q1,n1,n2,n3,n4,k1,k2,k3,hw,roundQ_normal,lA]
    refine⟨64-(k+1),_,_,by omega,vT (l':=[(11,In ((k+1:Nat):Int)),(10, .agg (F.map λx=>pV (x.map L.g)).toArray),(0,PT (L.p i)),(1,PT (L.p j))]) ⟨rfl,rfl,rfl,rfl,trivial⟩,k+1,by omega,rfl,rfl,?_⟩
    rw[eS]
    refine bE x1 f1 (hst _ _ _ _ ?_ ?_)
    ·rfl
    ·omega
 ·obtain rfl:k=64:=by omega
  have g1:¬((64:Nat):Int)<64:=by omega
  simp only[XX,XY,F235,yA,yB,yE,g1,nx,roundQ_exit]
  exact(hB.bump _).raw
end
section
variable{m m' M mr:Mem}{n:Nat}{L L' L1 L2:Loc}{X X' X1 X2 Y:St}{v:Value}{fl:List Value}{pid:Int}
theorem list2{α:Type}{l:List α}(h:l.length=2):∃a0 a1,l=[a0,a1]:=by
 match l,h with
 |[a0,a1],_=>exact⟨a0,a1,rfl⟩
theorem list8{α:Type}{l:List α}(h:l.length=8):∃a0 a1 a2 a3 a4 a5 a6 a7,l=[a0,a1,a2,a3,a4,a5,a6,a7]:=by
 match l,h with
 |[a0,a1,a2,a3,a4,a5,a6,a7],_=>exact⟨a0,a1,a2,a3,a4,a5,a6,a7,rfl⟩
theorem list16{α:Type}{l:List α}(h:l.length=16):∃a0 a1 a2 a3 a4 a5 a6 a7 b0 b1 b2 b3 b4 b5 b6 b7,l=[a0,a1,a2,a3,a4,a5,a6,a7,b0,b1,b2,b3,b4,b5,b6,b7]:=by
 match l,h with
 |[a0,a1,a2,a3,a4,a5,a6,a7,b0,b1,b2,b3,b4,b5,b6,b7],_=>exact⟨a0,a1,a2,a3,a4,a5,a6,a7,b0,b1,b2,b3,b4,b5,b6,b7,rfl⟩
def procL(f:Nat)(nx pr:Int)(c d:Cpu)(s:Sg)(V:List Value)(a:BitVec 32):List Value:=
 [PT f,In nx,In pr,In 1,Um 0#32]++(cpuL c++(cpuL d++(sgL s++([In 0, .pointer none, .pointer none, .pointer none,Um 0#32,Um 0#32]++(V++([Um a]++List.replicate 64 (.pointer none)))))))
theorem build83{f:Nat}{nx pr:Int}{c d:Cpu}{s:Sg}{V:List Value}{a:BitVec 32}(hc:c.ok)(hd:d.ok)(hs:s.h.length=16)(hV:V.length=8):
  buildA EE.P 83 [(0,PT f),(1,In nx),(2,In pr),(3,In 1),(5, .agg (cpuL c).toArray),(6, .agg (cpuL d).toArray),(7,SgV s),(12, .agg V.toArray),(13,Um a)]=some (.agg (procL f nx pr c d s V a).toArray):=by
 obtain⟨cr,cz,cp⟩:=c
 obtain⟨dr,dz,dp⟩:=d
 obtain⟨sp,sm,sh,sb⟩:=s
 obtain⟨hc1,hc2,hc3⟩:=hc
 obtain⟨hd1,hd2,hd3⟩:=hd
 simp only at hc1 hc2 hd1 hd2 hs
 obtain⟨a0,a1,a2,a3,a4,a5,a6,a7,rfl⟩:=list8 hc1
 obtain⟨b0,b1,b2,b3,b4,b5,b6,b7,rfl⟩:=list8 hd1
 obtain⟨y0,y1,rfl⟩:=list2 hc2
 obtain⟨w0,w1,rfl⟩:=list2 hd2
 obtain⟨h0,h1,h2,h3,h4,h5,h6,h7,h8,h9,h10,h11,h12,h13,h14,h15,rfl⟩:=list16 hs
 obtain⟨v0,v1,v2,v3,v4,v5,v6,v7,rfl⟩:=list8 hV
 kernel_rfl
theorem procL_len{f:Nat}{nx pr:Int}{c d:Cpu}{s:Sg}{V:List Value}{a:BitVec 32}(hc:c.ok)(hd:d.ok)(hs:s.h.length=16)(hV:V.length=8):(procL f nx pr c d s V a).length=125:=by
 unfold procL
 simp only[aL,cpuL_len hc,cpuL_len hd,sg_len hs,hV,List.length_cons,List.length_nil,List.length_replicate]
theorem procL_one{f:Nat}{nx pr:Int}{c d:Cpu}{s:Sg}{V:List Value}{a:BitVec 32}(hV:V.all oneCell=true):(procL f nx pr c d s V a).all oneCell=true:=by
 unfold procL
 simp only[List.all_append,cpuL_one,sg_one,hV,Bool.true_and]
 rfl
def child0(X:St)(i:Nat):Proc:={pid:=X.next,parent:=(X.p i).pid,state:=1,status:=0#32,cpu:=(X.p i).cpu,saved:=(X.p i).saved,sig:={(X.p i).sig with pend:=0#32},wait:=0,pipe:=none,fut:=⟨none,none,0#32⟩,left:=0#32,fds:=(X.p i).fds,aff:=(X.p i).aff,pages:=List.replicate 64 none}
theorem child_PC{i:Nat}(hc:(X.p i).cpu.ok)(hd:(X.p i).saved.ok)(hs:(X.p i).sig.h.length=16)(hf:(X.p i).fds.length=8):
  PC L (child0 X i) (ofL (procL L.f X.next (X.p i).pid (X.p i).cpu (X.p i).saved {(X.p i).sig with pend:=0#32} ((X.p i).fds.map λx=>pV (x.map L.x)) (X.p i).aff)):=by
 unfold child0
 generalize(X.p i).cpu=c at hc⊢
 generalize(X.p i).saved=d at hd⊢
 generalize(X.p i).sig=s at hs⊢
 generalize(X.p i).fds=F at hf⊢
 generalize(X.p i).aff=af
 generalize(X.p i).pid=pr
 generalize X.next=nx
 have hl:∀s:Sg,s.h.length=16->(procL L.f nx pr c d s (F.map λx=>pV (x.map L.x)) af).length=125:=λs hs=>procL_len hc hd hs (by simpa using hf)
 refine⟨by rw[ofList_n];exact hl _ hs,?_,?_,?_,?_,?_,?_,?_,?_,?_,?_,?_,?_,?_,?_,?_,hc,hd,hs⟩
 all_goals
  obtain⟨cr,cz,cp⟩:=c
  obtain⟨dr,dz,dp⟩:=d
  obtain⟨sp,sm,sh,sb⟩:=s
  obtain⟨hc1,hc2,hc3⟩:=hc
  obtain⟨hd1,hd2,hd3⟩:=hd
  simp only at hc1 hc2 hd1 hd2 hs
  obtain⟨a0,a1,a2,a3,a4,a5,a6,a7,rfl⟩:=list8 hc1
  obtain⟨b0,b1,b2,b3,b4,b5,b6,b7,rfl⟩:=list8 hd1
  obtain⟨y0,y1,rfl⟩:=list2 hc2
  obtain⟨w0,w1,rfl⟩:=list2 hd2
  obtain⟨h0,h1,h2,h3,h4,h5,h6,h7,h8,h9,h10,h11,h12,h13,h14,h15,rfl⟩:=list16 hs
  obtain⟨v0,v1,v2,v3,v4,v5,v6,v7,rfl⟩:=list8 hf
  kernel_rfl
theorem FAt.s_xrefs(h:FAt m L X){c:Nat}(hc:c<X.F.length){cs:Cells}(e:m.get (L.x c)=some (.cells cs true 0)){x:Int}:FAt (m.put (L.x c) (.cells (cs.write 2 [In x]) true 0)) L {X with F:=X.F.set c {X.x c with refs:=x}}:=by
 obtain⟨c1,h1,h2⟩:=h.xs c hc
 rw[e] at h1
 cases h1
 exact h.put_x hc h2.w_refs
theorem FAt.set_lv(h:FAt m L X){M:Mem}{v':Value}{id:Nat}{S:List Nat}{cf:Cells}(f1:m.get L.f=some (.cells cf true 0))(f2:FC L X cf)(hn:m.next<=M.next)(hid:m.next<=id∧id<M.next)(h64:64<=m.next)
  (hold:∀y,y<m.next->slB L.lv≠some y->M.get y=m.get y) (hsl:SlV M 1 v' S.length (S.map λi=>PT (L.p i))) (hS:∀j∈S,j<X.P.length) (hb:slB v'=slB L.lv∨slB v'=some id∨slB v'=none):
  FAt (M.put L.f (.cells (cf.write 5 [v']) true 0)) {L with lv:=v',D:=λy=>L.D y∨y=id} {X with l:=S}:=by
 have hi:∀y∈L.ids,M.get y=m.get y:=λy hy=>hold y (h.ids_lt hy) (by
  obtain⟨cs,hc⟩:=h.cell0 hy
  exact h.ls.ne0 (by decide) hc)
 have hsd:∀{z n:Nat} {v:Value} {fl:List Value},z≠0->SlV m z v n fl->(∀y,slB v=some y->L.D y)->(∀y,slB v=some y->slB L.lv≠some y)->SlV (M.put L.f (.cells (cf.write 5 [v']) true 0)) z v n fl:=λ{z n v fl} hz hv hd hne=>hv.keep λy o hy ho=>by
  have h1:y≠L.f:=λe=>hv.ne0 hz f1 (by rw[hy,e])
  rw[gP,if_neg h1,hold y (h.lt y (hd y hy)) (hne y hy)];exact ho
 refine⟨⟨_,by rw[gP,if_pos rfl],?_⟩,λk hk=>?_,λk hk=>?_,λk hk=>?_,λk hk=>?_,λk hk=>?_,h.lP,h.lG,h.lC,h.lI,h.lF,h.lb,h.nd,λy hy=> .inl (h.dm y hy),?_,hsd (by decide) h.fs h.df (λy hy e=>(h.sep y e).1 hy),hsd (by decide) h.ss h.ds (λy hy e=>?_),λk hk=>hsd (by decide) (h.bs k hk) (λy=>h.db k y hk) (λy hy e=>(h.sep y e).2 k hk hy),λy hy=>?_,λy hy=> .inl (h.df y hy),λy hy=> .inl (h.ds y hy),λk y hk hy=> .inl (h.db k y hk hy),λy hy=>?_,λy hy=>?_,λy hy=>?_,hS,h.pf⟩
 ·exact⟨by rw[write_n,f2.n],(nth_write_ne (.inl (by decide))).trans f2.cores,(nth_write_ne (.inl (by decide))).trans f2.frames,(nth_write_ne (.inl (by decide))).trans f2.procs,(nth_write_ne (.inl (by decide))).trans f2.cap,(nth_write_ne (.inl (by decide))).trans f2.prog,nth_write_same (by rw[f2.n];decide),(nth_write_ne (.inr (bA rfl))).trans f2.fv,(nth_write_ne (.inr (bA rfl))).trans f2.contents,(nth_write_ne (.inr (bA rfl))).trans f2.files,(nth_write_ne (.inr (bA rfl))).trans f2.pipes,(nth_write_ne (.inr (bA rfl))).trans f2.next,(nth_write_ne (.inr (bA rfl))).trans f2.halted,(nth_write_ne (.inr (bA rfl))).trans f2.sv⟩
 ·obtain⟨c1,a1,a2⟩:=h.pr k hk;exact⟨c1,by rw[gP,if_neg (λe=>h.f_p hk e.symm),hi _ (h.mp hk)];exact a1,a2.move rfl (λ_ _=>rfl) (λ_ _ _=>rfl) (λ_ _ _=>rfl) (λ_ _=>rfl) λ_ _=>rfl⟩
 ·obtain⟨c1,a1,a2⟩:=h.pg k hk;exact⟨c1,by rw[gP,if_neg (λe=>h.f_g hk e.symm),hi _ (h.mg hk)];exact a1,a2.move rfl⟩
 ·obtain⟨c1,a1,a2⟩:=h.ct k hk;exact⟨c1,by rw[gP,if_neg (λe=>h.f_c hk e.symm),hi _ (h.mc hk)];exact a1,a2.move⟩
 ·obtain⟨c1,a1,a2⟩:=h.ip k hk;exact⟨c1,by rw[gP,if_neg (λe=>h.f_i hk e.symm),hi _ (h.mi hk)];exact a1,a2⟩
 ·obtain⟨c1,a1,a2⟩:=h.xs k hk;exact⟨c1,by rw[gP,if_neg (λe=>h.f_x hk e.symm),hi _ (h.mx hk)];exact a1,a2.move rfl⟩
 ·exact hsl.put0 (by decide) (by rw[hi _ h.mf];exact f1)
 ·obtain⟨c1,e1⟩:=h.ss.ob hy
  obtain⟨c2,e2⟩:=h.ls.ob e
  rw[e1] at e2;cases e2
 ·rcases hb with e|e|e
  ·exact .inl (h.dl y (e▸hy))
  ·rw[e] at hy;cases hy;exact .inr rfl
  ·rw[e] at hy;cases hy
 ·have hy:slB v'=some y:=hy
  rcases hb with e|e|e
  ·rw[e] at hy;exact h.sep y hy
  ·rw[e] at hy
   cases hy
   exact⟨λe=>by have:=h.lt _ (h.df _ e);omega,λk hk e=>by have:=h.lt _ (h.db k _ hk e);omega⟩
  ·rw[e] at hy;cases hy
 ·rcases hy with hy|rfl
  ·exact lL (h.lt y hy) (by rw[nP];exact hn)
  ·rw[nP];exact hid.2
 ·rcases hy with hy|rfl
  ·exact h.d64 y hy
  ·omega
theorem GX.set_l(h:GX X){S:List Nat}(hS:(S.length:Int)<=X.procs):GX {X with l:=S}:=⟨hS,h.pr,h.fr,h.cp,h.co,h.nx,h.pg,h.fd,h.pp,h.fc,h.fp,h.gc,h.cb,h.xp,h.ib⟩
end
section
variable{m m' M mr:Mem}{n:Nat}{L L' L1 L2:Loc}{X X' X1 X2 Y:St}{v:Value}{fl:List Value}{pid:Int}
def shareS(X:St):Option Nat->St
 |none=>X
 |some x=>{X with F:=X.F.set x {X.x x with refs:=IntKind.i64.wrap ((X.x x).refs+1)}}
def sharesX(X:St)(F:List (Option Nat))(l:List Nat):St:=l.foldl (λY k=>shareS Y (F.getD k none)) X
theorem sharesX_snoc{k:Nat}{F:List (Option Nat)}{l:List Nat}:sharesX X F (l++ [k])=shareS (sharesX X F l) (F.getD k none):=by
 unfold sharesX;rw[List.foldl_append];rfl
theorem sharesX_0{F:List (Option Nat)}:sharesX X F (List.range 0)=X:=rfl
def forkA(X:St)(i:Nat):St:={X with P:=X.P++ [child0 X i],next:=IntKind.i64.wrap (X.next+1)}
def forkB(X:St)(i:Nat):St:=cloneI (forkA X i) X.P.length ((forkA X i).p i).pages (List.range 64)
def forkC(X:St)(j:Nat):St:=sharesX X (X.p j).fds (List.range 8)
def forkD(Y:St)(j:Nat):St:={Y with P:=Y.P.set j {Y.p j with cpu:={(Y.p j).cpu with r:=(Y.p j).cpu.r.set 0 0#32,pc:=(Y.p j).cpu.pc+4#32}}}
def forkE(Y:St)(j:Nat):St:={Y with l:=Y.l++ [j]}
def forkF(Y:St)(i j:Nat):St:=answerX Y i (BitVec.ofInt 32 (Y.p j).pid)
def forkX(X:St)(i:Nat):St:=if X.procs<=X.l.length∨65535<X.next then codeX X i 11 else forkF (forkE (forkD (forkC (forkB X i) X.P.length) X.P.length) X.P.length) i X.P.length
theorem conv_pid{c:Int}:convV EE.P 3 36 (In c) m=some (Um (BitVec.ofInt 32 c)):=by
 rw[conv_iu]
 congr 2
 rw[wrap_u32,BitVec.toNat_ofInt]
 omega
def Kl(X Y:St):Prop:=Y.l=X.l∧Y.procs=X.procs∧Y.F.length=X.F.length
theorem cloneI_Kl{j:Nat}{F:List (Option Nat)}{l:List Nat}:∀{X:St},Kl X (cloneI X j F l):=by
 induction l with
 |nil=>intro X;exact⟨rfl,rfl,rfl⟩
 |cons k l ih=>
  intro X
  have h1:Kl X (cloneS X j k (F.getD k none)):=by
   cases F.getD k none with
   |none=>exact⟨rfl,rfl,rfl⟩
   |some g=>exact⟨rfl,rfl,rfl⟩
  obtain⟨a1,a2,a3⟩:=ih (X:=cloneS X j k (F.getD k none))
  exact⟨a1.trans h1.1,a2.trans h1.2.1,a3.trans h1.2.2⟩
theorem sharesX_Kl{F:List (Option Nat)}{l:List Nat}:∀{X:St},Kl X (sharesX X F l):=by
 induction l with
 |nil=>intro X;exact⟨rfl,rfl,rfl⟩
 |cons k l ih=>
  intro X
  have h1:Kl X (shareS X (F.getD k none)):=by
   cases F.getD k none with
   |none=>exact⟨rfl,rfl,rfl⟩
   |some g=>exact⟨rfl,rfl,by simp[shareS]⟩
  obtain⟨a1,a2,a3⟩:=ih (X:=shareS X (F.getD k none))
  exact⟨a1.trans h1.1,a2.trans h1.2.1,a3.trans h1.2.2⟩
theorem Sh.shareS(h:GX X){o:Option Nat}(ho:∀x,o=some x->x<X.F.length):Sh 0 X (shareS X o):=by
 cases o with
 |none=>exact Sh.refl h
 |some x=>exact⟨lR' _,by simp[Go.Ab.shareS],lR' _,lR' _,lR' _,lR' _,lR' _,h.set_x (h.xp x (ho x rfl))⟩
theorem Sh.sharesX{F:List (Option Nat)}{l:List Nat}:∀{X:St},GX X->(∀k x,F.getD k none=some x->x<X.F.length)->Sh 0 X (sharesX X F l):=by
 induction l with
 |nil=>intro X h _;exact Sh.refl h
 |cons k l ih=>
  intro X h hF
  have h1:=Sh.shareS h (o:=F.getD k none) (hF k)
  exact h1.trans (ih h1.gx λk x e=>lL (hF k x e) h1.F)
theorem child_PX(h:GX X){i:Nat}(hi:i<X.P.length):PX X (child0 X i):=by
 refine⟨⟨by simp[child0],λk g e=>?_⟩,h.fd i hi,λq e=>(by cases e),λc e=>(by cases e),λc e=>(by cases e)⟩
 have e:(List.replicate 64 (none:Option Nat)).getD k none=some g:=e
 rw[gD',List.getElem?_replicate] at e
 split at e<;>cases e
theorem GX.set_next(h:GX X){n:Int}(hn:2<=n∧n<=65536):GX {X with next:=n}:=⟨h.lp,h.pr,h.fr,h.cp,h.co,hn,h.pg,h.fd,h.pp,h.fc,h.fp,h.gc,h.cb,h.xp,h.ib⟩
theorem Sh.forkA(h:GX X){i:Nat}(hi:i<X.P.length)(hn:X.next<=65535):Sh 0 X (forkA X i):=by
 have h1:=h.add_p (child_PX h hi)
 have hnx:=h.nx
 have hw:IntKind.i64.wrap (X.next+1)=X.next+1:=wrap_i64 (by omega) (by omega)
 exact⟨by simp[Go.Ab.forkA],lR' _,lR' _,lR' _,lR' _,lR' _,lR' _,h1.set_next (n:=IntKind.i64.wrap (X.next+1)) (by rw[hw];omega)⟩
theorem eqv_cpu{c:Cpu}:EE.eqv (.agg (cpuL c).toArray) (.agg (cpuL c).toArray)=true:=eqvA λv hv=>by
 unfold cpuL at hv
 simp only[List.mem_append,List.mem_cons,List.not_mem_nil,or_false,List.mem_map] at hv
 rcases hv with(⟨x,_,rfl⟩|⟨x,_,rfl⟩)|rfl<;>simp[vEqL,vEq,vEqN,zV]
theorem eqv_fds{F:List (Option Nat)}{f:Nat->Nat}:EE.eqv (.agg (F.map λx=>pV (x.map f)).toArray) (.agg (F.map λx=>pV (x.map f)).toArray)=true:=eqvA λv hv=>by
 obtain⟨x,_,rfl⟩:=List.mem_map.1 hv
 cases x<;>simp[vEqL,vEq,vEqN,pV]
theorem fork_ok(h:FAt m L X)(hm:Fresh m)(ht:Tb m)(hg:GX X){i:Nat}(hi:i<X.P.length)(hs:X.seen.length<99990)(hf:X.fut.length<99990):∃u m',Con EE.P 189 [PT (L.p i)] m u m'∧Be m L (forkX X i) m':=by
 refine Con.raw EE_ok fn189 (bA rfl) _ ?_
 obtain⟨cs,h1,h2⟩:=h.pr i hi
 obtain⟨cf,f1,f2⟩:=h.fl
 have hlenA:∀M,lenA EE.P 67 L.lv M=some (In X.l.length):=λM=>h.ls.lenA und_67
 have h64:=hm.n64
 by_cases hc:X.procs<=X.l.length∨65535<X.next
 ·have hB:∀K,∃u m',Con EE.P 87 [PT (L.p i),In 11] (m.bump K) u m'∧Be (m.bump K) L (codeX X i 11) m':=λK=>code_okk (h.bump _) hm.bump (ht.bump _) hi (Nat.lt_trans hs (by decide))
  have e:forkX X i=codeX X i 11:=by unfold forkX;rw[if_pos hc]
  rw[e]
  cases d1:decide (X.procs<=(X.l.length:Int)) with
  |true=>
   simp only[XX,XY,F189,yA,yB,yC,h1,h2.f,f1,f2.procs,f2.lv,hlenA,d1]
   refine cX (hB _) λu M hB'=>?_
   have hB2:=hB'.of_bump
   have nx:=hB2.next
   simp only[XX,yA]
   exact hB2.raw
  |false=>
   have d2:=decide_eq_true (show 65535<X.next from hc.elim (λe=>absurd e (of_decide_eq_false d1)) _root_.id)
   simp only[XX,XY,F189,yA,yB,yC,h1,h2.f,f1,f2.procs,f2.lv,f2.next,hlenA,d1,d2]
   refine cX (hB _) λu M hB'=>?_
   have hB2:=hB'.of_bump
   have nx:=hB2.next
   simp only[XX,yA]
   exact hB2.raw
 have d1:=decide_eq_false (show¬X.procs<=(X.l.length:Int) from λe=>hc (.inl e))
 have d2:=decide_eq_false (show¬65535<X.next from λe=>hc (.inr e))
 have hl1:¬X.procs<=(X.l.length:Int):=λe=>hc (.inl e)
 have hnx:X.next<=65535:=by have:¬65535<X.next:=λe=>hc (.inr e);omega
 have eX:forkX X i=forkF (forkE (forkD (forkC (forkB X i) X.P.length) X.P.length) X.P.length) i X.P.length:=by unfold forkX;rw[if_neg hc]
 rw[eX]
 have c1:=h2.cpu
 have c2:=h2.saved
 have c3:=h2.sig
 have c4:=h2.fds
 have l1:=cpuL_len h2.okc
 have l2:=cpuL_len h2.oks
 have hF8:=(hg.fd i hi).1
 simp only[XX,XY,F189,yA,yB,yC,h1,h2.f,f1,f2.procs,f2.lv,f2.next,hlenA,d1,d2,c3]
 refine cZ (fork_s h2.okh) ?_
 have b83:=build83 (f:=L.f) (nx:=X.next) (pr:=(X.p i).pid) (c:=(X.p i).cpu) (d:=(X.p i).saved) (s:={(X.p i).sig with pend:=0#32}) (V:=(X.p i).fds.map λx=>pV (x.map L.x)) (a:=(X.p i).aff) h2.okc h2.oks h2.okh (by simpa using hF8)
 have b83l:=procL_len (f:=L.f) (nx:=X.next) (pr:=(X.p i).pid) (c:=(X.p i).cpu) (d:=(X.p i).saved) (s:={(X.p i).sig with pend:=0#32}) (V:=(X.p i).fds.map λx=>pV (x.map L.x)) (a:=(X.p i).aff) h2.okc h2.oks h2.okh (by simpa using hF8)
 have b83o:=procL_one (f:=L.f) (nx:=X.next) (pr:=(X.p i).pid) (c:=(X.p i).cpu) (d:=(X.p i).saved) (s:={(X.p i).sig with pend:=0#32}) (V:=(X.p i).fds.map λx=>pV (x.map L.x)) (a:=(X.p i).aff) (by
  rw[List.all_map]
  exact List.all_eq_true.2 λx _=>by
   show oneCell (pV (x.map L.x))=true
   cases x<;>rfl)
 have hPC:=child_PC (L:=L) (X:=X) (i:=i) h2.okc h2.oks h2.okh hF8
 have k1:10+1<=cf.n:=by rw[f2.n];decide
 have nf:∀k,¬L.f=m.next+k:=λk=>by have:=h.ids_lt h.mf;omega
 simp only[XX,XY,F189,yA,yB,yC,h1,f1,f2.next,c1,c2,c4,h2.pid,h2.aff,b83,k1,nf,@eqvI,@eqv_cpu,@eqv_fds]
 obtain⟨j,hjE⟩:∃j,j=X.P.length:=⟨_,rfl⟩
 refine CallI.gen (λM=>∃L1,FAt M L1 (forkA X i)∧Lx m.next L L1∧Fd L.D m M∧L1.p i=L.p i∧L1.p j=m.next+54) ?_ λM1 hM1=>?_
 ·have h0:=h.bump 67
  have hnD:¬L.D (m.next+54):=λe=>by have:=h.lt _ e;omega
  have A1:=h0.add_p hg (b:=m.next+54) hnD nO (by omega) hPC (child_PX hg hi)
  have A2:=A1.s_next (cf:=cf) (x:=IntKind.i64.wrap (X.next+1)) (by
   show(Mem.put _ _ _).get L.f=_
   rw[gP,if_neg (nf 54)];exact f1)
  have hF2:=(((Fd.refl hm (D:=L.D)).bump 67).putN (b:=m.next+54) (o:= .cells (ofL (procL L.f X.next (X.p i).pid (X.p i).cpu (X.p i).saved {(X.p i).sig with pend:=0#32} ((X.p i).fds.map λx=>pV (x.map L.x)) (X.p i).aff)) true 0) (by omega) nO).putO (o:= .cells (cf.write 10 [In (IntKind.i64.wrap (X.next+1))]) true 0) (h.dm _ h.mf) (h.ids_lt h.mf) (by rw[f1];simp)
  refine⟨{L with P:=L.P++ [m.next+54],D:=λy=>L.D y∨y=m.next+54},?_,⟨rfl,⟨[m.next+54],rfl⟩,⟨[],by simp⟩,⟨[],by simp⟩,⟨[],by simp⟩,⟨[],by simp⟩,λy hy=>hy.imp _root_.id λe=>by omega⟩,?_,?_,?_⟩
  ·simp only[put_bump] at A2;exact A2
  ·simp only[put_bump] at hF2;exact hF2
  ·exact getD_app (by rw[h.lP];exact hi)
  ·show(L.P++ [m.next+54]).getD j 0=_
   rw[hjE,<-h.lP,getD_last]
 obtain⟨L1,a1,x1,f1',e1i,e1j⟩:=hM1
 have SA:=Sh.forkA hg hi hnx
 have hPA:(forkA X i).P.length=j+1:=by rw[hjE];simp[forkA]
 have hiA:i<(forkA X i).P.length:=by omega
 have hjA:j<(forkA X i).P.length:=by omega
 rw[<-hjE]
 have hji:i≠j:=by omega
 refine cX (by rw[<-e1i,<-e1j];exact clone_ok' a1 f1'.fresh SA.gx hiA hjA hji) λu M2 hB2=>?_
 have SB:Sh 0 X (forkB X i):=by
  unfold forkB
  exact SA.trans (Sh.cloneI SA.gx (by rw[<-hjE];exact hjA) λk g e=>(SA.gx.pg i hiA).2 k g e)
 have KB:Kl (forkA X i) (forkB X i):=cloneI_Kl
 have lB:(forkB X i).l=X.l:=KB.1
 have prB:(forkB X i).procs=X.procs:=KB.2.1
 have hB2:Be M1 L1 (forkB X i) M2:=by unfold forkB;rw[<-hjE];exact hB2
 have hPB:(forkA X i).P.length<=(forkB X i).P.length:=by
  unfold forkB
  exact(Sh.cloneI SA.gx (by rw[<-hjE];exact hjA) λk g e=>(SA.gx.pg i hiA).2 k g e).P
 generalize forkB X i=B at SB KB lB prB hB2 hPB⊢
 have hjB:j<B.P.length:=by omega
 have hiB:i<B.P.length:=by omega
 obtain⟨L2,a2,x2,f2'⟩:=hB2
 have e2i:L2.p i=L.p i:=(x2.p (by rw[a1.lP];exact hiA)).trans e1i
 have e2j:L2.p j=m.next+54:=(x2.p (by rw[a1.lP];exact hjA)).trans e1j
 have e2f:L2.f=L.f:=x2.f.trans x1.f
 have n1:=f1'.next
 have n2:m.next<=M2.next:=by have:=f2'.next;omega
 have n54:m.next+54<M2.next:=by have:=a2.ids_lt (a2.mp hjB);rw[e2j] at this;exact this
 have xL:Lx m.next L L2:=x1.trans x2 n1
 have fL:Fd L.D m M2:=f1'.trans f2' λy hy=>x1.D y hy
 have hF2:=f2'.fresh
 obtain⟨cj,q1,q2⟩:=a2.pr j hjB
 obtain⟨F,hFE⟩:∃F,F=(B.p j).fds:=⟨_,rfl⟩
 have eC:forkC B j=sharesX B F (List.range 8):=by rw[hFE];rfl
 rw[eC]
 have q3:=q2.fds
 rw[<-hFE] at q3
 rw[e2j] at q1
 have hFl:F.length=8:=by rw[hFE];exact(SB.gx.fd j hjB).1
 have hFx:∀k x,F.getD k none=some x->x<B.F.length:=λk x e=>by rw[hFE] at e;exact(SB.gx.fd j hjB).2 k x e
 have hl8:(F.map λx=>pV (x.map L2.x)).length=8:=by rw[lM];exact hFl
 simp only[XX,XY,F189,yA,yB,yC,n2,q1,q3]
 refine WX.loop_of (λkk tt M=>∃k:Nat,k<=8∧kk=8-k∧tt=T 120 [(76,In k),(75, .agg (F.map λx=>pV (x.map L2.x)).toArray),(3,PT (m.next+54)),(2,PT L.f),(0,PT (L.p i))]∧Be M2 L2 (sharesX B F (List.range k)) M) ?_ (k:=8) (t1:=T 120 [(76,In (0:Nat)),(75, .agg (F.map λx=>pV (x.map L2.x)).toArray),(3,PT (m.next+54)),(2,PT L.f),(0,PT (L.p i))]) (vT ⟨rfl,rfl,rfl,rfl,rfl,trivial⟩) ⟨0,by omega,rfl,rfl,by rw[sharesX_0];exact Be.same a2 hF2 _⟩
 rintro kk tt M ⟨k,hk,rfl,rfl,hB⟩
 have nx:m.next<=M.next:=by have:=hB.next;omega
 have SC:=Sh.sharesX (l:=List.range k) SB.gx hFx
 have KC:Kl B (sharesX B F (List.range k)):=sharesX_Kl
 by_cases hk2:k<8
 ·have g1:(k:Int)<8:=by omega
  have g2:(0:Int)<=k:=by omega
  have g3:(k:Int)<((8:Nat):Int):=by omega
  have hw:IntKind.i64.wrap ((k:Int)+1)=((k+1:Nat):Int):=by rw[wrap_i64 (by omega) (by omega)];omega
  have hix:ixV EE.P 79 (.agg (F.map λx=>pV (x.map L2.x)).toArray) (In k)=some (pV ((F.getD k none).map L2.x)):=by
   rw[ixV_agg und_79 g2 g3,sz_78,lay_78,paG_1,Int.toNat_natCast,Nat.mul_one,gM',gD',gE' (by omega)];rfl
  have eS:sharesX B F (List.range (k+1))=shareS (sharesX B F (List.range k)) (F.getD k none):=by rw[List.range_succ,sharesX_snoc]
  cases hx:F.getD k none with
  |none=>
   rw[hx] at hix eS
   simp only[XX,XY,F189,yA,yB,yC,pV_n',g1,hix,nx,hw,roundQ_normal,lA]
   refine⟨8-(k+1),_,_,by omega,vT (l':=[(76,In ((k+1:Nat):Int)),(75, .agg (F.map λx=>pV (x.map L2.x)).toArray),(3,PT (m.next+54)),(2,PT L.f),(0,PT (L.p i))]) ⟨rfl,rfl,rfl,rfl,rfl,trivial⟩,k+1,by omega,rfl,rfl,?_⟩
   rw[eS]
   exact hB.bump _
  |some x=>
   rw[hx] at hix eS
   have hxl0:=hFx k x hx
   generalize sharesX B F (List.range k)=Y at hB SC KC eS
   have hxl:=lL hxl0 SC.F
   obtain⟨L3,a3,x3,f3⟩:=hB
   have ex:L3.x x=L2.x x:=x3.x (by rw[a2.lF];exact hxl0)
   obtain⟨cx,p1,p2⟩:=a3.xs x hxl
   have p1':=p1
   rw[ex] at p1
   have k3:2+1<=cx.n:=by rw[p2.n];decide
   simp only[XX,XY,F189,yA,yB,yC,pV_s',g1,hix,nx,p1,p2.refs,k3,hw,roundQ_normal,lA]
   refine⟨8-(k+1),_,_,by omega,vT (l':=[(76,In ((k+1:Nat):Int)),(75, .agg (F.map λx=>pV (x.map L2.x)).toArray),(3,PT (m.next+54)),(2,PT L.f),(0,PT (L.p i))]) ⟨rfl,rfl,rfl,rfl,rfl,trivial⟩,k+1,by omega,rfl,rfl,?_⟩
   rw[eS,<-ex]
   exact(bE x3 f3 (a3.be_x f3.fresh hxl (p2.w_refs (x:=IntKind.i64.wrap ((Y.x x).refs+1))))).bump _
 ·obtain rfl:k=8:=by omega
  have g1:¬((8:Nat):Int)<8:=by omega
  generalize sharesX B F (List.range 8)=Y at hB SC KC⊢
  have hjY:=lL hjB SC.P
  have hiY:=lL hiB SC.P
  obtain⟨L3,a3,x3,f3⟩:=hB
  have e3i:L3.p i=L.p i:=(x3.p (by rw[a2.lP];exact hiB)).trans e2i
  have e3j:L3.p j=m.next+54:=(x3.p (by rw[a2.lP];exact hjB)).trans e2j
  have e3f:L3.f=L.f:=x3.f.trans e2f
  obtain⟨c3,r1,r2⟩:=a3.pr j hjY
  obtain⟨cf3,s1,s2⟩:=a3.fl
  rw[e3j] at r1
  have hpj:=a3.ids_lt (a3.mp hjY)
  rw[e3j] at hpj
  have hpc:(c3.write 5 [.int .u32 0]).nth 15=some (Um (Y.p j).cpu.pc):=by rw[nth_write_ne (.inr (bA rfl)),pc_nth r2]
  have hp1:PC L3 {Y.p j with cpu:={(Y.p j).cpu with r:=(Y.p j).cpu.r.set 0 0#32}} (c3.write 5 [Um 0#32]):=r2.w1_cpu (k:=0) (by decide) (cpuL_setr r2.okc (by decide)) ⟨by rw[sL];exact r2.okc.1,r2.okc.2⟩
  have hp2:=hp1.w1_cpu (k:=10) (x:={(Y.p j).cpu with r:=(Y.p j).cpu.r.set 0 0#32,pc:=(Y.p j).cpu.pc+4#32}) (v:=Um ((Y.p j).cpu.pc+4#32)) (by decide) (cpuL_setpc hp1.okc) hp1.okc
  have ha4:IntKind.u32.wrap (((Y.p j).cpu.pc.toNat:Int)+4)=(((Y.p j).cpu.pc+4#32).toNat:Int):=by rw[<-add32];rfl
  have k5:5+1<=c3.n:=by rw[r2.n];decide
  have k6:15+1<=c3.n:=by rw[r2.n];decide
  have i0:(0:Int)<=0:=by decide
  have i1:(0:Int)<((8:Nat):Int):=by decide
  have t0:Int.toNat 0=0:=rfl
  have u0:(.int .u32 0:Value)=Um 0#32:=rfl
  have bs67:∀x:Nat,bsV EE.P 67 1 [(0,PT x)]=some ([PT x],1):=λx=>by kernel_rfl
  have lv3:=s2.lv
  rw[e3f] at s1
  have nff:¬L.f=m.next+54:=nf 54
  have nfM:∀k,¬L.f=M.next+k:=λk=>by have:=h.ids_lt h.mf;omega
  have njM:∀k,¬m.next+54=M.next+k:=λk=>by omega
  simp only[XX,XY,F189,yA,yB,yC,yE,g1,nx,r1,k5,k6,hpc,ha4,i0,i1,t0,bs67,s1,lv3,nff,roundQ_exit,lA]
  obtain⟨Md,hMd⟩:∃Md,Md=((M.put (m.next+54) (.cells (c3.write 5 [.int .u32 0]) true 0)).put (m.next+54) (.cells ((c3.write 5 [.int .u32 0]).write 15 [Um ((Y.p j).cpu.pc+4#32)]) true 0)):=⟨_,rfl⟩
  have hMdn:Md.next=M.next:=by rw[hMd];rfl
  have hAD:FAt Md L3 (forkD Y j):=by
   rw[hMd,<-e3j]
   exact a3.upd_p hjY hp2 nO (by rw[gP,if_pos rfl];rfl) (λy hy hne=>by rw[gP,if_neg hne,gP,if_neg hne])
  have hFD:Fd L3.D M Md:=by
   rw[hMd,<-e3j]
   have hD:=a3.dm _ (a3.mp hjY)
   have hlt3:=a3.ids_lt (a3.mp hjY)
   obtain⟨cc,hcc⟩:=a3.cell0 (a3.mp hjY)
   exact((Fd.refl f3.fresh).putO hD hlt3 (by rw[hcc];simp)).putO hD hlt3 (by rw[hcc];simp)
  have hFDf:=hFD.fresh
  have hgd:Md.get (m.next+54)=some (.cells ((c3.write 5 [.int .u32 0]).write 15 [Um ((Y.p j).cpu.pc+4#32)]) true 0):=by rw[hMd,gP,if_pos rfl]
  have hgf:Md.get L.f=some (.cells cf3 true 0):=by rw[hMd,gP,if_neg nff,gP,if_neg nff];exact s1
  have hnd:∀k,¬L3.D (M.next+k):=λk e=>by have:=a3.lt _ e;omega
  have hAb:FAt ((Md.put (M.next+23) (.cells (ofL [PT (m.next+54)]) true 1)).bump 28) L3 (forkD Y j):=(hAD.new (hnd 23)).bump 28
  have lY:Y.l=X.l:=KC.1.trans lB
  have prY:Y.procs=X.procs:=KC.2.1.trans prB
  have hln:(forkD Y j).l.length=X.l.length:=by show Y.l.length=_;rw[lY]
  have h32:=hg.ln
  rw[hMd] at hAb
  refine okI_app (k:=1) (new:=[PT (m.next+54)]) el67 hAb.ls (src_put rfl) (by decide) rfl rfl (.inl rfl) (by rw[hln];omega) λv' M' hA=>?_
  rw[<-hMd] at hA
  have na:=hA.next
  simp only[bN,nP] at na
  have hold:∀y,y<Md.next->slB L3.lv≠some y->M'.get y=Md.get y:=λy hy hs=>by
   rw[hA.old y (by omega) hs,gB,gP,if_neg (by omega)]
  have hltf:=h.ids_lt h.mf
  have nlv:∀{y:Nat} {cs:Cells},Md.get y=some (.cells cs true 0)->slB L3.lv≠some y:=λhy=>hAD.ls.ne0 (by decide) hy
  have z1:M'.get L.f=some (.cells cf3 true 0):=(hold _ (by omega) (nlv hgf)).trans hgf
  have z2:M'.get (m.next+54)=some (.cells ((c3.write 5 [.int .u32 0]).write 15 [Um ((Y.p j).cpu.pc+4#32)]) true 0):=(hold _ (by omega) (nlv hgd)).trans hgd
  have z3:5+1<=cf3.n:=by rw[s2.n];decide
  have z4:((c3.write 5 [.int .u32 0]).write 15 [Um ((Y.p j).cpu.pc+4#32)]).nth 1=some (In (Y.p j).pid):=hp2.pid
  have nffj:¬m.next+54=L.f:=λe=>nff e.symm
  have hsl:SlV M' 1 v' ((forkD Y j).l++ [j]).length (((forkD Y j).l++ [j]).map λi=>PT (L3.p i)):=by
   rw[aL,List.map_append]
   show SlV M' 1 v' _ (_++ [PT (L3.p j)])
   rw[e3j]
   exact hA.sl
  obtain⟨cfd,t1,t2⟩:=hAD.fl
  have t1':=t1
  rw[e3f,hgf] at t1'
  cases t1'
  have hpjY:j<(forkD Y j).P.length:=by simpa [forkD] using hjY
  have hres:=hAD.set_lv (M:=M') (v':=v') (id:=M.next+24) (S:=(forkD Y j).l++ [j]) t1 t2 (by omega) ⟨by omega,by omega⟩ (by omega) hold hsl (λk hk=>by
   rcases List.mem_append.1 hk with hk|hk
   ·exact hAD.pi k hk
   ·rw[List.mem_singleton.1 hk];exact hpjY) (by
   rcases hA.blk with⟨e,_⟩|e
   ·exact .inl e
   ·exact .inr (.inl e))
  have hF5:Fd L3.D Md (M'.put L3.f (.cells (cf3.write 5 [v']) true 0)):=by
   refine⟨by rw[nP];omega,Fresh.of_low nO (λy hy=>?_),λy hy hD=>?_,λy hy e=>?_⟩
   ·rw[nP] at hy
    rw[gP,if_neg (by rw[e3f];omega)]
    exact hA.low y (by omega) (by rw[gB,gP,if_neg (by omega)];exact hFDf.none y (by omega))
   ·rw[gP,if_neg (λe=>hD (by rw[e];exact hAD.dm _ hAD.mf)),hold y hy (λe=>hD (hAD.dl y e))]
   ·rw[gP,if_neg (λe2=>by rw[e2,t1] at e;cases e)]
    exact hA.low y (by omega) (by rw[gB,gP,if_neg (by omega)];exact e)
  have hx5:Lx Md.next L3 {L3 with f:=L.f,lv:=v',D:=λy=>L3.D y∨y=M.next+24}:=⟨e3f.symm,⟨[],by simp⟩,⟨[],by simp⟩,⟨[],by simp⟩,⟨[],by simp⟩,⟨[],by simp⟩,λy hy=>hy.imp _root_.id λe=>by omega⟩
  obtain⟨bs,cs',cb,rfl,_⟩:=hA.sl.cons (by omega)
  rw[e3f] at hres hF5
  have n9:m.next<=M'.next:=by omega
  have SD:Sh 0 Y (forkD Y j):=Sh.set_p SC.gx ((SC.gx.px hjY).w (r':={Y.p j with cpu:={(Y.p j).cpu with r:=(Y.p j).cpu.r.set 0 0#32,pc:=(Y.p j).cpu.pc+4#32}}) rfl rfl (.inl rfl) (.inl rfl))
  have epid:((forkE (forkD Y j) j).p j).pid=(Y.p j).pid:=by
   show((Y.P.set j _).getD j proc0).pid=_
   rw[getD_set_self hjY]
  have htM:Tb M':=by
   have t0:Tb M2:=ht.fd fL hm h.d64
   have t1:Tb M:=t0.fd f3 hF2 a2.d64
   have t2:Tb Md:=t1.fd hFD f3.fresh a3.d64
   exact t2.keep λy hy=>hold y (by omega) λe=>by have:=hAD.d64 _ (hAD.dl y e);omega
  have sn0:Y.seen.length<=X.seen.length+0:=(SB.trans SC).sn
  simp only[XX,XY,F189,yA,yB,yC,z1,z2,z3,z4,n9,nffj,conv_pid]
  refine cX (by rw[<-e3i];exact answer_ok (L:={L3 with f:=L.f,lv:= .slice (some ⟨bs,0,none⟩) ((forkD Y j).l.length+1) cs',D:=λy=>L3.D y∨y=M.next+24}) (i:=i) (X:=forkE (forkD Y j) j) (hres.bump _) hF5.fresh.bump ((htM.put (h.d64 _ (h.dm _ h.mf))).bump _) (by show i<(Y.P.set j _).length;rw[sL];exact hiY) (show Y.seen.length<100000 by omega)) λu M9 hB9=>?_
  have hB9:=hB9.of_bump
  have n10:=hB9.next
  rw[nP] at n10
  have n11:m.next<=M9.next:=by omega
  simp only[XX,yA]
  refine RawE.fin (by unfold forkF;rw[epid]) (bE xL fL (bE x3 f3 (bE Lx.refl hFD (bE hx5 hF5 hB9))))
end
end
end Go.Ab
namespace Go.Ab
open Go.Shelf Go.Proofs Go.RowKit
noncomputable section
set_option maxHeartbeats 4000000
set_option maxRecDepth 10000
section
variable{P:Program}{ρs:Ren}
theorem Post.lay{σ:Sig}{ρ:Rho}{m:Mem}{w w':World}(h:Rel σ ρ m w)(hb:Below w.heap.size w w'){id:Nat}(hid:ρ id=none)(hlt:id<m.next){ob:AObj}{x:Nat×Nat×Nat}(hx:w.heap.size<=x.1)
  (hob:ORel σ (upd ρ id x) w' x ob):Post σ ρ m w (upd ρ id x) (m.put id ob) w':=by
 have he:=upd_ext hid x
 have hge:64<=id:=by
  rcases Nat.lt_or_ge id 64 with hl|hl
  ·rw[h.glob id hl] at hid;cases hid
  ·exact hl
 refine⟨⟨λb hb=>?_,λg hg=>?_,λb o y hb' hy=>?_,?_,λb hb=>by rw[gP,if_neg (by simp at hb;omega)];exact h.fresh b hb⟩,he,lR' _,hb.size,hb.os,hb.tape,hb.output,λk hk _=>hb.block k hk,λb o y hb' hy hlt'=>?_⟩
 ·have:b≠id:=by simp at hb;omega
  simp only[upd,this,if_false]
  exact h.dom b hb
 ·have:g≠id:=by omega
  simp only[upd,this,if_false]
  exact h.glob g hg
 ·rw[gP] at hb'
  by_cases e:b=id
  ·subst e
   rw[if_pos rfl] at hb'
   cases hb'
   rw[upd_same] at hy
   cases hy
   exact hob
  ·rw[if_neg e] at hb'
   have hy':ρ b=some y:=by simpa [upd,e] using hy
   have:=h.obj b o y hb' hy'
   exact this.keep he (hb.block _ this.lt)
 ·intro b1 b2 o1 o2 x1 x2 hne h1 h2 g1 g2 hw
  rw[gP] at h1 h2
  by_cases e1:b1=id
  ·subst e1
   rw[upd_same] at g1
   cases g1
   rw[if_neg (λe=>hne e.symm)] at h2
   have e':b2≠b1:=λe=>hne e.symm
   have g2':ρ b2=some x2:=by simpa [upd,e'] using g2
   have:=(h.obj b2 o2 x2 h2 g2').lt
   omega
  ·rw[if_neg e1] at h1
   have g1':ρ b1=some x1:=by simpa [upd,e1] using g1
   by_cases e2:b2=id
   ·subst e2
    rw[upd_same] at g2
    cases g2
    have:=(h.obj b1 o1 x1 h1 g1').lt
    omega
   ·rw[if_neg e2] at h2
    have g2':ρ b2=some x2:=by simpa [upd,e2] using g2
    exact h.inj b1 b2 o1 o2 x1 x2 hne h1 h2 g1' g2' hw
 ·rw[gP] at hb'
  by_cases e:b=id
  ·subst e
   rw[upd_same] at hy
   cases hy
   omega
  ·rw[if_neg e] at hb'
   exact⟨b,o,y,hb',by simpa [upd,e] using hy,rfl,λhw=>hw⟩
theorem zcE_get{z:Value}{n i:Nat}(h:i<n):(Builtin.zeroCells #[z] n)[i]? =some z:=by
 unfold Builtin.zeroCells
 rw[Array.getElem?_map]
 simp[h,Nat.mod_one]
theorem zcE_size{z:Value}{n:Nat}:(Builtin.zeroCells #[z] n).size=n:=by
 unfold Builtin.zeroCells
 simp
theorem growE(L:Lays8.n4 P ρs){i0:TypeInfo}{z:Value}(hi0:P.info? (ρs.t 25)=some i0)(hz0:i0.zero=some z)(hzc:z.cells= #[z])(hzr:∀ρ:Rho,VRel Sig.none ρ z z)(hs0:i0.size=1)(hb0:i0.bytes<=8){m:Mem}{n:Nat}(hn:0<n)(hn2:n<4294967296):
  Con P (ρs.f 4) [.slice none 0 0, .int .i64 n] m (.slice (some ⟨m.next,0,none⟩) 0 n) ((m.bump 1).put m.next (.cells (ofL (List.replicate n z)) true 1)):=by
 refine⟨λρ w args' hR ha=>?_,by simp,λy hy e=>?_⟩
 ·obtain⟨x1,x2,hx'⟩:∃x1 x2,args'.toList=[x1,x2]:=by
   have h1:=ha.1
   match hl:args'.toList with
   |[x1,x2]=>exact⟨x1,x2,rfl⟩
   |[]=>rw[hl] at h1;simp at h1
   |[_]=>rw[hl] at h1;simp at h1
   |_::_::_::_=>rw[hl] at h1;simp at h1
  have hargs:args'= #[x1,x2]:=by
   apply Array.toList_inj.1
   simpa using hx'
  rw[hx'] at ha
  have e1:x1= .slice none 0 0:=by
   have h:=ha.2 0 (by simp)
   simp only[List.getD_cons_zero] at h
   cases h;rfl
  have e2:x2= .int .i64 n:=by
   have h:=ha.2 1 (by simp)
   simp only[List.getD_cons_succ,List.getD_cons_zero] at h
   exact h.int_inv
  subst e1 e2 hargs
  refine callsIn_wide.2 ((Any8.slices_Grow_grow L i0 z hi0 hz0 (by omega) none 0 0 n [] w (lR' _) (by omega) (lT (Nat.mul_le_mul_left _ hb0) (by omega)) (by omega) (by simp) (λ_=>rfl) (λa ha=>by cases ha)).mono ?_)
  rintro e w' ⟨rfl,rfl⟩
  rw[Nat.zero_add]
  have hgc:=grownCap_le w n 0 (ρs.t 25)
  obtain⟨gc,hg⟩:∃gc,gc=grownCap w n 0 (ρs.t 25):=⟨_,rfl⟩
  rw[<-hg] at hgc⊢
  rw[hzc]
  have hid:=hR.dom m.next (lR' _)
  have hB:RowKit.Below w.heap.size w (w.drew.alloc (.cells ([].toArray++Builtin.zeroCells #[z] (n-0)++Builtin.zeroCells #[z] (gc-n)) (ρs.t 25))):=
   ⟨rfl,rfl,rfl,by simp only[World.alloc,World.drew,Array.size_push];omega,λk hk=>by
    simp only[World.alloc,World.drew,Array.getElem?_push]
    rw[if_neg (by omega)]⟩
  refine⟨_,upd ρ m.next (w.heap.size,0,gc-n),rfl,?_,(Post.bump hR 1).trans (Post.lay (hR.bump 1) hB hid (by simp) (lR' _) ?_),λb hb e=>?_⟩
  ·have:=VRel.slice (σ:=Sig.none) (o:=0) (upd_same ρ m.next (w.heap.size,0,gc-n)) (n:=0) (c:=n) (c':=gc) (.inr (by omega)) (Nat.zero_le _)
   simpa using this
  ·show CellsRel _ _ _ _ (ofL _).list true 1
   rw[Cells.ofList_list]
   refine⟨_,_,(0,0),by simp only[World.alloc,World.drew,Array.getElem?_push,if_true];rfl,?_,⟨λ_=>rfl,λe=>absurd e (by omega)⟩,λi hi=>?_⟩
   ·simp only[List.length_replicate]
    show 0+n+(gc-n)*1<=_
    simp only[Array.size_append,zcE_size,List.size_toArray,List.length_nil]
    omega
   ·simp only[List.length_replicate] at hi
    rw[gD',List.getElem?_replicate,if_pos hi,Array.getD_eq_getD_getElem?]
    show VRel _ _ _ ((_:Option Value).getD undef)
    rw[show(w.heap.size,0,gc-n).snd.fst+i=i from Nat.zero_add i]
    rw[Array.getElem?_append_left (by rw[Array.size_append,zcE_size];simp;omega)]
    rw[show([].toArray++Builtin.zeroCells #[z] (n-0))=Builtin.zeroCells #[z] n by simp,zcE_get hi]
    exact hzr _
  ·have:b≠m.next:=by omega
   simpa [upd,this] using e
 ·rw[gP,if_neg (by omega)];exact e
theorem growE_zero(L:Lays8.n4 P ρs){m:Mem}:Con P (ρs.f 4) [.slice none 0 0, .int .i64 0] m (.slice none 0 0) m:=by
 refine⟨λρ w args' hR ha=>?_,Grow.rfl⟩
 obtain⟨x1,x2,hx'⟩:∃x1 x2,args'.toList=[x1,x2]:=by
  have h1:=ha.1
  match hl:args'.toList with
  |[x1,x2]=>exact⟨x1,x2,rfl⟩
  |[]=>rw[hl] at h1;simp at h1
  |[_]=>rw[hl] at h1;simp at h1
  |_::_::_::_=>rw[hl] at h1;simp at h1
 have hargs:args'= #[x1,x2]:=by
  apply Array.toList_inj.1
  simpa using hx'
 rw[hx'] at ha
 have e1:x1= .slice none 0 0:=by
  have h:=ha.2 0 (by simp)
  simp only[List.getD_cons_zero] at h
  cases h;rfl
 have e2:x2= .int .i64 ((0:Nat):Int):=by
  have h:=ha.2 1 (by simp)
  simp only[List.getD_cons_succ,List.getD_cons_zero] at h
  exact h.int_inv
 subst e1 e2 hargs
 refine callsIn_wide.2 ((Any8.slices_Grow_room L none 0 0 0 w (lR' _) (by omega) (by omega) (by omega)).mono ?_)
 rintro e w' ⟨rfl,rfl⟩
 exact⟨_,ρ,rfl, .nilSlice,Post.refl hR,λ_ _ e=>e⟩
end
def growP_ren:Go.Shelf.Ren:=⟨λ|4=>296|n=>n,λ|22=>67|25=>70|3=>3|4=>4|9=>9|20=>20|0=>0|n=>n,λ|n=>n⟩
theorem growP_lays:Lays8.n4 Tryz.prog growP_ren where
 mixed:=kr
 f4:=⟨"slices.Grow[[]*carryall/flat.proc,*carryall/flat.proc]",by decide,Tryz.func296.trans (congrArg some kr)⟩
 t0:=Tryz.underlying0
 a0:=Tryz.isAgg0
 z0:=Tryz.sizeOf0
 v0:=Tryz.zeroValue0
 t3:=Tryz.underlying3
 a3:=Tryz.isAgg3
 z3:=Tryz.sizeOf3
 v3:=Tryz.zeroValue3
 t4:=Tryz.underlying4
 a4:=Tryz.isAgg4
 z4:=Tryz.sizeOf4
 v4:=Tryz.zeroValue4
 t9:=Tryz.underlying9
 a9:=Tryz.isAgg9
 z9:=Tryz.sizeOf9
 v9:=Tryz.zeroValue9
 t20:=Tryz.underlying20
 a20:=Tryz.isAgg20
 z20:=Tryz.sizeOf20
 v20:=Tryz.zeroValue20
 t22:=Tryz.underlying67
 a22:=Tryz.isAgg67
 z22:=Tryz.sizeOf67
 v22:=Tryz.zeroValue67
def growB_ren:Go.Shelf.Ren:=⟨λ|4=>295|n=>n,λ|22=>127|25=>5|3=>3|4=>4|9=>9|20=>20|0=>0|n=>n,λ|n=>n⟩
theorem growB_lays:Lays8.n4 Tryz.prog growB_ren where
 mixed:=kr
 f4:=⟨"slices.Grow[[]byte,byte]",by decide,Tryz.func295.trans (congrArg some kr)⟩
 t0:=Tryz.underlying0
 a0:=Tryz.isAgg0
 z0:=Tryz.sizeOf0
 v0:=Tryz.zeroValue0
 t3:=Tryz.underlying3
 a3:=Tryz.isAgg3
 z3:=Tryz.sizeOf3
 v3:=Tryz.zeroValue3
 t4:=Tryz.underlying4
 a4:=Tryz.isAgg4
 z4:=Tryz.sizeOf4
 v4:=Tryz.zeroValue4
 t9:=Tryz.underlying9
 a9:=Tryz.isAgg9
 z9:=Tryz.sizeOf9
 v9:=Tryz.zeroValue9
 t20:=Tryz.underlying20
 a20:=Tryz.isAgg20
 z20:=Tryz.sizeOf20
 v20:=Tryz.zeroValue20
 t22:=Tryz.underlying127
 a22:=Tryz.isAgg127
 z22:=Tryz.sizeOf127
 v22:=Tryz.zeroValue127
theorem info70:∃i,Tryz.prog.info? 70=some i∧i.zero=some (.pointer none)∧i.size=1∧i.bytes<=8:=by
 have h1:(Tryz.prog.info? 70).map (λi=>(i.size,i.bytes))=some (1,8):=kr
 have h2:(Tryz.prog.info? 70).bind (·.zero)=some (.pointer none):=kr
 cases h:Tryz.prog.info? 70 with
 |none=>rw[h] at h1;cases h1
 |some i=>
  rw[h] at h1 h2
  simp only[Option.map_some,sI,pI,Option.bind_some] at h1 h2
  exact⟨i,rfl,h2,h1.1,by omega⟩
theorem info5:∃i,Tryz.prog.info? 5=some i∧i.zero=some (.int .u8 0)∧i.size=1∧i.bytes<=8:=by
 have h1:(Tryz.prog.info? 5).map (λi=>(i.size,i.bytes))=some (1,1):=kr
 have h2:(Tryz.prog.info? 5).bind (·.zero)=some (.int .u8 0):=kr
 cases h:Tryz.prog.info? 5 with
 |none=>rw[h] at h1;cases h1
 |some i=>
  rw[h] at h1 h2
  simp only[Option.map_some,sI,pI,Option.bind_some] at h1 h2
  exact⟨i,rfl,h2,h1.1,by omega⟩
theorem growP_ok{m:Mem}{n:Nat}(hn:0<n)(hn2:n<4294967296):Con EE.P 296 [.slice none 0 0,In n] m (.slice (some ⟨m.next,0,none⟩) 0 n) ((m.bump 1).put m.next (.cells (ofL (List.replicate n (.pointer none))) true 1)):=by
 obtain⟨i,h1,h2,h3,h4⟩:=info70
 exact growE (P:=Tryz.prog) growP_lays h1 h2 rfl (λρ=>plain_refl ρ rfl) h3 h4 hn hn2
theorem growB_ok{m:Mem}{n:Nat}(hn:0<n)(hn2:n<4294967296):Con EE.P 295 [.slice none 0 0,In n] m (.slice (some ⟨m.next,0,none⟩) 0 n) ((m.bump 1).put m.next (.cells (ofL (List.replicate n (.int .u8 0))) true 1)):=by
 obtain⟨i,h1,h2,h3,h4⟩:=info5
 exact growE (P:=Tryz.prog) growB_lays h1 h2 rfl (λρ=>plain_refl ρ rfl) h3 h4 hn hn2
theorem growP_0{m:Mem}:Con EE.P 296 [.slice none 0 0,In 0] m (.slice none 0 0) m:=growE_zero (P:=Tryz.prog) growP_lays
theorem growB_0{m:Mem}:Con EE.P 295 [.slice none 0 0,In 0] m (.slice none 0 0) m:=growE_zero (P:=Tryz.prog) growB_lays
end
end Go.Ab
namespace Go.Ab
open Go.Proofs
noncomputable section
set_option maxHeartbeats 4000000
set_option maxRecDepth 10000
section
variable{m m' M mr:Mem}{n:Nat}{v:Value}{fl:List Value}
theorem src_congr{sz:Nat}{M M':Mem}{v:Value}(h:∀y,slB v=some y->M'.get y=M.get y):srcA sz v M'=srcA sz v M:=by
 cases v with
 |slice base n c=>
  match base,h with
  |none,_=>cases n<;>rfl
  |some ⟨b,o,none⟩,h=>rw[src_at,src_at,h b rfl]
  |some ⟨b,o,some _⟩,_=>cases n<;>rfl
 |_=>rfl
def tot(f1 f2:List Value):Nat->Nat
 |0=>0
 |1=>f1.length
 |_=>f1.length+f2.length
def totL(f1 f2:List Value):Nat->List Value
 |0=> []
 |1=>f1
 |_=>f1++f2
theorem concat_growP(hm:Fresh m){b0:Nat}{v1 v2:Value}{f1 f2:List Value}(hb:m.get b0=some (.cells (ofL [v1,v2]) true 1))(c1:oneCell v1=true)(c2:oneCell v2=true)(s1:srcA 1 v1 m=some (f1,f1.length))(s2:srcA 1 v2 m=some (f2,f2.length))(l1:∀M,lenA EE.P 67 v1 M=some (In f1.length))(l2:∀M,lenA EE.P 67 v2 M=some (In f2.length))(o1:f1.all oneCell=true)(o2:f2.all oneCell=true)(hlen:f1.length+f2.length<1000000)(hv1:∀y,slB v1=some y->y<m.next)(hv2:∀y,slB v2=some y->y<m.next):
  ∃u m',Con EE.P 239 [.slice (some ⟨b0,0,none⟩) 2 2] m u m'∧NewV m m' 1 u (f1.length+f2.length) (f1++f2):=by
 refine Con.raw EE_ok fn239 (bA rfl) _ ?_
 have hb0:=hm.lt hb
 have e0:tot f1 f2 0=0:=rfl
 have e1:tot f1 f2 1=f1.length:=rfl
 have e2:tot f1 f2 2=f1.length+f2.length:=rfl
 simp only[XX,XY,F239,yA,yB,yC]
 refine WX.loop_of (λk tt M=>∃j q:Nat,j<=2∧k=2-j∧tt=T 36 [(11,In j),(10,In 2),(9, .slice (some ⟨b0,0,none⟩) 2 2),(3,In (tot f1 f2 j)),(0, .slice (some ⟨b0,0,none⟩) 2 2)]∧M=m.bump q) ?_ (k:=2) (t1:=T 36 [(11,In (0:Nat)),(10,In 2),(9, .slice (some ⟨b0,0,none⟩) 2 2),(3,In (tot f1 f2 0)),(0, .slice (some ⟨b0,0,none⟩) 2 2)]) (vT ⟨rfl,rfl,rfl,rfl,rfl,trivial⟩) ⟨0,_,by omega,rfl,rfl,rfl⟩
 rintro kk tt M ⟨j,q,hj,rfl,rfl,rfl⟩
 have hq0:(ofL [v1,v2]).nth 0=some v1:=by rw[nth_ofList];rfl
 have hq1:(ofL [v1,v2]).nth 1=some v2:=by rw[nth_ofList];rfl
 rcases(show j=0∨j=1∨j=2 by omega) with rfl|rfl|rfl
 ·have hw:IntKind.i64.wrap ((tot f1 f2 0:Int)+f1.length)=(tot f1 f2 1:Int):=by rw[wrap_i64 (by omega) (by omega)];omega
  have d1:=decide_eq_false (show¬(tot f1 f2 1:Int)<0 by omega)
  have g1:((0:Nat):Int)<2:=by decide
  have g2:(0:Int)<=((0:Nat):Int):=by decide
  have g3:((0:Nat):Int)<((2:Nat):Int):=by decide
  have hw2:IntKind.i64.wrap (((0:Nat):Int)+1)=((1:Nat):Int):=rfl
  simp only[XX,XY,F239,yA,yB,yC,yE,g1,g2,g3,hb,hq0,l1,hw,hw2,d1,roundQ_normal]
  exact⟨2-1,_,_,by omega,vT (l':=[(11,In ((1:Nat):Int)),(10,In 2),(9, .slice (some ⟨b0,0,none⟩) 2 2),(3,In (tot f1 f2 1)),(0, .slice (some ⟨b0,0,none⟩) 2 2)]) ⟨rfl,rfl,rfl,rfl,rfl,trivial⟩,1,_,by omega,rfl,rfl,rfl⟩
 ·have hw:IntKind.i64.wrap ((tot f1 f2 1:Int)+f2.length)=(tot f1 f2 2:Int):=by rw[wrap_i64 (by omega) (by omega)];omega
  have d1:=decide_eq_false (show¬(tot f1 f2 2:Int)<0 by omega)
  have g1:((1:Nat):Int)<2:=by decide
  have g2:(0:Int)<=((1:Nat):Int):=by decide
  have g3:((1:Nat):Int)<((2:Nat):Int):=by decide
  have hw2:IntKind.i64.wrap (((1:Nat):Int)+1)=((2:Nat):Int):=rfl
  simp only[XX,XY,F239,yA,yB,yC,yE,g1,g2,g3,hb,hq1,l2,hw,hw2,d1,roundQ_normal]
  exact⟨2-2,_,_,by omega,vT (l':=[(11,In ((2:Nat):Int)),(10,In 2),(9, .slice (some ⟨b0,0,none⟩) 2 2),(3,In (tot f1 f2 2)),(0, .slice (some ⟨b0,0,none⟩) 2 2)]) ⟨rfl,rfl,rfl,rfl,rfl,trivial⟩,2,_,by omega,rfl,rfl,rfl⟩
 ·have g1:¬((2:Nat):Int)<2:=by decide
  have g1b:¬(2:Int)<2:=by decide
  have ht2:tot f1 f2 2=f1.length+f2.length:=rfl
  obtain⟨N,hN⟩:∃N,N=f1.length+f2.length:=⟨_,rfl⟩
  rw[ht2,<-hN]
  simp only[XX,XY,F239,yA,yB,yC,yE,g1,roundQ_exit]
  have hgrow:∀K,∃u M,Con EE.P 296 [.slice none 0 0,In N] (m.bump K) u M∧Nx m M∧SlV M 1 u 0 []∧(∀y,slB u=some y->m.next<=y)∧∃p,u= .slice p 0 N:=λK=>by
   rcases Nat.eq_zero_or_pos N with h0|h0
   ·rw[h0]
    exact⟨_,_,growP_0,(Nx.refl hm).bump K,SlV.nil,λy hy=>(by cases hy),none,rfl⟩
   ·refine⟨_,_,growP_ok h0 (by omega),?_,⟨rfl, .inr ⟨_,N,_,rfl,by rw[gP,if_pos rfl],by rw[ofList_n,List.length_replicate,Nat.mul_one],Nat.zero_le _,λx hx=>by simp at hx⟩⟩,λy hy=>?_,_,rfl⟩
    ·refine⟨by simp only[nP,bN];omega,Fresh.of_low (by have:=hm.n64;simp only[nP,bN];omega) (λy hy=>?_),λy hy=>by rw[gP,if_neg nO];rfl⟩
     simp only[nP,bN] at hy
     rw[gP,if_neg nO]
     exact hm.none y (by omega)
    ·have e:(m.bump K).next=y:=Option.some.inj hy
     rw[bN] at e;omega
  refine cX (by
   obtain⟨u,M,k1,k2⟩:=hgrow _
   exact⟨u,M,k1,k2⟩) λu M hM=>?_
  obtain⟨hn,hs,hnew,p,hu⟩:=hM
  have nx:=hn.next
  simp only[XX,XY,F239,yA,yB,yC,nx]
  refine WX.loop_of (λk tt M=>∃(j:Nat) (u:Value),j<=2∧k=2-j∧tt=T 36 [(27,In j),(26,In 2),(25, .slice (some ⟨b0,0,none⟩) 2 2),(6,u),(0, .slice (some ⟨b0,0,none⟩) 2 2)]∧NewV m M 1 u (tot f1 f2 j) (totL f1 f2 j)∧∃p,u= .slice p (tot f1 f2 j) N) ?_ (k:=2) (t1:=T 36 [(27,In (0:Nat)),(26,In 2),(25, .slice (some ⟨b0,0,none⟩) 2 2),(6,u),(0, .slice (some ⟨b0,0,none⟩) 2 2)]) (vT ⟨rfl,rfl,rfl,rfl,rfl,trivial⟩) ⟨0,u,by omega,rfl,rfl,⟨hs.bump _,hn.bump _,hnew⟩,p,hu⟩
  rintro kk tt M ⟨j,u,hj,rfl,rfl,hW,p,hup⟩
  have nx:=hW.nx.next
  have hbM:=hW.nx.keep hm hb
  have t1:srcA 1 v1 M=some (f1,f1.length):=by rw[src_congr λy hy=>hW.nx.old y (hv1 y hy)];exact s1
  have t2:srcA 1 v2 M=some (f2,f2.length):=by rw[src_congr λy hy=>hW.nx.old y (hv2 y hy)];exact s2
  have key:∀(f:List Value) (v:Value) (j1:Nat) (K id:Nat),srcA 1 v M=some (f,f.length)->f.all oneCell=true->tot f1 f2 j1=tot f1 f2 j+f.length->totL f1 f2 j1=totL f1 f2 j++f->tot f1 f2 j1<=N->∃u' M',appendA EE.P id #[67,67] u v (M.bump K)=some (u',M')∧NewV m M' 1 u' (tot f1 f2 j1) (totL f1 f2 j1)∧∃p,u'= .slice p (tot f1 f2 j1) N:=λf v j1 K id hsrc hone e1 e2 hle=>by
   by_cases h0:f.length=0
   ·have hf:f=[]:=List.length_eq_zero_iff.1 h0
    subst hf
    simp only[List.length_nil,Nat.add_zero,List.append_nil] at e1 e2
    obtain⟨i,i1,i2,_⟩:=el67.info
    refine⟨u,M.bump K,?_,?_,?_⟩
    ·rw[hup]
     exact app_none und_67 i1 (by rw[i2,src_congr (M:=M) (M':=M.bump K) λy hy=>rfl];exact hsrc) (by omega)
    ·rw[e1,e2];exact hW.bump K
    ·rw[e1];exact⟨p,hup⟩
   ·rcases hW.sl.at_ with⟨q1,q2⟩|⟨bb,c,cs,q1,q2,q3,q4,q5⟩
    ·rw[hup] at q2
     injection q2 with _ _ q3
     omega
    ·have hcN:c=N:=by
      rw[q1] at hup
      injection hup
     subst hcN
     have hbl:=hW.nx.fresh.lt q2
     have hbn:=hW.new bb (by rw[q1];rfl)
     have ha:=app_in (E:=EE) (id:=id) (M:=M.bump K) el67 (by rw[gB];exact q2) q3 (show tot f1 f2 j+f.length<=c by omega) (by rw[src_congr (M:=M) (M':=M.bump K) λy hy=>rfl];exact hsrc) h0 (by rw[Nat.mul_one]) hone
     have hfl:(totL f1 f2 j).length=tot f1 f2 j:=by have:=hW.sl.len;rw[Nat.mul_one] at this;exact this
     rw[Nat.mul_one] at ha
     refine⟨_,_,by rw[q1];exact ha,⟨⟨by rw[e2,aL,hfl,e1,Nat.mul_one], .inr ⟨bb,c,cs.write (tot f1 f2 j) f,by rw[e1],by rw[gP,if_pos rfl],by rw[write_n,q3],by omega,λx hx=>?_⟩⟩,?_,λy hy=>?_⟩,_,by rw[e1]⟩
     ·rw[e2,aL,hfl] at hx
      rw[get_write,e2]
      by_cases hx1:x<tot f1 f2 j
      ·rw[if_neg (by omega),q5 x (by omega),gD',gD',aB' (by omega)]
      ·rw[if_pos (by omega),gD',gD',aC' (by omega),hfl]
     ·exact⟨by rw[nP,bN];omega,(hW.nx.fresh.bump).put nO,λy hy=>by rw[gP,if_neg (by omega),gB];exact hW.nx.old y hy⟩
     ·have e:bb=y:=Option.some.inj hy
      omega
  rcases(show j=0∨j=1∨j=2 by omega) with rfl|rfl|rfl
  ·have g1:((0:Nat):Int)<2:=by decide
   have g2:(0:Int)<=((0:Nat):Int):=by decide
   have g3:((0:Nat):Int)<((2:Nat):Int):=by decide
   have hw2:IntKind.i64.wrap (((0:Nat):Int)+1)=((1:Nat):Int):=rfl
   simp only[XX,XY,F239,yA,yB,yC,yE,g1,g2,g3,nx,hbM,hq0,lA]
   obtain⟨u',M',a1,a2,a3⟩:=key f1 v1 1 _ _ t1 o1 (by omega) (by unfold totL;rfl) (by omega)
   rw[a1]
   have nx2:=a2.nx.next
   simp only[XX,XY,F239,yA,yB,yC,nx2,hw2,roundQ_normal]
   exact⟨2-1,_,_,by omega,vT (l':=[(27,In ((1:Nat):Int)),(26,In 2),(25, .slice (some ⟨b0,0,none⟩) 2 2),(6,u'),(0, .slice (some ⟨b0,0,none⟩) 2 2)]) ⟨rfl,rfl,rfl,rfl,rfl,trivial⟩,1,u',by omega,rfl,rfl,a2.bump _,a3⟩
  ·have g1:((1:Nat):Int)<2:=by decide
   have g2:(0:Int)<=((1:Nat):Int):=by decide
   have g3:((1:Nat):Int)<((2:Nat):Int):=by decide
   have hw2:IntKind.i64.wrap (((1:Nat):Int)+1)=((2:Nat):Int):=rfl
   simp only[XX,XY,F239,yA,yB,yC,yE,g1,g2,g3,nx,hbM,hq1,lA]
   obtain⟨u',M',a1,a2,a3⟩:=key f2 v2 2 _ _ t2 o2 (by omega) (by unfold totL;rfl) (by omega)
   rw[a1]
   have nx2:=a2.nx.next
   simp only[XX,XY,F239,yA,yB,yC,nx2,hw2,roundQ_normal]
   exact⟨2-2,_,_,by omega,vT (l':=[(27,In ((2:Nat):Int)),(26,In 2),(25, .slice (some ⟨b0,0,none⟩) 2 2),(6,u'),(0, .slice (some ⟨b0,0,none⟩) 2 2)]) ⟨rfl,rfl,rfl,rfl,rfl,trivial⟩,2,u',by omega,rfl,rfl,a2.bump _,a3⟩
  ·simp only[XX,XY,F239,yA,yB,yC,yE,g1,nx,roundQ_exit,lA]
   exact⟨(hW.bump _).raw,hN▸hW.bump _⟩
theorem concat_growB(hm:Fresh m){b0:Nat}{v1 v2:Value}{f1 f2:List Value}(hb:m.get b0=some (.cells (ofL [v1,v2]) true 1))(c1:oneCell v1=true)(c2:oneCell v2=true)(s1:srcA 1 v1 m=some (f1,f1.length))(s2:srcA 1 v2 m=some (f2,f2.length))(l1:∀M,lenA EE.P 127 v1 M=some (In f1.length))(l2:∀M,lenA EE.P 127 v2 M=some (In f2.length))(o1:f1.all oneCell=true)(o2:f2.all oneCell=true)(hlen:f1.length+f2.length<1000000)(hv1:∀y,slB v1=some y->y<m.next)(hv2:∀y,slB v2=some y->y<m.next):
  ∃u m',Con EE.P 233 [.slice (some ⟨b0,0,none⟩) 2 2] m u m'∧NewV m m' 1 u (f1.length+f2.length) (f1++f2):=by
 refine Con.raw EE_ok fn233 (bA rfl) _ ?_
 have hb0:=hm.lt hb
 have e0:tot f1 f2 0=0:=rfl
 have e1:tot f1 f2 1=f1.length:=rfl
 have e2:tot f1 f2 2=f1.length+f2.length:=rfl
 simp only[XX,XY,F233,yA,yB,yC]
 refine WX.loop_of (λk tt M=>∃j q:Nat,j<=2∧k=2-j∧tt=T 36 [(11,In j),(10,In 2),(9, .slice (some ⟨b0,0,none⟩) 2 2),(3,In (tot f1 f2 j)),(0, .slice (some ⟨b0,0,none⟩) 2 2)]∧M=m.bump q) ?_ (k:=2) (t1:=T 36 [(11,In (0:Nat)),(10,In 2),(9, .slice (some ⟨b0,0,none⟩) 2 2),(3,In (tot f1 f2 0)),(0, .slice (some ⟨b0,0,none⟩) 2 2)]) (vT ⟨rfl,rfl,rfl,rfl,rfl,trivial⟩) ⟨0,_,by omega,rfl,rfl,rfl⟩
 rintro kk tt M ⟨j,q,hj,rfl,rfl,rfl⟩
 have hq0:(ofL [v1,v2]).nth 0=some v1:=by rw[nth_ofList];rfl
 have hq1:(ofL [v1,v2]).nth 1=some v2:=by rw[nth_ofList];rfl
 rcases(show j=0∨j=1∨j=2 by omega) with rfl|rfl|rfl
 ·have hw:IntKind.i64.wrap ((tot f1 f2 0:Int)+f1.length)=(tot f1 f2 1:Int):=by rw[wrap_i64 (by omega) (by omega)];omega
  have d1:=decide_eq_false (show¬(tot f1 f2 1:Int)<0 by omega)
  have g1:((0:Nat):Int)<2:=by decide
  have g2:(0:Int)<=((0:Nat):Int):=by decide
  have g3:((0:Nat):Int)<((2:Nat):Int):=by decide
  have hw2:IntKind.i64.wrap (((0:Nat):Int)+1)=((1:Nat):Int):=rfl
  simp only[XX,XY,F233,yA,yB,yC,yE,g1,g2,g3,hb,hq0,l1,hw,hw2,d1,roundQ_normal]
  exact⟨2-1,_,_,by omega,vT (l':=[(11,In ((1:Nat):Int)),(10,In 2),(9, .slice (some ⟨b0,0,none⟩) 2 2),(3,In (tot f1 f2 1)),(0, .slice (some ⟨b0,0,none⟩) 2 2)]) ⟨rfl,rfl,rfl,rfl,rfl,trivial⟩,1,_,by omega,rfl,rfl,rfl⟩
 ·have hw:IntKind.i64.wrap ((tot f1 f2 1:Int)+f2.length)=(tot f1 f2 2:Int):=by rw[wrap_i64 (by omega) (by omega)];omega
  have d1:=decide_eq_false (show¬(tot f1 f2 2:Int)<0 by omega)
  have g1:((1:Nat):Int)<2:=by decide
  have g2:(0:Int)<=((1:Nat):Int):=by decide
  have g3:((1:Nat):Int)<((2:Nat):Int):=by decide
  have hw2:IntKind.i64.wrap (((1:Nat):Int)+1)=((2:Nat):Int):=rfl
  simp only[XX,XY,F233,yA,yB,yC,yE,g1,g2,g3,hb,hq1,l2,hw,hw2,d1,roundQ_normal]
  exact⟨2-2,_,_,by omega,vT (l':=[(11,In ((2:Nat):Int)),(10,In 2),(9, .slice (some ⟨b0,0,none⟩) 2 2),(3,In (tot f1 f2 2)),(0, .slice (some ⟨b0,0,none⟩) 2 2)]) ⟨rfl,rfl,rfl,rfl,rfl,trivial⟩,2,_,by omega,rfl,rfl,rfl⟩
 ·have g1:¬((2:Nat):Int)<2:=by decide
  have g1b:¬(2:Int)<2:=by decide
  have ht2:tot f1 f2 2=f1.length+f2.length:=rfl
  obtain⟨N,hN⟩:∃N,N=f1.length+f2.length:=⟨_,rfl⟩
  rw[ht2,<-hN]
  simp only[XX,XY,F233,yA,yB,yC,yE,g1,roundQ_exit]
  have hgrow:∀K,∃u M,Con EE.P 295 [.slice none 0 0,In N] (m.bump K) u M∧Nx m M∧SlV M 1 u 0 []∧(∀y,slB u=some y->m.next<=y)∧∃p,u= .slice p 0 N:=λK=>by
   rcases Nat.eq_zero_or_pos N with h0|h0
   ·rw[h0]
    exact⟨_,_,growB_0,(Nx.refl hm).bump K,SlV.nil,λy hy=>(by cases hy),none,rfl⟩
   ·refine⟨_,_,growB_ok h0 (by omega),?_,⟨rfl, .inr ⟨_,N,_,rfl,by rw[gP,if_pos rfl],by rw[ofList_n,List.length_replicate,Nat.mul_one],Nat.zero_le _,λx hx=>by simp at hx⟩⟩,λy hy=>?_,_,rfl⟩
    ·refine⟨by simp only[nP,bN];omega,Fresh.of_low (by have:=hm.n64;simp only[nP,bN];omega) (λy hy=>?_),λy hy=>by rw[gP,if_neg nO];rfl⟩
     simp only[nP,bN] at hy
     rw[gP,if_neg nO]
     exact hm.none y (by omega)
    ·have e:(m.bump K).next=y:=Option.some.inj hy
     rw[bN] at e;omega
  refine cX (by
   obtain⟨u,M,k1,k2⟩:=hgrow _
   exact⟨u,M,k1,k2⟩) λu M hM=>?_
  obtain⟨hn,hs,hnew,p,hu⟩:=hM
  have nx:=hn.next
  simp only[XX,XY,F233,yA,yB,yC,nx]
  refine WX.loop_of (λk tt M=>∃(j:Nat) (u:Value),j<=2∧k=2-j∧tt=T 36 [(27,In j),(26,In 2),(25, .slice (some ⟨b0,0,none⟩) 2 2),(6,u),(0, .slice (some ⟨b0,0,none⟩) 2 2)]∧NewV m M 1 u (tot f1 f2 j) (totL f1 f2 j)∧∃p,u= .slice p (tot f1 f2 j) N) ?_ (k:=2) (t1:=T 36 [(27,In (0:Nat)),(26,In 2),(25, .slice (some ⟨b0,0,none⟩) 2 2),(6,u),(0, .slice (some ⟨b0,0,none⟩) 2 2)]) (vT ⟨rfl,rfl,rfl,rfl,rfl,trivial⟩) ⟨0,u,by omega,rfl,rfl,⟨hs.bump _,hn.bump _,hnew⟩,p,hu⟩
  rintro kk tt M ⟨j,u,hj,rfl,rfl,hW,p,hup⟩
  have nx:=hW.nx.next
  have hbM:=hW.nx.keep hm hb
  have t1:srcA 1 v1 M=some (f1,f1.length):=by rw[src_congr λy hy=>hW.nx.old y (hv1 y hy)];exact s1
  have t2:srcA 1 v2 M=some (f2,f2.length):=by rw[src_congr λy hy=>hW.nx.old y (hv2 y hy)];exact s2
  have key:∀(f:List Value) (v:Value) (j1:Nat) (K id:Nat),srcA 1 v M=some (f,f.length)->f.all oneCell=true->tot f1 f2 j1=tot f1 f2 j+f.length->totL f1 f2 j1=totL f1 f2 j++f->tot f1 f2 j1<=N->∃u' M',appendA EE.P id #[127,127] u v (M.bump K)=some (u',M')∧NewV m M' 1 u' (tot f1 f2 j1) (totL f1 f2 j1)∧∃p,u'= .slice p (tot f1 f2 j1) N:=λf v j1 K id hsrc hone e1 e2 hle=>by
   by_cases h0:f.length=0
   ·have hf:f=[]:=List.length_eq_zero_iff.1 h0
    subst hf
    simp only[List.length_nil,Nat.add_zero,List.append_nil] at e1 e2
    obtain⟨i,i1,i2,_⟩:=el127.info
    refine⟨u,M.bump K,?_,?_,?_⟩
    ·rw[hup]
     exact app_none und_127 i1 (by rw[i2,src_congr (M:=M) (M':=M.bump K) λy hy=>rfl];exact hsrc) (by omega)
    ·rw[e1,e2];exact hW.bump K
    ·rw[e1];exact⟨p,hup⟩
   ·rcases hW.sl.at_ with⟨q1,q2⟩|⟨bb,c,cs,q1,q2,q3,q4,q5⟩
    ·rw[hup] at q2
     injection q2 with _ _ q3
     omega
    ·have hcN:c=N:=by
      rw[q1] at hup
      injection hup
     subst hcN
     have hbl:=hW.nx.fresh.lt q2
     have hbn:=hW.new bb (by rw[q1];rfl)
     have ha:=app_in (E:=EE) (id:=id) (M:=M.bump K) el127 (by rw[gB];exact q2) q3 (show tot f1 f2 j+f.length<=c by omega) (by rw[src_congr (M:=M) (M':=M.bump K) λy hy=>rfl];exact hsrc) h0 (by rw[Nat.mul_one]) hone
     have hfl:(totL f1 f2 j).length=tot f1 f2 j:=by have:=hW.sl.len;rw[Nat.mul_one] at this;exact this
     rw[Nat.mul_one] at ha
     refine⟨_,_,by rw[q1];exact ha,⟨⟨by rw[e2,aL,hfl,e1,Nat.mul_one], .inr ⟨bb,c,cs.write (tot f1 f2 j) f,by rw[e1],by rw[gP,if_pos rfl],by rw[write_n,q3],by omega,λx hx=>?_⟩⟩,?_,λy hy=>?_⟩,_,by rw[e1]⟩
     ·rw[e2,aL,hfl] at hx
      rw[get_write,e2]
      by_cases hx1:x<tot f1 f2 j
      ·rw[if_neg (by omega),q5 x (by omega),gD',gD',aB' (by omega)]
      ·rw[if_pos (by omega),gD',gD',aC' (by omega),hfl]
     ·exact⟨by rw[nP,bN];omega,(hW.nx.fresh.bump).put nO,λy hy=>by rw[gP,if_neg (by omega),gB];exact hW.nx.old y hy⟩
     ·have e:bb=y:=Option.some.inj hy
      omega
  rcases(show j=0∨j=1∨j=2 by omega) with rfl|rfl|rfl
  ·have g1:((0:Nat):Int)<2:=by decide
   have g2:(0:Int)<=((0:Nat):Int):=by decide
   have g3:((0:Nat):Int)<((2:Nat):Int):=by decide
   have hw2:IntKind.i64.wrap (((0:Nat):Int)+1)=((1:Nat):Int):=rfl
   simp only[XX,XY,F233,yA,yB,yC,yE,g1,g2,g3,nx,hbM,hq0,lA]
   obtain⟨u',M',a1,a2,a3⟩:=key f1 v1 1 _ _ t1 o1 (by omega) (by unfold totL;rfl) (by omega)
   rw[a1]
   have nx2:=a2.nx.next
   simp only[XX,XY,F233,yA,yB,yC,nx2,hw2,roundQ_normal]
   exact⟨2-1,_,_,by omega,vT (l':=[(27,In ((1:Nat):Int)),(26,In 2),(25, .slice (some ⟨b0,0,none⟩) 2 2),(6,u'),(0, .slice (some ⟨b0,0,none⟩) 2 2)]) ⟨rfl,rfl,rfl,rfl,rfl,trivial⟩,1,u',by omega,rfl,rfl,a2.bump _,a3⟩
  ·have g1:((1:Nat):Int)<2:=by decide
   have g2:(0:Int)<=((1:Nat):Int):=by decide
   have g3:((1:Nat):Int)<((2:Nat):Int):=by decide
   have hw2:IntKind.i64.wrap (((1:Nat):Int)+1)=((2:Nat):Int):=rfl
   simp only[XX,XY,F233,yA,yB,yC,yE,g1,g2,g3,nx,hbM,hq1,lA]
   obtain⟨u',M',a1,a2,a3⟩:=key f2 v2 2 _ _ t2 o2 (by omega) (by unfold totL;rfl) (by omega)
   rw[a1]
   have nx2:=a2.nx.next
   simp only[XX,XY,F233,yA,yB,yC,nx2,hw2,roundQ_normal]
   exact⟨2-2,_,_,by omega,vT (l':=[(27,In ((2:Nat):Int)),(26,In 2),(25, .slice (some ⟨b0,0,none⟩) 2 2),(6,u'),(0, .slice (some ⟨b0,0,none⟩) 2 2)]) ⟨rfl,rfl,rfl,rfl,rfl,trivial⟩,2,u',by omega,rfl,rfl,a2.bump _,a3⟩
  ·simp only[XX,XY,F233,yA,yB,yC,yE,g1,nx,roundQ_exit,lA]
   exact⟨(hW.bump _).raw,hN▸hW.bump _⟩
end
end
end Go.Ab
