/- Part. -/
import Derived.Test.YtdhcheegbnnlbaaGreatDoorR08
set_option linter.all false
open Go.Ab.Mem renaming next_bump → bN, next_put → nP, get_bump → gB, get_put → gP
open Nat renaming le_of_ble_eq_true → bA, le_add_right_of_le → lA, lt_of_lt_of_le → lL, le_refl → lR', le_trans → lT
open List renaming getD_eq_getElem?_getD → gD', getElem?_eq_getElem → gE', length_append → aL, append_assoc → aA, getElem?_append_left → aB', getElem?_append_right → aC', getElem?_map → gM', length_map → lM, length_set → sL
open Go.Ab.CallI renaming ex2 → cX, con0 → cZ
open Go.Ab.TidyE renaming pure → tP
open Go.Ab.Cells renaming ofList → ofL
open Go.Ab.View renaming temps → vT
open Nat renaming reduceLT → yA, reduceEqDiff → yB, reduceAdd → yC, reduceMul → yD, reduceSub → yE, reducePow → yF, reduceLeDiff → yG
open Int renaming reduceEq → yH, reduceLT → yI, reduceLE → yJ
namespace Go.Ab
open Go.Proofs
noncomputable section
set_option maxHeartbeats 4000000
set_option maxRecDepth 10000
section
variable{P:Program}{E:Env}{n0:Nat}{rd:Option Nat}{base i:Nat}{rest:List (Nat×SOp)}{L:List zb8}{t:List Value}{m:Mem}{K:KI}{ty rt:TypeId}{d:Tmp}
def mxV(P:Program)(v w:Value):Option Value:=if plain v&&plain w then zcm P (Builtin.max_ #[] 0 #[v,w]) else none
theorem zFg{k:IntKind}{a b:Int}:mxV P (.int k a) (.int k b)=some (.int k (if b>a then b else a)):=by cases k<;>rfl
theorem zFC [zaM E]{x y:Operand}{ts:Array TypeId}:XWi E base ((i,⟨some d, .call ⟨.builtin .max,#[x,y],ts⟩,rt,none⟩)::rest) L t m (Q:=K)=okI (mxV E.P (ev x t) (ev y t)) (k:=⟨λv=>XWi E base rest L (t.set d v) m (Q:=K)⟩):=by
 refine propext ?_;unfold XWi okI;rw[zbg rfl rfl,zaD zaM.h];have e:za9 E.P ⟨some d, .call ⟨.builtin .max,#[x,y],ts⟩,rt,none⟩ (ev · t)=mxV E.P (ev x t) (ev y t):=by
  have h1:(#[x,y].map λx=>ev x t)= #[ev x t,ev y t]:=by simp
  simp only[za9,h1];unfold mxV;simp only[List.all_cons,List.all_nil,Bool.and_true];rfl
 rw[e];exact Iff.rfl
end
abbrev sT(l:List UInt8):Value:= .string ⟨l.toArray⟩
def zcp:List Value:=[(sT [110,111,112]),(In (-1)),(In (-1)),(.bool false),(sT [108,105]),(In 7),(In (-1)),(.bool true),(sT [108,117,105]),(In 7),(In (-1)),(.bool true),(sT [109,111,118]),(In 7),(In 7),(.bool false),(sT [97,100,100]),(In 7),(In 7),(.bool false),(sT [115,117,98]),(In 7),(In 7),(.bool false),(sT [109,117,108]),(In 7),(In 7),(.bool false),(sT [97,110,100]),(In 7),(In 7),(.bool false),(sT [111,114]),(In 7),(In 7),(.bool false),(sT [120,111,114]),(In 7),(In 7),(.bool false),(sT [115,104,108]),(In 7),(In 7),(.bool false),(sT [115,104,114]),(In 7),(In 7),(.bool false),(sT [97,100,100,105]),(In 7),(In (-1)),(.bool true),(sT [115,108,116]),(In 7),(In 7),(.bool false),(sT [115,101,113]),(In 7),(In 7),(.bool false),(sT [108,119]),(In 7),(In 7),(.bool true),(sT [115,119]),(In 7),(In 7),(.bool true),(sT [108,98]),(In 7),(In 7),(.bool true),(sT [115,98]),(In 7),(In 7),(.bool true),(sT [106,109,112]),(In (-1)),(In (-1)),(.bool true),(sT [106,122]),(In 7),(In (-1)),(.bool true),(sT [106,110,122]),(In 7),(In (-1)),(.bool true),(sT [106,97,108]),(In 7),(In (-1)),(.bool true),(sT [106,114]),(In 7),(In (-1)),(.bool false),(sT [115,121,115]),(In (-1)),(In (-1)),(.bool false),(sT [122,115,101,116]),(In 1),(In 6),(.bool false),(sT [122,103,101,116]),(In 1),(In 6),(.bool false),(sT [122,97,100,100]),(In 1),(In 1),(.bool false),(sT [122,109,117,108]),(In 1),(In 1),(.bool false),(sT [122,99,111,110,106]),(In 1),(In (-1)),(.bool false)]
def ztA:List (Int×Int×Bool):=[(-1,-1,false),(7,-1,true),(7,-1,true),(7,7,false),(7,7,false),(7,7,false),(7,7,false),(7,7,false),(7,7,false),(7,7,false),(7,7,false),(7,7,false),(7,-1,true),(7,7,false),(7,7,false),(7,7,true),(7,7,true),(7,7,true),(7,7,true),(-1,-1,true),(7,-1,true),(7,-1,true),(7,-1,true),(7,-1,false),(-1,-1,false),(1,6,false),(1,6,false),(1,1,false),(1,1,false),(1,-1,false)]
def fmA(k:Nat):Int:=(ztA.getD k (0,0,false)).1
def fmB(k:Nat):Int:=(ztA.getD k (0,0,false)).2.1
def fmI(k:Nat):Bool:=(ztA.getD k (0,0,false)).2.2
def fmN(k:Nat):Value:=zcp.getD (k*4) undef
theorem zrb{k:Nat}(hk:k<30):(ofL zcp).sub (k*4) 4=some [fmN k,In (fmA k),In (fmB k), .bool (fmI k)]:=by rcases k with _|_|_|_|_|_|_|_|_|_|_|_|_|_|_|_|_|_|_|_|_|_|_|_|_|_|_|_|_|_|k<;>first|omega|kernel_rfl
theorem zCZ{k:Nat}(hk:k<30):∃s,fmN k= .string s:=by rcases k with _|_|_|_|_|_|_|_|_|_|_|_|_|_|_|_|_|_|_|_|_|_|_|_|_|_|_|_|_|_|k<;>first|omega|exact⟨_,rfl⟩
section
variable{m:Mem}{op:Int}
def zvz(op:Int):List Value:=[fmN op.toNat,In (fmA op.toNat),In (fmB op.toNat), .bool (fmI op.toNat)]
theorem zCH(ht:m.get 0=some (.cells (.ofList zcp) false 1))(h0:0<=op)(h1:op<30):Con EE.P 223 [In op] m (.tuple [.agg (zvz op).toArray, .bool true].toArray) m:=by
 refine Con.of zai zAH (bA rfl) Grow.rfl λhm=>?_;have h64:=hm.n64;have hne:∀j,¬0=m.next+j:=λj=>by omega
 have hne0:¬0=m.next:=by omega
 have hq:=zrb (k:=op.toNat) (by omega);obtain⟨s,hs⟩:=zCZ (k:=op.toNat) (by omega);have d1:decide (op<0)=false:=decide_eq_false (by omega);have d2:decide (30<=op)=false:=decide_eq_false (by omega);have g2:op<((30:Nat):Int):=by omega
 have hl:zvz op=[fmN op.toNat,In (fmA op.toNat),In (fmB op.toNat), .bool (fmI op.toNat)]:=rfl;rw[hl,hs];rw[hs] at hq;simp only[XX,XY,zHy,yA,yB,yC,XG,d1,d2,h0,g2,ht,hne0,hq];exact tP rfl λy hy=>by simp only[gB,gP];repeat rw[if_neg (by omega)]
theorem zBv(h1:30<=op):Con EE.P 223 [In op] m (.tuple [.agg [.string ⟨#[]⟩,In 0,In 0, .bool false].toArray, .bool false].toArray) m:=by refine Con.of zai zAH (bA rfl) Grow.rfl λhm=>?_;have h64:=hm.n64;have d1:decide (op<0)=false:=decide_eq_false (by omega);have d2:decide (30<=op)=true:=decide_eq_true (by omega);have b0:zaT EE.P 343 []=some (.agg [.string ⟨#[]⟩,In 0,In 0, .bool false].toArray):=kr;simp only[XX,XY,zHy,yA,yB,yC,XG,d1,d2,b0];exact tP rfl λy hy=>by simp only[gB,gP];repeat rw[if_neg (by omega)]
def zfs(x:Ins):Bool:=decide (x.op<30)&&(decide (x.imm=0)||fmI x.op.toNat)&&decide (x.a<=max (fmA x.op.toNat) 0)&&decide (x.b<=max (fmB x.op.toNat) 0)
theorem zbl{p q r s w x y z:Value}:(ofL [p,q,r,s]).write 0 [w,x,y,z]=ofL [w,x,y,z]:=rfl
theorem zJb{a:Int}:(if(0:Int)>a then 0 else a)=max a 0:=by rw[Int.max_def];split<;>split<;>omega
theorem ztO{x:Ins}(ht:m.get 0=some (.cells (.ofList zcp) false 1))(h0:0<=x.op)(ha:0<=x.a)(hb:0<=x.b)(hi: -32768<=x.imm∧x.imm<=32767):Con EE.P 166 [.agg (zbx x).toArray] m (In (if zfs x then 0 else 30)) m:=by
 obtain⟨op,xa,xb,imm⟩:=x;simp only at h0 ha hb hi;obtain⟨i1,i2⟩:=hi;have hz:= @zFC;have hmx:= @zFg;have hm0:= @zJb;have e1:decide (xa<0)=false:=decide_eq_false (by omega);have e2:decide (xb<0)=false:=decide_eq_false (by omega);refine Con.of zai zFw (bA rfl) Grow.rfl λhm=>?_;have h64:=hm.n64;simp only[XX,XY,zEc,yA,yB,yC,zbx];have ht':∀o j,((m.put m.next o).bump j).get 0=some (.cells (.ofList zcp) false 1):=λo j=>by rw[gB,gP,if_neg (by omega)];exact ht
 by_cases h1:op<30
 ·refine cZ (zCH (ht' _ _) h0 h1) ?_;obtain⟨s,hs⟩:=zCZ (k:=op.toNat) (by omega);have hl:zvz op=[.string s,In (fmA op.toNat),In (fmB op.toNat), .bool (fmI op.toNat)]:=by unfold zvz;rw[hs]
  rw[hl];have hc:zfs ⟨op,xa,xb,imm⟩=((decide (imm=0)||fmI op.toNat)&&decide (xa<=max (fmA op.toNat) 0)&&decide (xb<=max (fmB op.toNat) 0)):=by unfold zfs;simp only[decide_eq_true h1,Bool.true_and]
  rw[hc];generalize fmA op.toNat=fa;generalize fmB op.toNat=fb;generalize fmI op.toNat=fi;have step:∀b1 b2:Bool,decide (xa<=max fa 0)=b1->decide (xb<=max fb 0)=b2->decide (max fa 0<xa)= !b1∧decide (max fb 0<xb)= !b2:=λb1 b2 h1 h2=>by
   subst h1;subst h2;refine⟨?_,?_⟩
   ·by_cases h:xa<=max fa 0
    ·rw[decide_eq_true h,decide_eq_false (by omega)];rfl
    ·rw[decide_eq_false h,decide_eq_true (by omega)];rfl
   ·by_cases h:xb<=max fb 0
    ·rw[decide_eq_true h,decide_eq_false (by omega)];rfl
    ·rw[decide_eq_false h,decide_eq_true (by omega)];rfl
  obtain⟨b1,q1⟩:∃b1,decide (xa<=max fa 0)=b1:=⟨_,rfl⟩;obtain⟨b2,q2⟩:∃b2,decide (xb<=max fb 0)=b2:=⟨_,rfl⟩;obtain⟨d1,d2⟩:=step b1 b2 q1 q2;rw[q1,q2];have d4:decide (-32768<=imm)=true:=decide_eq_true i1;have d5:decide (imm<=32767)=true:=decide_eq_true i2;obtain⟨b3,q3⟩:∃b3,decide (imm=0)=b3:=⟨_,rfl⟩;rw[q3];cases b3<;>cases fi<;>cases b1<;>cases b2<;>simp only[Bool.not_true,Bool.not_false] at d1 d2
  all_goals
   simp only[XX,XY,zEc,yA,yB,yC,XG,hz,hmx,hm0,zbl,e1,e2,d1,d2,d4,d5,q3,Bool.true_or,Bool.false_or,Bool.and_false,Bool.and_true];exact tP rfl λy hy=>by simp only[gB,gP];repeat rw[if_neg (by omega)]
 ·have hc:zfs ⟨op,xa,xb,imm⟩=false:=by unfold zfs;simp only[decide_eq_false h1,Bool.false_and]
  rw[hc];refine cZ (zBv (by omega)) ?_;by_cases hi0:imm=0
  ·simp only[XX,XY,zEc,yA,yB,yC,zbl,hi0];exact tP rfl λy hy=>by simp only[gB,gP];repeat rw[if_neg (by omega)]
  ·simp only[XX,XY,zEc,yA,yB,yC,zbl,hi0];exact tP rfl λy hy=>by simp only[gB,gP];repeat rw[if_neg (by omega)]
end
end
end Go.Ab
namespace Go.Ab
noncomputable section
def zeD:List Value:=[(In 1),(sT [69,80,69,82,77]),(In 3),(sT [69,83,82,67,72]),(In 4),(sT [69,73,78,84,82]),(In 9),(sT [69,66,65,68,70]),(In 10),(sT [69,67,72,73,76,68]),(In 11),(sT [69,65,71,65,73,78]),(In 12),(sT [69,78,79,77,69,77]),(In 14),(sT [69,70,65,85,76,84]),(In 16),(sT [69,66,85,83,89]),(In 22),(sT [69,73,78,86,65,76]),(In 23),(sT [69,78,70,73,76,69]),(In 24),(sT [69,77,70,73,76,69]),(In 32),(sT [69,80,73,80,69]),(In 38),(sT [69,78,79,83,89,83]),(In 60),(sT [69,78,79,84,67,76,79,83,69,68])]
def zdg:List Value:=[(sT []),(In (-1)),(sT [101,120,105,116]),(In 1),(sT [102,111,114,107]),(In 0),(sT [119,97,105,116]),(In 1),(sT [103,101,116,112,105,100]),(In 0),(sT [103,101,116,112,112,105,100]),(In 0),(sT [112,105,112,101]),(In 1),(sT [114,101,97,100]),(In 3),(sT [119,114,105,116,101]),(In 3),(sT [99,108,111,115,101]),(In 1),(sT [100,117,112]),(In 1),(sT [107,105,108,108]),(In 2),(sT [109,97,115,107]),(In 1),(sT [104,97,110,100,108,101]),(In 2),(sT [115,105,103,114,101,116,117,114,110]),(In 0),(sT [102,117,116,101,120,119,97,105,116]),(In 2),(sT [102,117,116,101,120,119,97,107,101]),(In 2),(sT [115,108,101,101,112]),(In 1),(sT [121,105,101,108,100]),(In 0),(sT [109,97,112]),(In 3),(sT [117,110,109,97,112]),(In 2),(sT [97,102,102,105,110,105,116,121]),(In 1),(sT [112,114,105,110,116]),(In 1)]
structure Tb(m:Mem):Prop where
 forms:m.get 0=some (.cells (.ofList zcp) false 1)
 codes:m.get 1=some (.cells (.ofList zeD) false 1)
 kinds:m.get 2=some (.cells (.ofList zdg) false 1)
theorem Tb.keep{m m':Mem}(h:Tb m)(ho:∀y,y<64->m'.get y=m.get y):Tb m':=⟨(ho 0 (by decide)).trans h.forms,(ho 1 (by decide)).trans h.codes,(ho 2 (by decide)).trans h.kinds⟩
theorem Tb.bump{m:Mem}(h:Tb m)(j:Nat):Tb (m.bump j):=⟨h.forms,h.codes,h.kinds⟩
theorem Tb.put{m:Mem}(h:Tb m){b:Nat}{o:zaS}(hb:64<=b):Tb (m.put b o):=h.keep λy hy=>by rw[gP,if_neg (by omega)]
theorem Tb.fd{m m':Mem}(h:Tb m){D:Nat->Prop}(hf:Fd D m m')(hm:zad m)(hd:∀y,D y->64<=y):Tb m':=h.keep λy hy=>hf.old y (by have:=hm.n64;omega) λe=>by have:=hd y e;omega
theorem Tb.nx{m m':Mem}(h:Tb m)(hm:zad m)(hn:Nx m m'):Tb m':=h.keep λy hy=>hn.old y (by have:=hm.n64;omega)
end
end Go.Ab
namespace Go.Ab
open Go.Proofs
noncomputable section
set_option maxHeartbeats 4000000
set_option maxRecDepth 10000
section
variable{m m':Mem}{L L':Loc}{X:St}{pid:Int}
def zfV(n:Int):Int:=if n<1∨23<=n then-1 else match zdg.getD (2*n.toNat+1) undef with
 | .int _ k=>k
 |_=> -1
def zve(k:Nat):ByteArray:=match zdg.getD (2*k) undef with
 | .string s=>s
 |_=>⟨#[]⟩
theorem zk9:∀k,k<23->zdg.getD (2*k) undef= .string (zve k)∧(∃n,zdg.getD (2*k+1) undef=In n):=by intro k hk;rcases k with _|_|_|_|_|_|_|_|_|_|_|_|_|_|_|_|_|_|_|_|_|_|_|k<;>first|exact⟨rfl,_,rfl⟩|omega
theorem zq9:zdg.length=46:=rfl
theorem zle{k:Nat}(hk:k<23):(ofL zdg).sub (k*2) 2=some [.string (zve k),zdg.getD (2*k+1) undef]:=by
 have h1:k*2+2<=zdg.length:=by rw[zq9];omega
 rw[zbN h1];congr 1;have e1:zdg.getD (2*k) undef=zdg[k*2]'(by omega):=by rw[gD',show 2*k=k*2 by omega,gE' (by omega)];rfl
 have e2:zdg.getD (2*k+1) undef=zdg[k*2+1]'(by omega):=by rw[gD',show 2*k+1=k*2+1 by omega,gE' (by omega)];rfl
 rw[<-(zk9 k hk).1,e1,e2,List.drop_eq_getElem_cons (by omega),List.drop_eq_getElem_cons (by omega)];rfl
theorem zE3{s:ByteArray}{n:Int}:zwH EE.P 335 (.agg [.string s,In n].toArray) 1=some (In n):=kr
theorem zGv(ht:Tb m){n:Int}:∃s,Con EE.P 213 [In n] m (.agg [.string s,In (zfV n)].toArray) m:=by
 by_cases h:n<1∨23<=n
 ·have e:zfV n= -1:=by unfold zfV;rw[if_pos h]
  refine⟨zve 0,?_⟩;rw[e];refine Con.of zai zB8 (bA rfl) Grow.rfl λhm=>?_;have h64:=hm.n64;have hne:∀j,¬2=m.next+j:=λj=>by omega
  have hne0:¬2=m.next:=by omega
  have hq:=zle (k:=0) (by decide);have e0:zdg.getD (2*0+1) undef=In (-1):=rfl;rw[e0] at hq;simp only[Nat.zero_mul] at hq;have g1:(0:Int)<=0:=by omega
  have g2:(0:Int)<((23:Nat):Int):=by omega
  rcases h with h|h
  ·have d1:=decide_eq_true h;simp only[XX,XY,zG1,yA,yB,yC,d1,g1,g2,ht.kinds,hne0,hq,Int.toNat_zero,Nat.zero_mul];exact tP rfl λy hy=>by simp only[gB,gP];rw[if_neg (by omega),if_neg (by omega)]
  ·have d1:decide (n<1)=false:=decide_eq_false (by omega);have d2:=decide_eq_true h;simp only[XX,XY,zG1,yA,yB,yC,d1,d2,g1,g2,ht.kinds,hne0,hq,Int.toNat_zero,Nat.zero_mul];exact tP rfl λy hy=>by simp only[gB,gP];rw[if_neg (by omega),if_neg (by omega)]
 ·have hk:n.toNat<23:=by omega
  refine⟨zve n.toNat,?_⟩;obtain⟨_,k,ek⟩:=zk9 n.toNat hk;have e:zfV n=k:=by unfold zfV;rw[if_neg h,ek]
  rw[e];refine Con.of zai zB8 (bA rfl) Grow.rfl λhm=>?_;have h64:=hm.n64;have hne:∀j,¬2=m.next+j:=λj=>by omega
  have hne0:¬2=m.next:=by omega
  have hq:=zle hk;rw[ek] at hq;have d1:decide (n<1)=false:=decide_eq_false (by omega);have d2:decide (23<=n)=false:=decide_eq_false (by omega);have g1:0<=n:=by omega
  have g2:n<((23:Nat):Int):=by omega
  simp only[XX,XY,zG1,yA,yB,yC,d1,d2,g1,g2,ht.kinds,hne0,hq];exact tP rfl λy hy=>by simp only[gB,gP];rw[if_neg (by omega),if_neg (by omega)]
theorem zrB(ht:Tb m){n:Int}:Con EE.P 150 [In n] m (In (zfV n)) m:=by refine Con.of zai zF5 (bA rfl) Grow.rfl λhm=>?_;obtain⟨s,ho⟩:=zGv (m:=m.bump 5) (ht.bump _) (n:=n);simp only[XX,XY,zJi,yA,yB,yC];refine cZ ho ?_;simp only[XX,XY,yA,yB,zE3];exact tP rfl λy hy=>rfl
end
section
variable{m m' mr:Mem}{n:Int}
def zdG(n:Int):Nat:=min 3 (zfV n).toNat
theorem zuL{lp c1 z:Nat}{a:List (BitVec 32)}(ha:a.length=3)(hm:zad mr)(ht:Tb mr)(hc:mr.get c1=some (.cells (ofL (In n::a.map Um)) true z))(Inv:Nat->Mem->Prop)
  (h0:Inv 0 mr) (hb:∀i M j,Inv i M->Inv i (M.bump j)) (hk:∀i M,Inv i M->M.get c1=mr.get c1∧(∀y,y<64->M.get y=mr.get y)∧Grow mr M)
  (hround:∀(i:Nat) M j,i<3->(i:Int)<zfV n->Inv i M->∃u m',zgt EE.P lp [In i,Um (a.getD i 0#32)] (M.bump j) u m'∧u= .bool true∧M.next+j<=m'.next∧Inv (i+1) m'):
  ∃u m2,Con EE.P 284 [.func (.yield lp) #[] #[],PT c1] mr u m2∧Inv (zdG n) m2:=by
 refine Con.raw zai zGj (bA rfl) _ ?_;have hs:(ofL (In n::a.map Um)).sub 1 3=some (a.map Um):=by rw[zbN (by simp[ha]),List.drop_one,List.tail_cons,List.take_of_length_le (by simp[ha])]
 have hn:(ofL (In n::a.map Um)).nth 0=some (In n):=by rw[za7];rfl
 simp only[XX,XY,zAK,yA,yB,yC,hc,hs];refine WX.loop_of (λk tt M=>∃i:Nat,i<=3∧k=3-i∧tt=T 24 [(7,In i),(6, .agg (a.map Um).toArray),(0, .func (.yield lp) #[] #[]),(1,PT c1)]∧Inv i M∧i<=zdG n∧mr.next<=M.next) ?_ (k:=3) (t1:=T 24 [(7,In (0:Nat)),(6, .agg (a.map Um).toArray),(0, .func (.yield lp) #[] #[]),(1,PT c1)]) (vT ⟨rfl,rfl,rfl,rfl,trivial⟩) ⟨0,by omega,rfl,rfl,hb _ _ _ h0,Nat.zero_le _,by simp⟩;rintro k tt M ⟨i,hi,rfl,rfl,hI,hik,hnx⟩;obtain⟨k1,k2,k3⟩:=hk _ _ hI;have htM:Tb M:=ht.keep k2;by_cases hi2:i<3
 ·have g1:(i:Int)<3:=by omega
  have g2:(0:Int)<=i:=by omega
  have g3:(i:Int)<((3:Nat):Int):=by omega
  have hw:IntKind.i64.wrap ((i:Int)+1)=((i+1:Nat):Int):=by rw[zae (by omega) (by omega)];omega
  have hix:ixV EE.P 214 (.agg (a.map Um).toArray) (In i)=some (Um (a.getD i 0#32)):=by rw[zf2 zep g2 g3,zbR,zbe,znY,Int.toNat_natCast,Nat.mul_one,gM',gD',gE' (by omega)];rfl
  simp only[XX,XY,zAK,yA,yB,yC,g1,hix,k1,hc,hn,hnx,lA];refine cZ (zrB (m:=M.bump _) (htM.bump _)) ?_;by_cases hm3:zfV n<=(i:Int)
  ·have d1:=decide_eq_true hm3;have e:i=zdG n:=by unfold zdG at hik⊢;omega
   simp only[XX,XY,zAK,yA,yB,d1,zam];rw[<-e];exact⟨(hk _ _ (hb _ _ _ hI)).2.2,hb _ _ _ hI⟩
  ·have d1:=decide_eq_false hm3;simp only[XX,XY,yA,yB,d1];refine CallI.rcon (hround i M _ hi2 (by omega) hI) (by simp) λu m' hm'=>?_;obtain⟨rfl,n3,hI'⟩:=hm';have n4:mr.next<=m'.next:=by omega
   simp only[XX,XY,zAK,yA,yB,yC,n4,hw,zac];exact⟨3-(i+1),_,_,by omega,vT (l':=[(7,In ((i+1:Nat):Int)),(6, .agg (a.map Um).toArray),(0, .func (.yield lp) #[] #[]),(1,PT c1)]) ⟨rfl,rfl,rfl,rfl,trivial⟩,i+1,by omega,rfl,rfl,hb _ _ _ hI',by unfold zdG;omega,by simp;omega⟩
 ·have q1:¬(i:Int)<3:=by omega
  have e:i=zdG n:=by unfold zdG at hik⊢;omega
  simp only[XX,XY,zAK,yA,yB,q1,hnx,zam];rw[<-e];exact⟨(hk _ _ (hb _ _ _ hI)).2.2,hb _ _ _ hI⟩
theorem zzV(hm:zad m){l:List Value}:∃u m',Con EE.P 214 [.agg l.toArray] m u m'∧∃x,u= .func (.func 284) #[] [PT x].toArray∧m.next<=x∧m'.get x=some (.cells (ofL l) true 0)∧Nx m m':=by refine Con.raw zai zFz (bA rfl) _ ?_;simp only[XX,XY,zIT,yA,yB,yC];have hn:Nx m ((m.put m.next (zaS.cells (ofL l) true 0)).bump 4):=⟨by(try simp only[bN,nP]);omega,zad.of_low (by have:=hm.n64;(try simp only[bN,nP]);omega) (by repeat(first|exact Low.of hm nO|refine Low.put ?_ nO|refine Low.bump ?_)),λy hy=>by simp only[gB,gP,zb3 hy,if_false]⟩;exact⟨⟨hn.next,λy hy e=>by rw[hn.old y hy,e]⟩,m.next,rfl,lR' _,by simp only[gB,gP,if_true],hn⟩
def zeg(i:Nat)(a:List (BitVec 32)):List (BitVec 32):=(List.range 3).map λk=>if k<i then a.getD k 0#32 else 0#32
theorem zfq{i:Nat}{a:List (BitVec 32)}:(zeg i a).length=3:=by simp[zeg]
theorem zs2{i:Nat}{a:List (BitVec 32)}(hi:i<3):(zeg i a).set i (a.getD i 0#32)=zeg (i+1) a:=by
 unfold zeg;rcases i with _|_|_|i
 ·rfl
 ·rfl
 ·rfl
 ·omega
structure OnI(mr:Mem)(lp o:Nat)(r:zct)(n:Int)(a:List (BitVec 32))(i:Nat)(M:Mem):Prop where
 fl:M.get lp=some (.loop r)
 fo:∃co,M.get o=some (.cells co true 0)∧co.sub 0 4=some (In n::(zeg i a).map Um)
 next:mr.next<=M.next
 old:∀y,y<mr.next->y≠lp->y≠o->M.get y=mr.get y
 low:∀y,y<mr.next->mr.get y=none->M.get y=none
theorem OnI.bump{lp o:Nat}{r:zct}{a:List (BitVec 32)}{i:Nat}{M:Mem}(h:OnI mr lp o r n a i M)(j:Nat):OnI mr lp o r n a i (M.bump j):=⟨h.fl,h.fo,by rw[bN];exact lA h.next,h.old,h.low⟩
abbrev zpl(tt:List Value):zct:={state:= .ready,pend:=none,tmps:=tt,ps:=[11,12],assign:=(kO Tryz.f151.body 7),body:=(kO Tryz.f151.body 8)}
theorem zw1(ht:Tb m){a:List (BitVec 32)}(ha:a.length=3):Con EE.P 151 [.agg (In n::a.map Um).toArray] m (.agg (In n::(zeg (zdG n) a).map Um).toArray) m:=by
 refine Con.of zai zE0 (bA rfl) Grow.rfl λhm=>?_;have h64:=hm.n64;have hb:zaT EE.P 216 [(0,In n)]=some (.agg [In n,Um 0,Um 0,Um 0].toArray):=kr;have hn0:(ofL (In n::a.map Um)).nth 0=some (In n):=by rw[za7];rfl
 have hs0:(ofL (In n::a.map Um)).sub 0 4=some (In n::a.map Um):=by rw[zbN (by simp[ha]),List.drop_zero,List.take_of_length_le (by simp[ha])]
 have ne1:¬m.next=m.next+1:=by omega
 have ne2:¬m.next=m.next+6:=by omega
 simp only[XX,XY,zD3,yA,yB,yC,hb,hn0,hs0,ne1];have hN:Nx m ((((((m.put m.next (zaS.cells (ofL (In n::List.map Um a)) true 0)).put (m.next+1) (zaS.cells (ofL [In 0,Um 0,Um 0,Um 0]) true 0)).put (m.next+5) (zaS.cells (ofL [In 0,Um 0,Um 0,Um 0]) true 0)).put (m.next+5) (zaS.cells ((ofL [In 0,Um 0,Um 0,Um 0]).write 0 [In n,Um 0,Um 0,Um 0]) true 0)).bump 9)):=(nX hm);refine cX (zzV hN.fresh) λu M hA=>?_;obtain⟨x,rfl,x1,x2,x3⟩:=hA;have hNM:=hN.trans x3;have n1:=x3.next;simp only[bN,nP] at n1 x1;have o1:M.get (m.next+1)=some (.cells (ofL [In 0,Um 0,Um 0,Um 0]) true 0):=by
  rw[x3.old _ nO]
  (simp only[gB,gP];repeat(first|rw[if_neg (by omega)]|rw[if_pos trivial]|rw[if_pos (by omega)]))
 have o5:M.get (m.next+5)=some (.cells ((ofL [In 0,Um 0,Um 0,Um 0]).write 0 [In n,Um 0,Um 0,Um 0]) true 0):=by
  rw[x3.old _ nO]
  (simp only[gB,gP];repeat(first|rw[if_neg (by omega)]|rw[if_pos trivial]|rw[if_pos (by omega)]))
 have lx:=x3.fresh.lt x2;simp only[XX,zD3,yA];have htM:∀o j,Tb ((M.put M.next o).bump j):=λo j=>(((ht.nx hm hNM).put (by omega)).bump j);have hfr:∀o,zad ((M.put M.next o).bump 1):=λo=>by have:=hNM.fresh;exact zad.of_low (by have:=this.n64;simp only[bN,nP];omega) (Low.bump (Low.put (Low.of this nO) nO))
 obtain⟨tt,htt⟩:∃tt,tt=T 18 [(10,Value.func (Fn.func 284) #[] #[PT x]),(9,Value.agg (In n::List.map Um a).toArray),(3,Value.pointer (some {block:=m.next+5,off:=0})),(8,Value.agg #[In n,Um 0,Um 0,Um 0]),(7,In n),(6,Value.pointer (some {block:=m.next,off:=0})),(2,Value.pointer (some {block:=m.next+1,off:=0})),(1,Value.pointer (some {block:=m.next,off:=0})),(0,Value.agg (In n::List.map Um a).toArray)]:=⟨_,rfl⟩;have hmr:zad ((M.put M.next (.loop (zpl tt))).bump 1):=hfr _;refine zgS (g:=284) (l':=[(3,PT (m.next+5)),(2,PT (m.next+1))]) (R:=λ_ m2=>OnI ((M.put M.next (.loop (zpl tt))).bump 1) M.next (m.next+5) (zpl tt) n a (zdG n) m2) [] [PT x] (by omega) (by simp only[zwB,zc4,Nat.reduceLT,Nat.reduceEqDiff,reduceIte]) kr ?_ (λp hp=>?_) (λ_ m2 hI=>?_)
 ·rw[<-htt];refine zuL ha hmr (htM _ _) (z:=0) (c1:=x) ?_ (OnI ((M.put M.next (.loop (zpl tt))).bump 1) M.next (m.next+5) (zpl tt) n a) ?_ (λi M j h=>h.bump j) (λi M2 h=>?_) (λi M2 j hi him hI=>?_)
  ·rw[gB,gP,if_neg (by omega)];exact x2
  ·refine⟨gA,⟨_,by rw[gB,gP,if_neg (by omega)];exact o5,?_⟩,lR' _,λ_ _ _ _=>rfl,λ_ _ h=>h⟩;rfl
  ·exact⟨h.old x nO (by omega) (by omega),λy hy=>h.old y nO (by omega) (by omega),h.next,h.low⟩
  ·obtain⟨q1,⟨co,q2,q3⟩,q4,q5,q6⟩:=hI;simp only[bN,nP] at q4;refine zgt.of zai (r:=zpl tt) (by rw[gB];exact q1) rfl rfl ?_;have hw:=znn q3;have ne5:¬m.next+5=M.next:=by omega
   have ne6:¬M.next=m.next+5:=by omega
   have g1:(0:Int)<=i:=by omega
   have g2:(i:Int)<((3:Nat):Int):=by omega
   have g3:0+1+i*1+1<=co.n:=by omega
   have g4:1+(i+1)<=co.n:=by omega
   rw[htt];simp only[XX,XY,zD3,yA,yB,yC,yG,q1,q2,ne5,ne6,g1,g2,g4];have hwr:(co.write (1+i) [Um (a.getD i 0#32)]).sub 0 4=some (In n::(zeg (i+1) a).map Um):=by have:=zaU (k:=1+i) (v:=Um (a.getD i 0#32)) q3 (by omega);rw[Nat.zero_add] at this;rw[this,<-zs2 hi,Nat.add_comm 1 i,List.set_cons_succ,List.map_set]
   rw[<-htt];have hg:∀o1 o2 o3 J,j<=J->Grow (M2.bump j) ((((M2.put M.next o1).put (m.next+5) o2).put M.next o3).bump J):=λo1 o2 o3 J hJ=>⟨nO,λy hy e=>by rw[gB] at e;rw[gB,gP,if_neg (λe2=>by rw[e2,q1] at e;cases e),gP,if_neg (λe2=>by rw[e2,q2] at e;cases e),gP,if_neg (λe2=>by rw[e2,q1] at e;cases e),e]⟩;refine⟨hg _ _ _ _ (by omega),⟨gA,⟨_,gA,hwr⟩,nO,λy hy y1 y2=>?_,λy hy e=>?_⟩⟩
   ·rw[<-q5 y hy y1 y2]
    (simp only[gB,gP];repeat(first|rw[if_neg (by omega)]|rw[if_pos trivial]|rw[if_pos (by omega)]))
   ·have hq:=q6 y hy e;rw[gB,gP,if_neg (λe2=>by rw[e2,q1] at hq;cases hq),gP,if_neg (λe2=>by rw[e2,q2] at hq;cases hq),gP,if_neg (λe2=>by rw[e2,q1] at hq;cases hq),hq]
 ·simp only[List.mem_cons,List.not_mem_nil,or_false] at hp;rcases hp with rfl|rfl
  ·exact zgn (by omega)
  ·exact zgn (by omega)
 ·obtain⟨q1,⟨co,q2,q3⟩,q4,q5,q6⟩:=hI;simp only[bN,nP] at q4;refine zb1 q1 ?_;have ne5b:¬m.next+5=M.next:=by omega
  have n2:m.next<=m2.next:=by omega
  have o1b:m2.get (m.next+1)=some (.cells (ofL [In 0,Um 0,Um 0,Um 0]) true 0):=by rw[q5 _ nO (by omega) (by omega),gB,gP,if_neg (by omega)];exact o1
  have ne1b:¬m.next+1=M.next:=by omega
  have hl4:(zeg (zdG n) a).length=3:=zfq;have hw4:((ofL [In 0,Um 0,Um 0,Um 0]).write 0 (In n::List.map Um (zeg (zdG n) a))).sub 0 4=some (In n::List.map Um (zeg (zdG n) a)):=zay (by simp[hl4]) (by exact lR' _);have hall:(In n::List.map Um (zeg (zdG n) a)).all oneCell=true:=by simp[oneCell]
  simp only[XX,XY,zD3,yA,yB,yC,q2,q3,ne5b,n2,o1b,ne1b,hl4,hw4,hall,lM];exact tP (by rcases hl:zeg (zdG n) a with _|⟨b0,_|⟨b1,_|⟨b2,l⟩⟩⟩<;>first|(have:=zfq (i:=zdG n) (a:=a);rw[hl] at this;cases l with|nil=>rfl|cons=>simp at this)|(have:=zfq (i:=zdG n) (a:=a);rw[hl] at this;simp at this)) λy hy=>by
   (simp only[gB,gP];repeat(first|rw[if_neg (by omega)]|rw[if_pos trivial]|rw[if_pos (by omega)]))
   rw[q5 y nO (by omega) (by omega),gB,gP,if_neg (by omega),hNM.old y hy]
end
section
variable{m m' mr:Mem}{n:Int}{L L':Loc}{X:St}
def ofN(r:List (BitVec 32)):Int:=if zfV (r.getD 0 0#32).toNat<0 then 0 else(r.getD 0 0#32).toNat
def ofA(r:List (BitVec 32)):List (BitVec 32):=if zfV (r.getD 0 0#32).toNat<0 then [0#32,0#32,0#32] else zeg (zdG (r.getD 0 0#32).toNat) [r.getD 1 0#32,r.getD 2 0#32,r.getD 3 0#32]
def ofB(r:List (BitVec 32)):Bool:= !decide (zfV (r.getD 0 0#32).toNat<0)
theorem zdr{x:BitVec 32}:zbU EE.P 36 3 (Um x) m=some (In x.toNat):=by rw[zdV zaQ zaJ];have:=x.isLt;rw[zae (by omega) (by omega)]
theorem zme{r:List (BitVec 32)}:(ofA r).length=3:=by unfold ofA;split<;>simp[zeg]
theorem zzi(ht:Tb m){r:List (BitVec 32)}(hr:r.length=8):Con EE.P 103 [.agg (r.map Um).toArray] m (.tuple [.agg (In (ofN r)::(ofA r).map Um).toArray, .bool (ofB r)].toArray) m:=by
 refine Con.of zai zE2 (bA rfl) Grow.rfl λhm=>?_;have h64:=hm.n64;have hq:∀k,k<8->(ofL (r.map Um)).nth k=some (Um (r.getD k 0#32)):=λk hk=>by rw[za7,gM',gD',gE' (by omega)];rfl
 have q0:=hq 0 (by decide);have q1:=hq 1 (by decide);have q2:=hq 2 (by decide);have q3:=hq 3 (by decide);have g0:(0:Int)<=0:=by decide
 have g1:(0:Int)<=1:=by decide
 have g2:(0:Int)<=2:=by decide
 have g3:(0:Int)<=3:=by decide
 have k0:(0:Int)<((8:Nat):Int):=by decide
 have k1:(1:Int)<((8:Nat):Int):=by decide
 have k2:(2:Int)<((8:Nat):Int):=by decide
 have k3:(3:Int)<((8:Nat):Int):=by decide
 have b1:∀x y z:BitVec 32,zaT EE.P 214 [(0,Um x),(1,Um y),(2,Um z)]=some (.agg [Um x,Um y,Um z].toArray):=λx y z=>by kernel_rfl
 have b2:∀(n:Int) (x y z:BitVec 32),zaT EE.P 216 [(0,In n),(1, .agg [Um x,Um y,Um z].toArray)]=some (.agg [In n,Um x,Um y,Um z].toArray):=λn x y z=>by kernel_rfl
 have t0:Int.toNat 0=0:=rfl;have t1:Int.toNat 1=1:=rfl;have t2:Int.toNat 2=2:=rfl;have t3:Int.toNat 3=3:=rfl;simp only[XX,XY,zD7,yA,yB,yC,q0,q1,q2,q3,g0,g1,g2,g3,k0,k1,k2,k3,b1,b2,zdr,t0,t1,t2,t3];refine cZ (zrB (by repeat(first|exact ht|refine Tb.bump ?_ _|refine Tb.put ?_ (by omega)))) ?_;have b0:zaT EE.P 216 []=some (.agg [In 0,Um 0#32,Um 0#32,Um 0#32].toArray):=kr;have ne1:¬m.next+1=m.next+14:=by omega
 have ne2:¬m.next+14=m.next+1:=by omega
 have ne3:¬m.next+1=m.next:=by omega
 by_cases hc:zfV (r.getD 0 0#32).toNat<0
 ·have d1:=decide_eq_true hc;have e1:ofN r=0:=by unfold ofN;rw[if_pos hc]
  have e2:ofA r=[0#32,0#32,0#32]:=by unfold ofA;rw[if_pos hc]
  have e3:ofB r=false:=by unfold ofB;rw[d1];rfl
  rw[e1,e2,e3];simp only[XX,XY,zD7,yA,yB,yC,d1,b0,ne1,ne3];exact tP rfl λy hy=>gA
 ·have d1:=decide_eq_false hc;have e1:ofN r=(r.getD 0 0#32).toNat:=by unfold ofN;rw[if_neg hc]
  have e2:ofA r=zeg (zdG (r.getD 0 0#32).toNat) [r.getD 1 0#32,r.getD 2 0#32,r.getD 3 0#32]:=by unfold ofA;rw[if_neg hc]
  have e3:ofB r=true:=by unfold ofB;rw[d1];rfl
  rw[e1,e2,e3];have hw4:((ofL [In 0,Um 0,Um 0,Um 0]).write 0 [In (r.getD 0 0#32).toNat,Um (r.getD 1 0#32),Um (r.getD 2 0#32),Um (r.getD 3 0#32)]).sub 0 4=some [In (r.getD 0 0#32).toNat,Um (r.getD 1 0#32),Um (r.getD 2 0#32),Um (r.getD 3 0#32)]:=zay rfl (lR' _);simp only[XX,XY,zD7,yA,yB,yC,d1,ne2];refine CallI.con (zw1 (a:=[r.getD 1 0#32,r.getD 2 0#32,r.getD 3 0#32]) (by repeat(first|exact ht|refine Tb.bump ?_ _|refine Tb.put ?_ (by omega))) rfl) (by simp) ?_;have hl:(zeg (zdG (r.getD 0 0#32).toNat) [r.getD 1 0#32,r.getD 2 0#32,r.getD 3 0#32]).length=3:=zfq;generalize zeg (zdG (r.getD 0 0#32).toNat) [r.getD 1 0#32,r.getD 2 0#32,r.getD 3 0#32]=l at hl;obtain⟨b0,b1,b2,rfl⟩:∃b0 b1 b2,l=[b0,b1,b2]:=by
   match l,hl with
   |[b0,b1,b2],_=>exact⟨b0,b1,b2,rfl⟩
  simp only[XX,XY,zD7,yA,yB,yC,ne1,ne3];exact tP rfl λy hy=>gA
end
section
variable{m m' mr:Mem}{n:Int}{L L':Loc}{X:St}
def zkK(k:Nat):Int:=match zeD.getD (2*k) undef with
 | .int _ n=>n
 |_=>0
def zlH(k:Nat):ByteArray:=match zeD.getD (2*k+1) undef with
 | .string s=>s
 |_=>⟨#[]⟩
theorem zkI:zeD.length=30:=rfl
theorem zu6:∀k,k<15->(zeD.drop (k*2)).take 2=[In (zkK k), .string (zlH k)]:=by intro k hk;rcases k with _|_|_|_|_|_|_|_|_|_|_|_|_|_|_|k<;>first|rfl|omega
def zp0(c:Int):Option Nat:=(List.range 15).find? λk=>decide (zkK k=c)
def zoX(c:Int):ByteArray:=match zp0 c with
 |some k=>zlH k
 |none=>⟨#[]⟩
theorem zyl(ht:Tb m){c:Int}:Con EE.P 192 [In c] m (.string (zoX c)) m:=by
 refine Con.of zai zEN (bA rfl) Grow.rfl λhm=>?_;have h64:=hm.n64;have hs:(ofL zeD).sub 0 30=some zeD:=by rw[zbN (by rw[zkI];decide),List.drop_zero,List.take_of_length_le (by rw[zkI];decide)]
 simp only[XX,XY,zEe,yA,yC,ht.codes,hs];refine WX.loop_of (λk tt M=>∃i:Nat,i<=15∧k=15-i∧tt=T 16 [(6,In i),(5, .agg zeD.toArray),(0,In c)]∧(∀k,k<i->decide (zkK k=c)=false)∧m.next<=M.next∧∀y,y<m.next->M.get y=m.get y) ?_ (k:=15) (t1:=T 16 [(6,In (0:Nat)),(5, .agg zeD.toArray),(0,In c)]) (vT ⟨rfl,rfl,rfl,trivial⟩) ⟨0,by omega,rfl,rfl,λk hk=>by omega,by simp,λ_ _=>rfl⟩;rintro k tt M ⟨i,hi,rfl,rfl,hf,hn,ho⟩;by_cases hi2:i<15
 ·have g1:(i:Int)<15:=by omega
  have g2:(0:Int)<=i:=by omega
  have g3:(i:Int)<((15:Nat):Int):=by omega
  have hw:IntKind.i64.wrap ((i:Int)+1)=((i+1:Nat):Int):=by rw[zae (by omega) (by omega)];omega
  have hix:ixV EE.P 361 (.agg zeD.toArray) (In i)=some (.agg [In (zkK i), .string (zlH i)].toArray):=by rw[zf2 zrQ g2 g3,zwh,zqE,zC9,Int.toNat_natCast,zu6 i hi2]
  have hstr:∀s:ByteArray,oneCell (.string s)=true:=λ_=>rfl;have hq1:((ofL [In 0, .string ⟨#[]⟩]).write 0 [In (zkK i), .string (zlH i)]).nth 1=some (.string (zlH i)):=rfl;cases hp:decide (zkK i=c) with
  |true=>
   have e:zoX c=zlH i:=by
    unfold zoX zp0;have:(List.range 15).find? (λk=>decide (zkK k=c))=some i:=by rw[List.find?_range_eq_some];exact⟨hp,List.mem_range.2 hi2,λj hj=>by rw[hf j hj];rfl⟩
    rw[this]
   rw[e];simp only[XX,XY,zEe,yA,yB,yC,g1,hix,hn,hp,hq1,zbC,lA];exact tP rfl λy hy=>by(simp only[gB,gP];repeat(first|rw[if_neg (by omega)]|rw[if_pos trivial]|rw[if_pos (by omega)]));exact ho y hy
  |false=>
   simp only[XX,XY,zEe,yA,yB,yC,g1,hix,hn,hp,hw,zac,lA];refine⟨15-(i+1),_,_,by omega,vT (l':=[(6,In ((i+1:Nat):Int)),(5, .agg zeD.toArray),(0,In c)]) ⟨rfl,rfl,rfl,trivial⟩,i+1,by omega,rfl,rfl,λk hk=>?_,nO,λy hy=>by(simp only[gB,gP];repeat(first|rw[if_neg (by omega)]|rw[if_pos trivial]|rw[if_pos (by omega)]));exact ho y hy⟩;rcases Nat.lt_or_ge k i with h1|h1
   ·exact hf k h1
   ·rw[show k=i by omega];exact hp
 ·have q1:¬(i:Int)<15:=by omega
  have e:zoX c=⟨#[]⟩:=by
   unfold zoX zp0;have:(List.range 15).find? (λk=>decide (zkK k=c))=none:=by rw[List.find?_range_eq_none];exact λj hj=>by rw[hf j (by omega)];rfl
   rw[this]
  rw[e];simp only[XX,XY,zEe,yA,yB,yC,q1,hn,zam,lA];exact tP rfl λy hy=>ho y hy
def zF6(c:Int):BitVec 32:=if(zp0 c).isSome then BitVec.ofInt 32 (-c) else 0#32
theorem zu3:∀k,k<15->((zlH k).toList==(⟨#[]⟩:ByteArray).toList)=false:=by intro k hk;rw[ByteArray.toList_eq,ByteArray.toList_eq];rcases k with _|_|_|_|_|_|_|_|_|_|_|_|_|_|_|k<;>first|rfl|omega
theorem zwj{x y:Operand}{a b:ByteArray}:eqA EE.P .eql 9 x y (.string a) (.string b) m=some (.bool (a.toList==b.toList)):=by have hp:∀c:ByteArray,plain (.string c)=true:=λ_=>rfl;unfold eqA;simp only[hp,Bool.and_self,if_true];rfl
theorem zDh{k:IntKind}{n:Int}:unV EE.P .neg (.int k n)=some (.int k (k.wrap (0-n))):=by cases k<;>rfl
theorem zu7{c:Int}:unV EE.P .neg (.int .u32 (IntKind.u32.wrap c))=some (Um (BitVec.ofInt 32 (-c))):=by rw[zDh];congr 2;rw[za4,za4,BitVec.toNat_ofInt];omega
theorem zp1{c:Int}:zbU EE.P 3 36 (In c) m=some (.int .u32 (IntKind.u32.wrap c)):=by rw[zdV zaJ zaQ]
theorem zCA(ht:Tb m){c:Int}:Con EE.P 135 [In c] m (Um (zF6 c)) m:=by
 refine Con.of zai zHb (bA rfl) Grow.rfl λhm=>?_;simp only[XX,XY,zHh,yA,yB,yC];refine cZ (zyl (by repeat(first|exact ht|refine Tb.bump ?_ _|refine Tb.put ?_ (by omega)))) ?_;unfold zF6 zoX;cases hc:zp0 c with
 |none=>have e0:((⟨#[]⟩:ByteArray).toList==(⟨#[]⟩:ByteArray).toList)=true:=beq_self_eq_true _;simp only[XX,XY,zHh,yA,yB,yC,zwj,Option.isSome_none];exact tP rfl λ_ _=>rfl
 |some k=>
  have hk:k<15:=by have:=List.mem_of_find?_eq_some hc;exact List.mem_range.1 this
  have e0:=zu3 k hk;simp only[XX,XY,zHh,yA,yB,yC,zwj,e0,zp1,zu7];exact tP rfl λ_ _=>rfl
end
section
variable{m m' mr:Mem}{n:Int}{L L':Loc}{X:St}
theorem zq1{b o:Nat}:EE.eqv (.pointer (some ⟨b,o,none⟩)) (.pointer (some ⟨b,o,none⟩))=true:=by show zgZ 8 _ _=true;simp[zgZ,vEq,zlo]
def zfR(X:St)(i:Nat)(kind call:Int)(v:BitVec 32):St:={X with seen:=X.seen++ [⟨(X.p i).pid,kind,call,v⟩]}
theorem zHT:zcn EE.P 53 113 4 32:=zcn.of zwR kr (z:=[In 0,In 0,In 0,Um 0]) kr rfl (by decide)
theorem FAt.set_sv(h:FAt m L X){M:Mem}{v':Value}{id:Nat}{S:List zk2}{cf:Cells}(f1:m.get L.f=some (.cells cf true 0))(f2:FC L X cf)(hn:m.next<=M.next)(hid:m.next<=id∧id<M.next)(h64:64<=m.next)
  (hold:∀y,y<m.next->slB L.sv≠some y->M.get y=m.get y) (hsl:SlV M 4 v' S.length (S.flatMap zpm)) (hb:slB v'=slB L.sv∨slB v'=some id∨slB v'=none):
  FAt (M.put L.f (.cells (cf.write 12 [v']) true 0)) {L with sv:=v',D:=λy=>L.D y∨y=id} {X with seen:=S}:=by
 have hi:∀y∈L.ids,M.get y=m.get y:=λy hy=>hold y (h.ids_lt hy) (by obtain⟨cs,hc⟩:=h.cell0 hy;exact h.ss.ne0 (by decide) hc);have hsd:∀{n:Nat} {v:Value} {fl:List Value},SlV m 1 v n fl->(∀y,slB v=some y->L.D y)->SlV (M.put L.f (.cells (cf.write 12 [v']) true 0)) 1 v n fl:=λ{n v fl} hv hd=>hv.keep λy o hy ho=>by
  have h1:y≠L.f:=λe=>hv.ne0 (by decide) f1 (by rw[hy,e]);have h2:slB L.sv≠some y:=λe=>by obtain⟨c1,e1⟩:=h.ss.ob e;obtain⟨c2,e2⟩:=hv.ob hy;rw[e1] at e2;cases e2
  rw[gP,if_neg h1,hold y (h.lt y (hd y hy)) h2];exact ho
 have hne:∀k,k<X.P.length->¬L.p k=L.f:=λk hk e=>h.f_p hk e.symm;refine⟨⟨_,by rw[gP,if_pos rfl],?_⟩,λk hk=>?_,λk hk=>?_,λk hk=>?_,λk hk=>?_,λk hk=>?_,h.lP,h.lG,h.lC,h.lI,h.lF,h.lb,h.nd,λy hy=> .inl (h.dm y hy),hsd h.ls h.dl,hsd h.fs h.df,?_,λk hk=>hsd (h.bs k hk) (λy=>h.db k y hk),λy hy=> .inl (h.dl y hy),λy hy=> .inl (h.df y hy),λy hy=>?_,λk y hk hy=> .inl (h.db k y hk hy),h.sep,λy hy=>?_,λy hy=>?_,h.pi,h.pf⟩
 ·exact⟨by rw[zap,f2.n],(zaa (.inl (by decide))).trans f2.cores,(zaa (.inl (by decide))).trans f2.frames,(zaa (.inl (by decide))).trans f2.procs,(zaa (.inl (by decide))).trans f2.cap,(zaa (.inl (by decide))).trans f2.prog,(zaa (.inl (by decide))).trans f2.lv,(zaa (.inl (by decide))).trans f2.fv,(zaa (.inl (by decide))).trans f2.contents,(zaa (.inl (by decide))).trans f2.files,(zaa (.inl (by decide))).trans f2.pipes,(zaa (.inl (by decide))).trans f2.next,(zaa (.inl (by decide))).trans f2.halted,zak (by rw[f2.n];decide)⟩
 ·obtain⟨c1,a1,a2⟩:=h.pr k hk;exact⟨c1,by rw[gP,if_neg (λe=>h.f_p hk e.symm),hi _ (h.mp hk)];exact a1,a2.move rfl (λ_ _=>rfl) (λ_ _ _=>rfl) (λ_ _ _=>rfl) (λ_ _=>rfl) λ_ _=>rfl⟩
 ·obtain⟨c1,a1,a2⟩:=h.pg k hk;exact⟨c1,by rw[gP,if_neg (λe=>h.f_g hk e.symm),hi _ (h.mg hk)];exact a1,a2.move rfl⟩
 ·obtain⟨c1,a1,a2⟩:=h.ct k hk;exact⟨c1,by rw[gP,if_neg (λe=>h.f_c hk e.symm),hi _ (h.mc hk)];exact a1,a2.move⟩
 ·obtain⟨c1,a1,a2⟩:=h.ip k hk;exact⟨c1,by rw[gP,if_neg (λe=>h.f_i hk e.symm),hi _ (h.mi hk)];exact a1,a2⟩
 ·obtain⟨c1,a1,a2⟩:=h.xs k hk;exact⟨c1,by rw[gP,if_neg (λe=>h.f_x hk e.symm),hi _ (h.mx hk)];exact a1,a2.move rfl⟩
 ·exact hsl.put0 (by decide) (by rw[hi _ h.mf];exact f1)
 ·rcases hb with e|e|e
  ·exact .inl (h.ds y (e▸hy))
  ·rw[e] at hy;cases hy;exact .inr rfl
  ·rw[e] at hy;cases hy
 ·rcases hy with hy|rfl
  ·exact lL (h.lt y hy) (by rw[nP];exact hn)
  ·rw[nP];exact hid.2
 ·rcases hy with hy|rfl
  ·exact h.d64 y hy
  ·omega
theorem znp(h:FAt m L X)(hmF:zad m){i:Nat}(hi:i<X.P.length)(hs:X.seen.length<100000){kind call:Int}{v:BitVec 32}:
  ∃u m',Con EE.P 80 [PT (L.p i),In kind,In call,Um v] m u m'∧∃L',FAt m' L' (zfR X i kind call v)∧Lx m.next L L'∧Fd L.D m m':=by
 refine Con.raw zai zHX (bA rfl) _ ?_;obtain⟨cs,h1,h2⟩:=h.pr i hi;obtain⟨cf,f1,f2⟩:=h.fl;have b1:∀(x y z:Int) (w:BitVec 32),zaT EE.P 113 [(0,In x),(1,In y),(2,In z),(3,Um w)]=some (.agg [In x,In y,In z,Um w].toArray):=λx y z w=>by kernel_rfl
 have b2:∀(x y z:Int) (w:BitVec 32),bsV EE.P 53 1 [(0, .agg [In x,In y,In z,Um w].toArray)]=some ([In x,In y,In z,Um w],4):=λx y z w=>by kernel_rfl
 have hlt:=h.lt _ (h.dm _ h.mf);have hm64:=hmF.n64;have hlp:=h.lt _ (h.dm _ (h.mp hi));have ne1:∀j,¬L.f=m.next+j:=λj=>by omega
 have ne2:∀j,¬L.p i=m.next+j:=λj=>by omega
 simp only[XX,XY,F80,yA,yB,yC,h1,h2.f,h2.pid,f1,f2.sv,b1,b2];have h':FAt ((m.put (m.next+19) (zaS.cells (ofL [In (X.p i).pid,In kind,In call,Um v]) true 4)).bump 24) L X:=h.new'.bump _;refine zd3 (k:=1) (new:=[In (X.p i).pid,In kind,In call,Um v]) zHT h'.ss (zej rfl) (by decide) rfl rfl (.inl rfl) (by omega) λv' M' hA=>?_;have n1:=hA.next;simp only[bN,nP] at n1;have hold:∀y,y<m.next->slB L.sv≠some y->M'.get y=m.get y:=λy hy hs=>by rw[hA.old y (by omega) hs,gB,gP,if_neg (by omega)]
 have k1:M'.get (L.p i)=some (.cells cs true 0):=by rw[hold _ hlp (h.ss.ne0 (by decide) h1)];exact h1
 have k2:M'.get L.f=some (.cells cf true 0):=by rw[hold _ hlt (h.ss.ne0 (by decide) f1)];exact f1
 have k3:12+1<=cf.n:=by rw[f2.n];decide
 have k4:EE.eqv (PT L.f) (PT L.f)=true:=zq1;obtain⟨bs,cs',cb,rfl,_⟩:=hA.sl.cons (by omega);simp only[XX,XY,F80,yA,yB,yC,h1,h2.f,k1,k2,k3,k4,ne2];have hsl:SlV M' 4 (.slice (some ⟨bs,0,none⟩) (X.seen.length+1) cs') (X.seen++ [⟨(X.p i).pid,kind,call,v⟩]:List zk2).length ((X.seen++ [⟨(X.p i).pid,kind,call,v⟩]:List zk2).flatMap zpm):=by rw[aL,List.flatMap_append];exact hA.sl
 have hres:=h.set_sv (M:=M') (id:=m.next+20) f1 f2 (by omega) ⟨by omega,by omega⟩ hm64 hold hsl (by
  rcases hA.blk with⟨e,_⟩|e
  ·exact .inl e
  ·exact .inr (.inl e))
 have hz:∀y,y≠m.next+20->((m.put (m.next+19) (zaS.cells (ofL [In (X.p i).pid,In kind,In call,Um v]) true 4)).bump 24).get y=none->M'.get y=none:=hA.low;have hF:Fd L.D m (M'.put L.f (.cells (cf.write 12 [.slice (some ⟨bs,0,none⟩) (X.seen.length+1) cs']) true 0)):=by
  refine⟨by rw[nP];omega,zad.of_low nO (λy hy=>?_),λy hy hD=>?_,λy hy e=>?_⟩
  ·rw[nP] at hy;rw[gP,if_neg (by omega)];exact hz y (by omega) (by rw[gB,gP,if_neg (by omega)];exact hmF.none y (by omega))
  ·rw[gP,if_neg (λe=>hD (by rw[e];exact h.dm _ h.mf)),hold y hy (λe=>hD (h.ds y e))]
  ·rw[gP,if_neg (λe2=>by rw[e2,f1] at e;cases e)];exact hz y (by omega) (by rw[gB,gP,if_neg (by omega)];exact e)
 exact hF.raw ⟨_,hres,⟨rfl,⟨[],by simp⟩,⟨[],by simp⟩,⟨[],by simp⟩,⟨[],by simp⟩,⟨[],by simp⟩,λy hy=>hy.imp id λe=>by omega⟩,hF⟩
end
section
variable{m m' M mr:Mem}{n:Int}{L L' L1:Loc}{X X1 X2:St}
def Be(m:Mem)(L:Loc)(X:St)(m':Mem):Prop:=∃L',FAt m' L' X∧Lx m.next L L'∧Fd L.D m m'
theorem Be.trans(hx:Lx m.next L L1)(hf:Fd L.D m M)(h:Be M L1 X m'):Be m L X m':=by obtain⟨L2,h1,h2,h3⟩:=h;exact⟨L2,h1,hx.trans h2 hf.next,hf.trans h3 hx.D⟩
theorem Be.bump(h:Be m L X m')(j:Nat):Be m L X (m'.bump j):=by obtain⟨L2,h1,h2,h3⟩:=h;exact⟨L2,h1.bump j,h2,h3.bump j⟩
structure Pu(D:Nat->Prop)(m M:Mem)(j:Nat):Prop where
 next:M.next=m.next
 old:∀y,y<m.next->¬D y->M.get y=m.get y
 low:∀y,y<m.next->m.get y=none->M.get y=none
 none:∀y,m.next+j<=y->M.get y=none
theorem Pu.refl{D:Nat->Prop}(hm:zad m){j:Nat}:Pu D m m j:=⟨rfl,λ_ _ _=>rfl,λ_ _ h=>h,λy hy=>hm.none y (by omega)⟩
theorem Pu.new{D:Nat->Prop}{j b:Nat}{o:zaS}(h:Pu D m M j)(hb:m.next<=b∧b<m.next+j):Pu D m (M.put b o) j:=
 ⟨h.next,λy hy hD=>by rw[gP,if_neg (by omega)];exact h.old y hy hD,λy hy e=>by rw[gP,if_neg (by omega)];exact h.low y hy e,λy hy=>by rw[gP,if_neg (by omega)];exact h.none y hy⟩
theorem Pu.own{j b:Nat}{o:zaS}(hA:FAt m L X)(hb:b∈L.ids)(h:Pu L.D m M j):Pu L.D m (M.put b o) j:=by
 have hlt:=hA.ids_lt hb;obtain⟨cs,hc⟩:=hA.cell0 hb;exact⟨h.next,λy hy hD=>by rw[gP,if_neg (λe=>hD (by rw[e];exact hA.dm _ hb))];exact h.old y hy hD,
  λy hy e=>by rw[gP,if_neg (λe2=>by rw[e2,hc] at e;cases e)];exact h.low y hy e,λy hy=>by rw[gP,if_neg (by omega)];exact h.none y hy⟩
theorem Pu.fd{D:Nat->Prop}{j k:Nat}(h:Pu D m M j)(hm:zad m)(hk:j<=k):Fd D m (M.bump k):=
 ⟨by rw[bN,h.next];omega,zad.of_low (by rw[bN,h.next];have:=hm.n64;omega) (λy hy=>by rw[bN,h.next] at hy;rw[gB];exact h.none y (by omega)),h.old,h.low⟩
theorem FAt.upd_p(h:FAt m L X){i:Nat}(hi:i<X.P.length){cs:Cells}{r:zb9}(hr:PC L r cs)(hn:m.next<=M.next)(hc:M.get (L.p i)=some (.cells cs true 0))(ho:∀y,L.D y->y≠L.p i->M.get y=m.get y):FAt M L {X with P:=X.P.set i r}:=
 (h.put_p hi hr).keep hn λy hy=>by
  rw[gP];split
  ·rename_i e;rw[e];exact hc
  ·rename_i e;exact ho y hy e
theorem Be.raw{u:Value}(h:Be m L X m'):zcY m m' u λ_ m'=>Be m L X m':=by obtain⟨L2,h1,h2,h3⟩:=h;exact h3.raw ⟨L2,h1,h2,h3⟩
theorem Fd.put{D:Nat->Prop}{b:Nat}{o:zaS}(h:Fd D m M)(hb:D b∨(m.next<=b∧b<M.next))(hl:∀y,D y->y<m.next)(hs:M.get b≠none∨m.next<=b):Fd D m (M.put b o):=by
 have h1:=h.next;have hbn:b<M.next:=hb.elim (λe=>lL (hl b e) h1) λe=>e.2;refine⟨by rw[nP];exact h1,zad.of_low (by rw[nP];exact h.fresh.n64) (λy hy=>?_),λy hy hD=>?_,λy hy e=>?_⟩
 ·rw[nP] at hy;rw[gP,if_neg (by omega)];exact h.fresh.none y hy
 ·rw[gP,if_neg (λe=>hb.elim (λe2=>hD (by rw[e];exact e2)) λe2=>by omega)];exact h.old y hy hD
 ·rw[gP,if_neg (λe2=>by
   subst e2;rcases hs with h2|h2
   ·exact h2 (h.low y hy e)
   ·omega)]
  exact h.low y hy e
def zar(X:St)(i:Nat)(v:BitVec 32):St:=
 zfR {X with P:=X.P.set i {X.p i with cpu:={(X.p i).cpu with r:=(X.p i).cpu.r.set 0 v,pc:=(X.p i).cpu.pc+4#32}}} i 1 (ofN (X.p i).cpu.r) v
theorem zi9{r:zb9}{cs:Cells}(h:PC L r cs):cs.sub 5 8=some (r.cpu.r.map Um):=by have:=zx9 (k:=0) (j:=8) h.cpu (by decide);rw[Nat.add_zero] at this;rw[this,List.drop_zero];unfold zbm;rw[aA,List.take_append_of_le_length (by rw[lM,h.okc.1];exact lR' _),List.take_of_length_le (by rw[lM,h.okc.1];exact lR' _)]
theorem zcy{c:Cpu}(h:c.ok):(zbm c).length=11:=by simp[zbm,h.1,h.2]
theorem zxy{c:Cpu}(h:c.ok):(zbm c)[10]? =some (Um c.pc):=by unfold zbm;rw[aC' (by simp[h.1,h.2])];simp[h.1,h.2]
theorem znk{r:zb9}{cs:Cells}(h:PC L r cs):cs.nth 15=some (Um r.cpu.pc):=by have:=zcw (k:=10) h.cpu (by decide);rw[show 5+10=15 from rfl] at this;rw[this,zxy h.okc]
theorem zev{c:Cpu}(h:c.ok){k:Nat}(hk:k<8){v:BitVec 32}:(zbm c).set k (Um v)=zbm {c with r:=c.r.set k v}:=by unfold zbm;rw[aA,List.set_append_left _ _ (by rw[lM,h.1];exact hk),aA];show List.set (c.r.map Um) k (Um v)++_=(c.r.set k v).map Um++_;rw[List.map_set]
theorem zdH{c:Cpu}(h:c.ok){v:BitVec 32}:(zbm c).set 10 (Um v)=zbm {c with pc:=v}:=by unfold zbm;rw[List.set_append_right _ _ (by simp[h.1,h.2])];simp[h.1,h.2]
theorem zbu{c:Cells}{x:Value}{l:List Value}(h:0<c.n):(c.write 0 (x::l)).nth 0=some x:=by rw[zbV (by rw[zap];exact h),zbA,if_pos (by simp)];rfl
theorem zaL(h:FAt m L X)(hm:zad m)(ht:Tb m){i:Nat}(hi:i<X.P.length)(hs:X.seen.length<100000){v:BitVec 32}:
  ∃u m',Con EE.P 70 [PT (L.p i),Um v] m u m'∧Be m L (zar X i v) m':=by
 refine Con.raw zai zHz (bA rfl) _ ?_;obtain⟨cs,h1,h2⟩:=h.pr i hi;have hr:=zi9 h2;have h64:=hm.n64;simp only[XX,XY,F70,yA,yB,yC,h1,hr];refine cZ (zzi (by repeat(first|exact ht|refine Tb.bump ?_ _|refine Tb.put ?_ (by omega))) h2.okc.1) ?_;have hlp:=h.lt _ (h.dm _ (h.mp hi));have ne2:∀j,¬L.p i=m.next+j:=λj=>by omega
 have g1:(0:Int)<=0:=by decide
 have g2:(0:Int)<((8:Nat):Int):=by decide
 have t0:Int.toNat 0=0:=rfl;have hl:=zme (r:=(X.p i).cpu.r);have hall:(In (ofN (X.p i).cpu.r)::(ofA (X.p i).cpu.r).map Um).all oneCell=true:=by simp[oneCell]
 have hpc:(cs.write 5 [Um v]).nth 15=some (Um (X.p i).cpu.pc):=by rw[zaa (.inr (bA rfl)),znk h2]
 have ha:IntKind.u32.wrap (((X.p i).cpu.pc.toNat:Int)+4)=(((X.p i).cpu.pc+4#32).toNat:Int):=by rw[<-zcH];rfl
 have k1:5+1<=cs.n:=by rw[h2.n];decide
 have k2:15+1<=cs.n:=by rw[h2.n];decide
 have ne3:∀j,¬m.next+j=L.p i:=λj=>by omega
 have q0:((ofL [In 0,Um 0,Um 0,Um 0]).write 0 (In (ofN (X.p i).cpu.r)::(ofA (X.p i).cpu.r).map Um)).nth 0=some (In (ofN (X.p i).cpu.r)):=zbu (by decide);simp only[XX,XY,F70,yA,yB,yC,h1,ne2,ne3,g1,g2,t0,hl,hall,hpc,ha,k1,k2,lM];have hp1:PC L {X.p i with cpu:={(X.p i).cpu with r:=(X.p i).cpu.r.set 0 v}} (cs.write 5 [Um v]):=h2.w1_cpu (k:=0) (by decide) (zev h2.okc (by decide)) ⟨by rw[sL];exact h2.okc.1,h2.okc.2⟩;have hp2:=hp1.w1_cpu (k:=10) (x:={(X.p i).cpu with r:=(X.p i).cpu.r.set 0 v,pc:=(X.p i).cpu.pc+4#32}) (v:=Um ((X.p i).cpu.pc+4#32)) (by decide) (zdH hp1.okc) hp1.okc;refine CallI.ex2L (znp (L:=L) (i:=i) (X:={X with P:=X.P.set i {X.p i with cpu:={(X.p i).cpu with r:=(X.p i).cpu.r.set 0 v,pc:=(X.p i).cpu.pc+4#32}}}) (h.upd_p hi hp2 nO gA (λy hy hne=>?_)) (Pu.fd (j:=10) (Pu.own h (h.mp hi) (Pu.own h (h.mp hi) (Pu.new (Pu.new (Pu.refl hm) (by omega)) (by omega)))) hm (by omega):Fd L.D m _).fresh (by simpa using hi) hs) (by simp) λu M' hB=>?_
 ·have:=h.lt y hy
  (simp only[gB,gP];repeat(first|rw[if_neg (by omega)]|rw[if_pos trivial]|rw[if_pos (by omega)]))
 ·simp only[XX,yA];exact(Be.trans Lx.refl (Pu.fd (j:=10) (Pu.own h (h.mp hi) (Pu.own h (h.mp hi) (Pu.new (Pu.new (Pu.refl hm) (by omega)) (by omega)))) hm (by omega)) hB).raw
def zaZ(X:St)(i:Nat)(c:Int):St:=zar X i (zF6 c)
theorem za1(h:FAt m L X)(hm:zad m)(ht:Tb m){i:Nat}(hi:i<X.P.length)(hs:X.seen.length<100000){c:Int}:
  ∃u m',Con EE.P 87 [PT (L.p i),In c] m u m'∧Be m L (zaZ X i c) m':=by
 refine Con.raw zai zIM (bA rfl) _ ?_;simp only[XX,XY,F87,yA,yB,yC];refine cZ (zCA (by repeat(first|exact ht|refine Tb.bump ?_ _|refine Tb.put ?_ (by omega)))) ?_;simp only[XX,XY,F87,yA,yB];refine CallI.ex2L (zaL (h.bump _) hm.bump (ht.bump _) hi hs) (by simp) λu M' hB=>?_;simp only[XX,F87,yA];exact(Be.trans Lx.refl ((Fd.refl hm).bump _) hB).raw
end
section
variable{m m' M mr:Mem}{n:Nat}{L L' L1:Loc}{X X1 X2:St}{v:Value}{fl:List Value}
theorem SlV.src{sz:Nat}(h:SlV m sz v n fl):zdY sz v m=some (fl,n):=by
 obtain⟨h1,h2⟩:=h;rcases h2 with⟨rfl,rfl⟩|⟨b,c,cs,rfl,k1,k2,k3,k4⟩
 ·rw[zsK];simp at h1;rw[h1]
 ·rw[zgV,k1,zdL];have:cs.sub 0 (n*sz)=some fl:=zfY h1 (by rw[k2,Nat.zero_add];exact Nat.mul_le_mul_right _ k3) λk hk=>by rw[Nat.zero_add];exact k4 k (by omega)
  rw[this];rfl
theorem zAe:zcn EE.P 67 70 1 8:=zcn.of zbt kr (z:=[.pointer none]) kr rfl (by decide)
theorem zrE{x y:Operand}{p:Addr}{c:Nat}:eqA EE.P .eql 67 x y (.slice (some p) n c) (.slice none 0 0) m=some (.bool false):=by unfold eqA;rw[if_neg (by simp[plain,zaP]),zbt]
theorem zoM{x y:Operand}:eqA EE.P .eql 67 x y (.slice none 0 0) (.slice none 0 0) m=some (.bool true):=kr
theorem zgI{ts e id n c:Nat}{p:Option Addr}{x:Value}(hu:EE.P.underlying ts=some (.slice e)){i:TypeInfo}(hi:EE.P.info? e=some i)(hx:zdY i.size x m=some ([],0))(hn:n<=c):zaV EE.P id #[ts,ts] (.slice p n c) x m=some (.slice p n c,m):=by unfold zaV;simp only[List.getElem?_toArray,List.getElem?_cons_zero,List.getElem?_cons_succ,hu,hi,hx,if_true,hn]
theorem zgE(hm:zad m)(h:SlV m 1 v n fl)(h1:fl.all oneCell=true)(hn:n<100000):∃u m',Con EE.P 102 [v] m u m'∧zcU m m' 1 u n fl:=by
 refine Con.raw zai zGK (bA rfl) _ ?_;rcases h.2 with⟨rfl,rfl⟩|⟨b,c,cs,rfl,k1,k2,k3,k4⟩
 ·have:fl=[]:=by have:=h.1;simpa using this
  subst this;simp only[XX,XY,zHZ,yA,yB,yC,zoM];have hN:zcU m (m.bump 4) 1 (.slice none 0 0) 0 []:=⟨SlV.nil,(Nx.refl hm).bump _,λy hy=>by cases hy⟩;exact⟨hN.raw,hN⟩
 ·have b0:bsV EE.P 67 0 []=some ([],1):=kr;simp only[XX,XY,zHZ,yA,yB,yC,zrE,b0];have hb:b<m.next:=h.lt hm rfl;have hv':SlV ((m.put (m.next+3) (zaS.cells (ofL []) true 1)).bump 7) 1 (.slice (some ⟨b,0,none⟩) n c) n fl:=h.keep λy o hy ho=>by obtain rfl:b=y:=Option.some.inj hy;rw[gB,gP,if_neg (by omega)];exact ho
  have hx:Nx m ((m.put (m.next+3) (zaS.cells (ofL []) true 1)).bump 7):=⟨by(try simp only[bN,nP]);omega,zad.of_low (by have:=hm.n64;(try simp only[bN,nP]);omega) (by repeat(first|exact Low.of hm nO|refine Low.put ?_ nO|refine Low.bump ?_)),λy hy=>by simp only[gB,gP,zbL hy,if_false]⟩;have he:SlV ((m.put (m.next+3) (zaS.cells (ofL []) true 1)).bump 7) 1 (.slice (some ⟨m.next+3,0,none⟩) 0 0) 0 []:=⟨by simp, .inr ⟨m.next+3,0,ofL [],rfl,gA,rfl,lR' _,λx hx=>by simp at hx⟩⟩;by_cases h0:n=0
  ·subst h0;have hf:fl=[]:=by have:=h.1;simpa using this
   subst hf;obtain⟨i,i1,i2,_⟩:=zAe.info;rw[zgI zbt i1 (by rw[i2];exact hv'.src) (lR' _)];simp only[XX,XY,yA,yB];have hN:zcU m ((m.put (m.next+3) (zaS.cells (ofL []) true 1)).bump 7) 1 (.slice (some ⟨m.next+3,0,none⟩) 0 0) 0 []:=⟨he,hx,λy hy=>by have e:m.next+3=y:=Option.some.inj hy;omega⟩;exact⟨hN.raw,hN⟩
  ·refine zd3 (new:=fl) zAe he hv'.src h0 h.1 h1 (.inr λa c e=>by cases e;rfl) (by omega) λv' M' hA=>?_;have n1:=hA.next;simp only[bN,nP] at n1;have hsl:=hA.sl;simp only[Nat.zero_add,List.nil_append] at hsl;simp only[XX,XY,yA,yB];have hN:zcU m M' 1 v' n fl:=by
    refine⟨hsl,⟨by omega,zad.of_low (by have:=hm.n64;omega) λy hy=>hA.low y (by omega) (hx.fresh.none y nO),λy hy=>?_⟩,λy hy=>?_⟩
    ·rw[hA.old y (by omega) (λe=>by have e:m.next+3=y:=Option.some.inj e;omega),hx.old y hy]
    ·rcases hA.blk with⟨e,_⟩|e
     ·rw[e] at hy;have e:m.next+3=y:=Option.some.inj hy;omega
     ·rw[e] at hy;have e:m.next+5=y:=Option.some.inj hy;omega
   exact⟨hN.raw,hN⟩
end
section
variable{m m' M mr:Mem}{n:Nat}{L L' L1:Loc}{X X1 X2:St}{v:Value}{fl:List Value}
theorem zsx{b off n c:Nat}{cs:Cells}{m:Mem}(hb:m.get b=some (.cells cs true 1))(hn:n≠0)(hl:off+n<=cs.n):zdF EE.P #[67] (.slice (some ⟨b,off,none⟩) n c) m=some (m.put b (.cells (cs.write off (List.replicate n (.pointer none))) true 1)):=by
 have h2:zbT EE.P 70=some (.pointer none):=kr;unfold zdF;simp only[List.getElem?_toArray,List.getElem?_cons_zero,zbt,h2,hb];rw[if_neg hn];have hz:zeN [Value.pointer none] (n*1)=List.replicate n (.pointer none):=by unfold zeN Cells.zeros1;refine List.ext_getElem (by simp) λk h3 h4=>?_;simp[Nat.mod_one]
 have hc:(Value.pointer none).cells.toList=[Value.pointer none]:=rfl;have hs:(Value.pointer none).cells.size=1:=rfl;rw[hc,hs,hz,if_pos ⟨rfl,by decide,by rw[Nat.mul_one];exact hl,by simp[oneCell]⟩]
def za3(p:Nat->Bool)(fl:List Value)(j:Nat):List Value:=((List.range j).filter λk=>!p k).map λk=>fl.getD k undef
theorem zga{p:Nat->Bool}{j:Nat}:za3 p fl (j+1)=za3 p fl j++(if p j then [] else [fl.getD j undef]):=by unfold za3;rw[List.range_succ,List.filter_append,List.map_append];cases h:p j<;>simp[h]
theorem zk3{p:Nat->Bool}{j:Nat}(h:∀k,k<j->p k=false):(za3 p fl j).length=j∧∀x,x<j->(za3 p fl j).getD x undef=fl.getD x undef:=by
 have e:(List.range j).filter (λk=>!p k)=List.range j:=List.filter_eq_self.2 λk hk=>by rw[h k (List.mem_range.1 hk)];rfl
 unfold za3;rw[e];refine⟨by simp,λx hx=>?_⟩;rw[gD',gM',List.getElem?_range hx];rfl
structure zIy(b:Nat)(p:Nat->Bool)(fl:List Value)(n c j:Nat)(m M:Mem):Prop where
 blk:∃cs,M.get b=some (.cells cs true 1)∧cs.n=c∧(∀x,x<(za3 p fl j).length->cs.get x=(za3 p fl j).getD x undef)∧∀x,j<=x->x<n->cs.get x=fl.getD x undef
 old:∀y,y≠b->M.get y=m.get y
 next:m.next<=M.next
theorem zsk{b c:Nat}{g:FuncId}{cap:List Value}{p:Nat->Bool}(hm:zad m)(hv:SlV m 1 (.slice (some ⟨b,0,none⟩) n c) n fl)(hf1:∀x∈fl,∃y,x=PT y)(hn:n<1000000)(hc:zab EE.P g=true)
  (hp:∀k M,k<n->m.next<=M.next->(∀y,y≠b->M.get y=m.get y)->Con EE.P g (fl.getD k undef::cap) M (.bool (p k)) M):
  ∃u m',Con EE.P 104 [.slice (some ⟨b,0,none⟩) n c, .func (.func g) #[] cap.toArray] m u m'∧∃k,u= .slice (some ⟨b,0,none⟩) k c∧SlV m' 1 u k (za3 p fl n)∧(∀y,y≠b->m'.get y=m.get y)∧m.next<=m'.next∧zad m':=by
 refine Con.raw zai zCf (bA rfl) _ ?_;have hfl:fl.length=n:=by have:=hv.len;simpa using this
 have hbm:b<m.next:=hv.lt hm rfl;have hv0:=hv;obtain⟨_,⟨_,e⟩|⟨b',c',cs,e,k1,k2,k3,k4⟩⟩:=hv
 ·cases e
 cases e;rw[Nat.mul_one] at k2;simp only[XX,XY,zuC,yA,yB,yC];refine cZ (zfD (p:=p) (hv0.bump _) hfl hn hc λk j hk=>?_) ?_
 ·rw[zfl];exact hp k _ hk (by simp) λy _=>rfl
 rcases zd0 p n with⟨i0,hi0,hpi,hf,e⟩|⟨hf,e⟩
 ·rw[e];have d1:decide ((i0:Int)= -1)=false:=decide_eq_false (by omega);have hw0:IntKind.i64.wrap ((i0:Int)+1)=((i0+1:Nat):Int):=by rw[zae (by omega) (by omega)];omega
  obtain⟨q1,q2⟩:=zk3 (fl:=fl) hf;have q3:za3 p fl (i0+1)=za3 p fl i0:=by rw[zga,hpi];simp
  simp only[XX,XY,zuC,yA,yB,yC,d1,hw0];refine WX.loop_of (λk tt M=>∃j:Nat,j<=n∧i0<j∧(za3 p fl j).length<j∧k=n-j∧tt=T 42 [(6,In j),(5,In (za3 p fl j).length),(0, .slice (some ⟨b,0,none⟩) n c),(1, .func (.func g) #[] cap.toArray)]∧zIy b p fl n c j m M) ?_ (k:=n-(i0+1)) (t1:=T 42 [(6,In (i0+1:Nat)),(5,In (za3 p fl (i0+1)).length),(0, .slice (some ⟨b,0,none⟩) n c),(1, .func (.func g) #[] cap.toArray)]) (vT ⟨rfl,by rw[q3,q1];rfl,rfl,rfl,trivial⟩) ⟨i0+1,by omega,by omega,by rw[q3,q1];omega,rfl,rfl,⟨⟨cs,k1,k2,λx hx=>?_,λx hx hx2=>k4 x (by omega)⟩,λ_ _=>rfl,by simp⟩⟩
  ·rintro k tt M ⟨j,hj,hij,hkj,rfl,rfl,hI⟩;obtain⟨⟨cj,c1,c2,c3,c4⟩,ho,hnx⟩:=hI;by_cases hj2:j<n
   ·have g1:(j:Int)<(n:Int):=by omega
    have g2:(0:Int)<=j:=by omega
    have g3:(0:Int)<=((za3 p fl j).length:Int):=by omega
    have g4:((za3 p fl j).length:Int)<(n:Int):=by omega
    have hw1:IntKind.i64.wrap ((j:Int)+1)=((j+1:Nat):Int):=by rw[zae (by omega) (by omega)];omega
    have hw2:IntKind.i64.wrap (((za3 p fl j).length:Int)+1)=(((za3 p fl j).length+1:Nat):Int):=by rw[zae (by omega) (by omega)];omega
    have d1:=decide_eq_true g1;have hq:cj.nth j=some (fl.getD j undef):=by rw[zbV (by omega),c4 j (lR' _) hj2]
    have hmem:fl.getD j undef∈fl:=by rw[gD',gE' (by omega)];exact List.getElem_mem _
    simp only[XX,XY,zuC,yA,yB,yC,g1,g2,c1,hq,hc,hnx,lA];refine cZ (hp j _ hj2 (by simp;omega) λy hy=>by(simp only[gB];repeat(first|rw[if_neg (by omega)]|rw[if_pos trivial]|rw[if_pos (by omega)]));exact ho y hy) ?_;cases hpj:p j with
    |true=>
     have e1:za3 p fl (j+1)=za3 p fl j:=by rw[zga,hpj];simp
     simp only[XX,XY,zuC,yA,yB,yC,hnx,hw1,zac,lA];refine⟨n-(j+1),_,_,by omega,vT (l':=[(6,In ((j+1:Nat):Int)),(5,In (za3 p fl (j+1)).length),(0, .slice (some ⟨b,0,none⟩) n c),(1, .func (.func g) #[] cap.toArray)]) ⟨rfl,by rw[e1];rfl,rfl,rfl,trivial⟩,j+1,by omega,by omega,by rw[e1];omega,rfl,rfl,⟨⟨cj,by(simp only[gB];repeat(first|rw[if_neg (by omega)]|rw[if_pos trivial]|rw[if_pos (by omega)]));exact c1,c2,λx hx=>by rw[e1] at hx⊢;exact c3 x hx,λx hx hx2=>c4 x (by omega) hx2⟩,λy hy=>by(simp only[gB];repeat(first|rw[if_neg (by omega)]|rw[if_pos trivial]|rw[if_pos (by omega)]));exact ho y hy,by simp;omega⟩⟩
    |false=>
     have e1:za3 p fl (j+1)=za3 p fl j++ [fl.getD j undef]:=by rw[zga,hpj];simp
     have e2:(za3 p fl (j+1)).length=(za3 p fl j).length+1:=by rw[e1];simp
     obtain⟨pb,hpb⟩:=hf1 _ hmem;have g5:(za3 p fl j).length+1<=cj.n:=by omega
     rw[hpb] at e1⊢;simp only[XX,XY,zuC,yA,yB,yC,hnx,hw1,hw2,g3,g4,g5,c1,zac,lA];refine⟨n-(j+1),_,_,by omega,vT (l':=[(6,In ((j+1:Nat):Int)),(5,In (za3 p fl (j+1)).length),(0, .slice (some ⟨b,0,none⟩) n c),(1, .func (.func g) #[] cap.toArray)]) ⟨rfl,by rw[e2];rfl,rfl,rfl,trivial⟩,j+1,by omega,by omega,by omega,rfl,rfl,⟨⟨_,gA,by rw[zap,c2],λx hx=>?_,λx hx hx2=>?_⟩,λy hy=>by(simp only[gB,gP];repeat(first|rw[if_neg (by omega)]|rw[if_pos trivial]|rw[if_pos (by omega)]));exact ho y hy,nO⟩⟩
     ·rw[zbA,e1];by_cases hxe:x=(za3 p fl j).length
      ·subst hxe;rw[if_pos (by simp),gD',gD',aC' (lR' _)]
      ·rw[if_neg (by simp;omega),c3 x (by omega),gD',gD',aB' (by omega)]
     ·rw[zbA,if_neg (by simp;omega)];exact c4 x (by omega) hx2
   ·obtain rfl:j=n:=by omega
    have g0:¬(j:Int)<(j:Int):=by omega
    have d1:=decide_eq_false g0;have g3:(0:Int)<=((za3 p fl j).length:Int):=by omega
    have hlo:zb5 EE.P 67 (.slice (some ⟨b,0,none⟩) j c) (some (.int .i64 ((za3 p fl j).length:Int))) none=some (.slice (some ⟨b,0+((za3 p fl j).length:Int).toNat*1,none⟩) (j-((za3 p fl j).length:Int).toNat) (c-((za3 p fl j).length:Int).toNat)):=znb zbt zc3 g3 (by omega) (by omega) k3;have hhi:zb5 EE.P 67 (.slice (some ⟨b,0,none⟩) j c) none (some (.int .i64 ((za3 p fl j).length:Int)))=some (.slice (some ⟨b,0,none⟩) ((za3 p fl j).length:Int).toNat c):=zjs zbt zc3 g3 (by omega);have hcl:∀J,zdF EE.P #[67] (.slice (some ⟨b,(za3 p fl j).length,none⟩) (j-(za3 p fl j).length) (c-(za3 p fl j).length)) (M.bump J)=some ((M.bump J).put b (.cells (cj.write (za3 p fl j).length (List.replicate (j-(za3 p fl j).length) (.pointer none))) true 1)):=λJ=>zsx (by rw[gB];exact c1) (by omega) (by omega);have hnc:(za3 p fl j).length<=c:=by omega
    simp only[XX,XY,zuC,yA,yB,yC,d1,hnx,hlo,hhi,hcl,zam,lA];have hfr:∀o J,zad ((M.put b o).bump J):=λo J=>zad.of_low (by have:=hm.n64;simp only[bN,nP];omega) λy hy=>by simp only[bN,nP] at hy;rw[gB,gP,if_neg (by omega),ho y (by omega)];exact hm.none y (by omega)
    refine⟨⟨nO,λy hy e=>by rw[gB,gP,if_neg (λe2=>by rw[e2,k1] at e;cases e),ho y (λe2=>by rw[e2,k1] at e;cases e),e]⟩,_,rfl,⟨by simp, .inr ⟨b,c,_,rfl,gA,by rw[zap,c2,Nat.mul_one],hnc,λx hx=>?_⟩⟩,λy hy=>by rw[gB,gP,if_neg hy,ho y hy],nO,hfr _ _⟩;rw[zbA,if_neg (by omega)];exact c3 x hx
  ·rw[q3] at hx⊢;rw[q1] at hx;rw[q2 x hx];exact k4 x (by omega)
 ·rw[e];obtain⟨q1,q2⟩:=zk3 (fl:=fl) hf;have e2:za3 p fl n=fl:=by refine List.ext_getElem (by rw[q1,hfl]) λx h1 h2=>?_;have:=q2 x (by omega);rw[gD',gD',gE' h1,gE' h2] at this;exact this
  simp only[XX,XY,zuC,yA,yB,yC];rw[e2];exact⟨⟨by simp,λy hy e=>e⟩,n,rfl,hv0.bump _,λy _=>rfl,by simp,hm.bump⟩
end
section
variable{m m' M mr:Mem}{n:Nat}{L L' L1:Loc}{X X1 X2:St}{v:Value}{fl:List Value}
theorem FAt.set_fv(h:FAt m L X){M:Mem}{v':Value}{S:List Nat}{cf:Cells}(f1:m.get L.f=some (.cells cf true 0))(f2:FC L X cf)(hn:m.next<=M.next)(hid:∀y,slB v'=some y->m.next<=y∧y<M.next)(h64:64<=m.next)
  (hold:∀y,y<m.next->M.get y=m.get y) (hsl:SlV M 1 v' S.length (S.map λi=>PT (L.p i))) (hS:∀j∈S,j<X.P.length):
  FAt (M.put L.f (.cells (cf.write 6 [v']) true 0)) {L with fv:=v',D:=λy=>L.D y∨slB v'=some y} {X with fut:=S}:=by
 have hi:∀y∈L.ids,M.get y=m.get y:=λy hy=>hold y (h.ids_lt hy);have hsd:∀{z n:Nat} {v:Value} {fl:List Value},z≠0->SlV m z v n fl->(∀y,slB v=some y->L.D y)->SlV (M.put L.f (.cells (cf.write 6 [v']) true 0)) z v n fl:=λ{z n v fl} hz hv hd=>hv.keep λy o hy ho=>by have h1:y≠L.f:=λe=>hv.ne0 hz f1 (by rw[hy,e]);rw[gP,if_neg h1,hold y (h.lt y (hd y hy))];exact ho
 have hne:∀k,k<X.P.length->¬L.p k=L.f:=λk hk e=>h.f_p hk e.symm;refine⟨⟨_,by rw[gP,if_pos rfl],?_⟩,λk hk=>?_,λk hk=>?_,λk hk=>?_,λk hk=>?_,λk hk=>?_,h.lP,h.lG,h.lC,h.lI,h.lF,h.lb,h.nd,λy hy=> .inl (h.dm y hy),hsd (by decide) h.ls h.dl,?_,hsd (by decide) h.ss h.ds,λk hk=>hsd (by decide) (h.bs k hk) (λy=>h.db k y hk),λy hy=> .inl (h.dl y hy),λy hy=>?_,λy hy=> .inl (h.ds y hy),λk y hk hy=> .inl (h.db k y hk hy),λy hy=>⟨λe=>?_,(h.sep y hy).2⟩,λy hy=>?_,λy hy=>?_,h.pi,hS⟩
 ·exact⟨by rw[zap,f2.n],(zaa (.inl (by decide))).trans f2.cores,(zaa (.inl (by decide))).trans f2.frames,(zaa (.inl (by decide))).trans f2.procs,(zaa (.inl (by decide))).trans f2.cap,(zaa (.inl (by decide))).trans f2.prog,(zaa (.inl (by decide))).trans f2.lv,zak (by rw[f2.n];decide),(zaa (.inr (bA rfl))).trans f2.contents,(zaa (.inr (bA rfl))).trans f2.files,(zaa (.inr (bA rfl))).trans f2.pipes,(zaa (.inr (bA rfl))).trans f2.next,(zaa (.inr (bA rfl))).trans f2.halted,(zaa (.inr (bA rfl))).trans f2.sv⟩
 ·obtain⟨c1,a1,a2⟩:=h.pr k hk;exact⟨c1,by rw[gP,if_neg (λe=>h.f_p hk e.symm),hi _ (h.mp hk)];exact a1,a2.move rfl (λ_ _=>rfl) (λ_ _ _=>rfl) (λ_ _ _=>rfl) (λ_ _=>rfl) λ_ _=>rfl⟩
 ·obtain⟨c1,a1,a2⟩:=h.pg k hk;exact⟨c1,by rw[gP,if_neg (λe=>h.f_g hk e.symm),hi _ (h.mg hk)];exact a1,a2.move rfl⟩
 ·obtain⟨c1,a1,a2⟩:=h.ct k hk;exact⟨c1,by rw[gP,if_neg (λe=>h.f_c hk e.symm),hi _ (h.mc hk)];exact a1,a2.move⟩
 ·obtain⟨c1,a1,a2⟩:=h.ip k hk;exact⟨c1,by rw[gP,if_neg (λe=>h.f_i hk e.symm),hi _ (h.mi hk)];exact a1,a2⟩
 ·obtain⟨c1,a1,a2⟩:=h.xs k hk;exact⟨c1,by rw[gP,if_neg (λe=>h.f_x hk e.symm),hi _ (h.mx hk)];exact a1,a2.move rfl⟩
 ·exact hsl.put0 (by decide) (by rw[hi _ h.mf];exact f1)
 ·exact .inr hy
 ·have:=hid y e;have:=h.lt y (h.dl y hy);omega
 ·rcases hy with hy|hy
  ·exact lL (h.lt y hy) (by rw[nP];exact hn)
  ·rw[nP];exact(hid y hy).2
 ·rcases hy with hy|hy
  ·exact h.d64 y hy
  ·have:=(hid y hy).1;omega
theorem zln(h:FAt m L X){i j x:Nat}(hi:i<X.P.length)(hj:j<X.P.length)(hx:m.get x=some (.cells (ofL [PT (L.p i)]) true 0)):Con EE.P 105 [PT (L.p j),PT x] m (.bool (decide (j=i))) m:=by
 refine Con.of zai zEK (bA rfl) Grow.rfl λhm=>?_;obtain⟨c1,h1,h2⟩:=h.pr i hi;obtain⟨c2,h3,h4⟩:=h.pr j hj;have hd:decide (L.p j=L.p i)=decide (j=i):=by
  by_cases e:j=i
  ·rw[e];simp
  ·rw[decide_eq_false e,decide_eq_false λe2=>e (h.ij_p hj hi e2)]
 have he:∀x y J,eqA EE.P .eql 70 x y (PT (L.p j)) (PT (L.p i)) (m.bump J)=some (.bool (decide (L.p j=L.p i))):=λx y J=>zqZ zh7 h3 h1;simp only[XX,XY,zJo,yA,yB,yC,hx,he,hd];exact tP rfl λ_ _=>rfl
theorem zn2{g:FuncId}{cap:List Value}(hm:zad m)(hc:zab EE.P g=true):∃u m',Con EE.P 104 [.slice none 0 0, .func (.func g) #[] cap.toArray] m u m'∧u= .slice none 0 0∧Nx m m':=by refine Con.raw zai zCf (bA rfl) _ ?_;simp only[XX,XY,zuC,yA,yB,yC];refine cZ (zfD (p:=λ_=>false) SlV.nil rfl (by decide) hc λk j hk=>by omega) ?_;have e:zca (λ_=>false) 0= -1:=rfl;rw[e];simp only[XX,XY,zuC,yA,yB,yC];exact⟨⟨by simp,λy hy e=>e⟩,rfl,(Nx.refl hm).bump _⟩
theorem zrj{cv:Value}{g:FuncId}{cap:List Value}{p:Nat->Bool}(hC:zcU m M 1 cv n fl)(hf1:∀x∈fl,∃y,x=PT y)(hn:n<1000000)(hc:zab EE.P g=true)
  (hp:∀k M',k<n->m.next<=M'.next->(∀y,y<m.next->M'.get y=m.get y)->Con EE.P g (fl.getD k undef::cap) M' (.bool (p k)) M'):
  ∃u m',Con EE.P 104 [cv, .func (.func g) #[] cap.toArray] M u m'∧zcU m m' 1 u (za3 p fl n).length (za3 p fl n)∧M.next<=m'.next∧∀y,slB cv≠some y->y<M.next->m'.get y=M.get y:=by
 have hfr:=hC.nx.fresh;have hC0:=hC;rcases hC.sl.at_ with⟨rfl,rfl⟩|⟨b,c,cs,rfl,k1,k2,k3,k4⟩
 ·have hfl:fl=[]:=by have:=hC.sl.len;simpa using this
  subst hfl;obtain⟨u,m',h1,rfl,h2⟩:=zn2 (cap:=cap) hfr hc;exact⟨_,m',h1,⟨SlV.nil,hC.nx.trans h2,λy hy=>by cases hy⟩,h2.next,λy _ hy=>h2.old y hy⟩
 ·have hbn:=hC.new b rfl;obtain⟨u,m',h1,k,rfl,h2,h3,h4,h5⟩:=zsk hfr hC.sl hf1 hn hc (cap:=cap) (p:=p) λk M' hk hle ho=>hp k M' hk (lT hC.nx.next hle) λy hy=>by rw[ho y (by omega),hC.nx.old y hy]
  have hk:k=(za3 p fl n).length:=by have:=h2.len;omega
  subst hk;exact⟨_,m',h1,⟨h2,⟨lT hC.nx.next h4,h5,λy hy=>by rw[h3 y (by omega),hC.nx.old y hy]⟩,λy hy=>by have e:b=y:=Option.some.inj hy;omega⟩,h4,λy hy _=>h3 y λe=>hy (by rw[e];rfl)⟩
theorem znK{S:List Nat}{i:Nat}{f:Nat->Value}:za3 (λk=>decide (S.getD k 0=i)) (S.map f) S.length=(S.filter λj=>!decide (j=i)).map f:=by
 have e:(List.range S.length).map (λk=>S.getD k 0)=S:=by refine List.ext_getElem (by simp) λk h1 h2=>?_;rw[List.getElem_map,List.getElem_range,gD',gE' h2];rfl
 have e2:(S.filter λj=>!decide (j=i))=((List.range S.length).filter λk=>!decide (S.getD k 0=i)).map λk=>S.getD k 0:=by have:=List.filter_map (f:=λk=>S.getD k 0) (p:=λj=>!decide (j=i)) (l:=List.range S.length);rw[e] at this;exact this
 unfold za3;rw[e2,List.map_map];apply List.map_congr_left;intro k hk;have hk:=List.mem_range.1 (List.mem_filter.1 hk).1;show(S.map f).getD k undef=f (S.getD k 0);rw[gD',gM',gD',gE' hk];rfl
def zfG(p:zb9):zb9:={p with wait:=0,pipe:=none,fut:=⟨none,none,0#32⟩,left:=0#32}
def zaI(X:St)(i:Nat):St:={X with P:=X.P.set i (zfG (X.p i)),fut:=X.fut.filter λj=>!decide (j=i)}
theorem CallI.at{Li:List zb8}{tk:zpE}{K:CI}{R:Mem->Prop}(hR:R M)(hK:∀M,R M->CallI EE Li tk M (K:=K)):CallI EE Li tk M (K:=K):=hK M hR
theorem zfP(h:FAt m L X)(hm:zad m){i:Nat}(hi:i<X.P.length)(hf:X.fut.length<100000):∃u m',Con EE.P 71 [PT (L.p i)] m u m'∧Be m L (zaI X i) m':=by
 refine Con.raw zai zHC (bA rfl) _ ?_;obtain⟨cs,h1,h2⟩:=h.pr i hi;have hlp:=h.ids_lt (h.mp hi);have ne1:∀j,¬L.p i=m.next+j:=λj=>by omega
 have ne2:∀j,¬m.next+j=L.p i:=λj=>by omega
 have ne10:¬L.p i=m.next:=by omega
 have ne20:¬m.next=L.p i:=by omega
 have b0:zaT EE.P 77 []=some (.agg [.pointer none, .pointer none,Um 0#32].toArray):=kr;have k1:46+1<=cs.n:=by rw[h2.n];decide
 have k2:47+1<=cs.n:=by rw[h2.n];decide
 have k3:48+3<=cs.n:=by rw[h2.n];decide
 have k4:51+1<=cs.n:=by rw[h2.n];decide
 have hq:= @zq1;have hp:PC L (zfG (X.p i)) ((((cs.write 46 [In 0]).write 47 [.pointer none]).write 48 [.pointer none, .pointer none,Um 0#32]).write 51 [.int .u32 0]):=by have p1:=h2.w_wait (x:=0);have p2:=p1.w_pipe (x:=none);have p3:=p2.w_fut (x:=⟨none,none,0#32⟩) rfl;exact p3.w_left (x:=0#32)
 obtain⟨cf,f1,f2⟩:=h.fl;have hlf:=h.ids_lt h.mf;have hfp:=h.f_p hi;have ne3:∀j,¬L.f=m.next+j:=λj=>by omega
 have ne30:¬L.f=m.next:=by omega
 have hpf:=hp.f;simp only[XX,XY,F71,yA,yB,yC,h1,ne10,ne20,b0,k1,k2,k3,k4,hq,hpf,ne30,hfp,f1,f2.fv];refine CallI.at (R:=λM=>FAt M L {X with P:=X.P.set i (zfG (X.p i))}∧Fd L.D m M∧M.get m.next=some (.cells (ofL [PT (L.p i)]) true 0)∧m.next<M.next) ⟨h.upd_p hi hp nO gA (λy hy hne=>(by have:=h.lt y hy;(simp only[gB,gP];repeat(first|rw[if_neg (by omega)]|rw[if_pos trivial]|rw[if_pos (by omega)])))),Pu.fd (j:=1) (Pu.own h (h.mp hi) (Pu.own h (h.mp hi) (Pu.own h (h.mp hi) (Pu.own h (h.mp hi) (Pu.new (Pu.refl hm) (by omega)))))) hm (by omega),gA,nO⟩ λM ⟨hA,hF,hbx,hlt⟩=>?_;have hall:(X.fut.map λi=>PT (L.p i)).all oneCell=true:=by simp[oneCell]
 refine cX (zgE hF.fresh hA.fs hall (by simpa using hf)) λcv M1 hC=>?_;have n1:=hC.nx.next;have hA1:=hA.nx hC.nx;have hbx1:=hC.nx.keep hF.fresh hbx;obtain⟨c1,g1,g2⟩:=hA1.pr i (by simpa using hi);obtain⟨cf1,e1,e2⟩:=hA1.fl;have n0:=hF.next;have n01:m.next<=M1.next:=lT n0 n1;simp only[XX,XY,F71,yA,yB];refine CallI.ex2L (zrj (p:=λk=>decide (X.fut.getD k 0=i)) (g:=105) (cap:=[PT m.next]) hC (λx hx=>?_) (by simp;omega) kr λk M' hk hle ho=>?_) (by simp) λdv M2 hD=>?_
 ·obtain⟨j,_,e⟩:=List.mem_map.1 hx;exact⟨_,e.symm⟩
 ·have hkl:k<X.fut.length:=by simpa using hk
  have e:(X.fut.map λi=>PT (L.p i)).getD k undef=PT (L.p (X.fut.getD k 0)):=by rw[gD',gM',gD',gE' hkl];rfl
  have hA':FAt M' L {X with P:=X.P.set i (zfG (X.p i))}:=hA.keep hle λy hy=>ho y (hA.lt y hy);show Con EE.P 105 ((X.fut.map λi=>PT (L.p i)).getD k undef::[PT m.next]) M' _ M';rw[e];exact zln hA' (by simpa using hi) (by simpa using h.pf _ (zax hkl)) ((ho _ hlt).trans hbx)
 ·obtain⟨hN,n2,_⟩:=hD;have hM2:∀y,y<M.next->M2.get y=M.get y:=hN.nx.old;have l1:L.p i<M.next:=hA.ids_lt (hA.mp (by simpa using hi));have l2:L.f<M.next:=hA.ids_lt hA.mf;obtain⟨c0,q1,q1'⟩:=hA.pr i (by simpa using hi);obtain⟨cf0,q2,q2'⟩:=hA.fl;have r1:=(hM2 _ l1).trans q1;have r2:=(hM2 _ l2).trans q2;have r3:=(hM2 _ hlt).trans hbx;have s1:=(hC.nx.old _ l1).trans q1;have s2:=(hC.nx.old _ l2).trans q2;have k5:6+1<=cf0.n:=by rw[q2'.n];decide
  have n02:m.next<=M2.next:=by omega
  have qf:=q1'.f;have hkl:za3 (λk=>decide (X.fut.getD k 0=i)) (X.fut.map λi=>PT (L.p i)) X.fut.length=(X.fut.filter λj=>!decide (j=i)).map λi=>PT (L.p i):=znK;have hsl:=hN.sl;rw[hkl,lM] at hsl;have hres:=hA.set_fv (M:=M2) (v':=dv) (S:=X.fut.filter λj=>!decide (j=i)) q2 q2' (lT n1 n2) (λy hy=>⟨hN.new y hy,hN.sl.lt hN.nx.fresh hy⟩) hF.fresh.n64 hM2 hsl λj hj=>by simpa using h.pf j (List.mem_filter.1 hj).1
  have hF2:Fd L.D m (M2.put L.f (.cells (cf0.write 6 [dv]) true 0)):=(hF.trans (Fd.of_nx (D:=L.D) hN.nx) λy hy=> .inl hy).put (.inl (h.dm _ h.mf)) h.lt (.inl (by rw[r2];simp));have hfin:zcY m (M2.put L.f (.cells (cf0.write 6 [dv]) true 0)) (.tuple #[]) λ_ m'=>Be m L (zaI X i) m':=
   hF2.raw ⟨_,hres,⟨rfl,⟨[],by simp⟩,⟨[],by simp⟩,⟨[],by simp⟩,⟨[],by simp⟩,⟨[],by simp⟩,λy hy=>hy.imp id λe=>lT n0 (hN.new y e)⟩,hF2⟩
  rcases hN.sl.at_ with⟨_,rfl⟩|⟨b,c,cs,rfl,_⟩
  ·simp only[XX,XY,F71,yA,yB,yC,ne10,ne20,hpf,r1,r2,r3,s1,hbx1,qf,hq,k5];exact hfin
  ·simp only[XX,XY,F71,yA,yB,yC,ne10,ne20,hpf,r1,r2,r3,s1,hbx1,qf,hq,k5];exact hfin
end
section
variable{m m' M mr:Mem}{n:Nat}{L L' L1:Loc}{X X1 X2:St}{v:Value}{fl:List Value}
theorem zjy{lp x1 x2 g z1 z2:Nat}{cap:List Value}(hmr:zad mr)(h:FAt mr L X)(hg:GX X)(hx1:mr.get x1=some (.cells (ofL [PT L.f]) true z1))(hx2:mr.get x2=some (.cells (ofL [.func (.func g) #[] cap.toArray]) true z2))(hcg:zab EE.P g=true)
  (Bad:Nat->Prop) (hbad:∀y,Bad y->y<mr.next∧y≠x2) (Inv:Mem->Nat->Mem->Prop) (h0:∀M1,Nx mr M1->Inv M1 0 M1) (hb:∀M1 i M j,Inv M1 i M->Inv M1 i (M.bump j))
  (hfr:∀M1 i M,Nx mr M1->Inv M1 i M->M1.next<=M.next∧(∀y,y<M1.next->¬Bad y->M.get y=M1.get y)∧∀y,y<M1.next->M1.get y=none->M.get y=none)
  (hstep:∀M1 (i:Nat) M j,Nx mr M1->i<X.l.length->Inv M1 i M->∃b,Con EE.P g (PT (L.p (X.l.getD i 0))::cap) (M.bump j) (.bool b) (M.bump j)∧(b=false->Inv M1 (i+1) M)∧
   (b=true->∀j,∃u m',zgt EE.P lp [PT (L.p (X.l.getD i 0))] (M.bump j) u m'∧u= .bool true∧M.next+j<=m'.next∧Inv M1 (i+1) m')):
  ∃u m2,Con EE.P 101 [.func (.yield lp) #[] #[],PT x1,PT x2] mr u m2∧∃M1,Nx mr M1∧Inv M1 X.l.length m2:=by
 refine Con.raw zai zEF (bA rfl) _ ?_;obtain⟨cf,f1,f2⟩:=h.fl;have hn:=hg.ln;simp only[XX,XY,zzR,yA,yB,yC,hx1,f1,f2.lv];refine cX (zgE (m:=mr.bump _) hmr.bump (h.ls.bump _) (by simp[oneCell]) (by omega)) λcv M1 hC=>?_;have nx1:=hC.nx.of_bump;have n1:=nx1.next;have hlenA:∀M,lenA EE.P 67 cv M=some (In X.l.length):=λM=>hC.sl.lenA zbt;simp only[XX,XY,zzR,yA,yB,hlenA];refine WX.loop_of (λk tt M=>∃i:Nat,i<=X.l.length∧k=X.l.length-i∧tt=T 25 [(12,In i),(11,In X.l.length),(10,cv),(0, .func (.yield lp) #[] #[]),(1,PT x1),(2,PT x2)]∧Inv M1 i M) ?_ (k:=X.l.length) (t1:=T 25 [(12,In (0:Nat)),(11,In X.l.length),(10,cv),(0, .func (.yield lp) #[] #[]),(1,PT x1),(2,PT x2)]) (vT ⟨rfl,rfl,rfl,rfl,rfl,rfl,trivial⟩) ⟨0,by omega,rfl,rfl,h0 _ nx1⟩;rintro k tt M ⟨i,hi,rfl,rfl,hI⟩;obtain⟨n2,ho,hz⟩:=hfr _ _ _ nx1 hI;have hnx:mr.next<=M.next:=lT n1 n2;have hgrow:∀M i,Inv M1 i M->Grow mr M:=λM i hI=>by obtain⟨e1,e2,e3⟩:=hfr _ _ _ nx1 hI;exact⟨lT n1 e1,λy hy e=>e3 y (by omega) (by rw[nx1.old y hy,e])⟩
 by_cases hi2:i<X.l.length
 ·have g1:(i:Int)<(X.l.length:Int):=by omega
  have g2:(0:Int)<=i:=by omega
  have hw1:IntKind.i64.wrap ((i:Int)+1)=((i+1:Nat):Int):=by rw[zae (by omega) (by omega)];omega
  have l2:=hmr.lt hx2;have Mx2:M.get x2=some (.cells (ofL [.func (.func g) #[] cap.toArray]) true z2):=by rw[ho x2 (by omega) (λe=>(hbad x2 e).2 rfl),nx1.old x2 l2];exact hx2
  obtain⟨b,c,cs,rfl,k1,k2,k3,k4⟩:=hC.sl.cons (by omega);have kb:=hC.new b rfl;rw[bN] at kb;have kl:=hC.nx.fresh.lt k1;have Mb:M.get b=some (.cells cs true 1):=by rw[ho b kl (λe=>by have:=(hbad b e).1;omega)];exact k1
  have hq:cs.nth i=some (PT (L.p (X.l.getD i 0))):=by rw[zbV (by omega),k4 i (by simp;omega),zmc h hi2]
  simp only[XX,XY,zzR,yA,yB,yC,g1,g2,Mb,hq,Mx2,hcg,hnx,lA];obtain⟨bb,s1,s2,s3⟩:=hstep M1 i M _ nx1 hi2 hI;refine cZ s1 ?_;cases bb with
  |false=>simp only[XX,XY,zzR,yA,yB,yC,hnx,hw1,zac,lA];exact⟨X.l.length-(i+1),_,_,by omega,vT (l':=[(12,In ((i+1:Nat):Int)),(11,In X.l.length),(10, .slice (some ⟨b,0,none⟩) X.l.length c),(0, .func (.yield lp) #[] #[]),(1,PT x1),(2,PT x2)]) ⟨rfl,rfl,rfl,rfl,rfl,rfl,trivial⟩,i+1,by omega,rfl,rfl,hb _ _ _ _ (s2 rfl)⟩
  |true=>
   simp only[XX,XY,zzR,yA,yB,yC,hnx,lA];refine CallI.rcon (s3 rfl _) (by simp) λu m' hm'=>?_;obtain⟨rfl,n3,hI'⟩:=hm';have n4:mr.next<=m'.next:=by omega
   simp only[XX,XY,zzR,yA,yB,yC,n4,hw1,zac];exact⟨X.l.length-(i+1),_,_,by omega,vT (l':=[(12,In ((i+1:Nat):Int)),(11,In X.l.length),(10, .slice (some ⟨b,0,none⟩) X.l.length c),(0, .func (.yield lp) #[] #[]),(1,PT x1),(2,PT x2)]) ⟨rfl,rfl,rfl,rfl,rfl,rfl,trivial⟩,i+1,by omega,rfl,rfl,hb _ _ _ _ hI'⟩
 ·obtain rfl:i=X.l.length:=by omega
  have q1:¬(X.l.length:Int)<(X.l.length:Int):=by omega
  simp only[XX,XY,zzR,yA,yB,q1,hnx,zam];have hI2:=hb _ _ _ 1 hI;exact⟨hgrow _ _ hI2,M1,nx1,hI2⟩
theorem zjF(hm:zad m){x:Value}(hb:zr8 x=some [x]):∃u m',Con EE.P 68 [PT L.f,x] m u m'∧∃x1 x2,u= .func (.func 101) #[] [PT x1,PT x2].toArray∧m.next<=x1∧m.next<=x2∧m'.get x1=some (.cells (ofL [PT L.f]) true 0)∧m'.get x2=some (.cells (ofL [x]) true 0)∧x1≠x2∧Nx m m':=by refine Con.raw zai zIA (bA rfl) _ ?_;simp only[XX,XY,F68,yA,yB,yC,hb];have hn:Nx m (((m.put m.next (.cells (ofL [PT L.f]) true 0)).put (m.next+1) (.cells (ofL [x]) true 0)).bump 5):=(nX hm);exact⟨⟨hn.next,λy hy e=>by rw[hn.old y hy,e]⟩,m.next,m.next+1,rfl,lR' _,by omega,gA,gA,by omega,hn⟩
end
section
variable{m m' M mr:Mem}{n:Nat}{L L' L1:Loc}{X X1 X2:St}{v:Value}{fl:List Value}
abbrev il(l:List Int):List Value:=l.map In
theorem zzG{l:List Int}{x:Int}:il (l++ [x])=il l++ [In x]:=by simp[il]
def zbM(X:St)(b:Nat->Bool):List Int:=(X.l.filter b).map λi=>(X.p i).pid
def zgs(X:St)(b:Nat->Bool)(k:Nat):List Int:=((X.l.take k).filter b).map λi=>(X.p i).pid
theorem zkc{k:Nat}(hk:k<X.l.length):X.l.take (k+1)=X.l.take k++ [X.l.getD k 0]:=by rw[List.take_add_one,gE' hk,gD',gE' hk];rfl
theorem zxW{b:Nat->Bool}{k:Nat}(hk:k<X.l.length)(h:b (X.l.getD k 0)=true):zgs X b (k+1)=zgs X b k++ [(X.p (X.l.getD k 0)).pid]:=by unfold zgs;rw[zkc hk,List.filter_append,List.filter_cons_of_pos h,List.filter_nil,List.map_append];rfl
theorem zya{b:Nat->Bool}{k:Nat}(hk:k<X.l.length)(h:b (X.l.getD k 0)=false):zgs X b (k+1)=zgs X b k:=by unfold zgs;rw[zkc hk,List.filter_append,List.filter_cons_of_neg (by rw[h];decide),List.filter_nil,List.append_nil]
theorem zqh{b:Nat->Bool}{k:Nat}:(zgs X b k).length<=X.l.length:=by unfold zgs;rw[lM];exact lT (List.length_filter_le _ _) (by rw[List.length_take];omega)
theorem zHD:zcn EE.P 41 3 1 8:=zcn.of zdN kr (z:=[In 0]) kr rfl (by decide)
theorem zHw{x:Int}:bsV EE.P 41 1 [(0,In x)]=some ([In x],1):=kr
abbrev zpF(tt:List (Nat×Value)):zct:={state:= .ready,pend:=none,tmps:=T 21 tt,ps:=[12],assign:=(kO Tryz.f42.body 10),body:=(kO Tryz.f42.body 11)}
theorem zr1{M1:Mem}{lp o j k:Nat}{tl:List (Nat×Value)}(h1:FAt M1 L X)(hF:zad M1)(hl:M1.get lp=some (.loop (zpF tl)))(h5:lk tl 5=PT o)(ho:o<M1.next)(hol:o≠lp)(hoD:¬L.D o)(hlD:¬L.D lp)(hI:zpq M1 lp o (zpF tl) 1 k fl M)(hk:k<1073741824){i:Nat}(hi:i<X.P.length):
  ∃u m',zgt EE.P lp [PT (L.p i)] (M.bump j) u m'∧u= .bool true∧M.next+j<=m'.next∧zpq M1 lp o (zpF tl) 1 (k+1) (fl++ [In (X.p i).pid]) m':=by
 have hnx:=hI.next;have l1:=hF.lt hl;have hlo:¬lp=o:=λe=>hol e.symm;have Ml:=hI.loop;have hM:FAt M L X:=h1.keep hnx λy hy=>hI.old y (h1.lt y hy) (λe=>hoD (e▸hy)) (λe=>hlD (e▸hy));obtain⟨co,u,Mo,j1,j2,j3,j4⟩:=hI.out;obtain⟨cs,p1,p2⟩:=hM.pr i hi;have hpl:¬L.p i=lp:=λe=>hlD (e▸hM.dm _ (hM.mp hi));have hpo:¬L.p i=o:=λe=>hoD (e▸hM.dm _ (hM.mp hi));have hpn:L.p i<M.next:=hM.ids_lt (hM.mp hi);have hpn2:∀k,¬L.p i=M.next+k:=λk=>by omega
 refine zgt.of zai (r:=zpF tl) (by simp only[gB,Ml]) rfl rfl ?_;simp only[XX,XY,F42,yA,yB,yC,Ml,Mo,h5,j2,hol,zHw,p1,p2.pid,hpl];refine hI.app (rb:=⟨.busy,none,T 21 tl,[12],(kO Tryz.f42.body 10),(kO Tryz.f42.body 11)⟩) zHD (by decide) hol l1 ho hF.n64 Mo j2 rfl rfl ⟨by omega,by omega⟩ ⟨by omega,by omega⟩ (by omega) (by omega) λb' c' M' hMl hMo hcn hMn hold hfin=>?_;have n3:M.next<=M'.next:=by omega
 have n9:M.next+j<=M'.next:=by omega
 have n10:M.next+(j+1)<=M'.next:=by omega
 simp only[XX,XY,F42,yA,yB,n9,n10,hMl,hMo,h5,hcn,hlo];exact⟨(hfin 0).2 j (by omega) (by omega),(hfin 0).1⟩
theorem zpS(h:FAt m L X)(hm:zad m)(hg:GX X){g:FuncId}{b:Nat->Bool}(hcg:zab EE.P g=true)(ht:∀M i,FAt M L X->i<X.P.length->Con EE.P g [PT (L.p i)] M (.bool (b i)) M):
  ∃u m',Con EE.P 42 [PT L.f, .func (.func g) #[] #[]] m u m'∧zcU m m' 1 u (zbM X b).length (il (zbM X b)):=by
 refine Con.raw zai zIc (bA rfl) _ ?_;have hn:X.next≠0:=by have:=hg.nx;omega
 simp only[XX,XY,F42,yA,yB,yC];refine cZ (zhm (h.new'.bump _) hn) ?_;simp only[XX,XY,F42,yA,yB,yC];have hN0:Nx m ((m.put (m.next+1) (.cells (ofL [.slice none 0 0]) true 0)).bump 7):=⟨by(try simp only[bN,nP]);omega,zad.of_low (by have:=hm.n64;(try simp only[bN,nP]);omega) (by repeat(first|exact Low.of hm nO|refine Low.put ?_ nO|refine Low.bump ?_)),λy hy=>by simp only[gB,gP,zbL hy,if_false]⟩;refine CallI.ex2L (zjF (L:=L) (x:= .func (.func g) #[] #[]) hN0.fresh rfl) (by simp) λu M hv=>?_;obtain⟨x1,x2,rfl,x3,x4,x5,x6,x7,hn1⟩:=hv;have hNM:=hN0.trans hn1;have n1:=hn1.next;simp only[bN,nP] at n1 x3 x4;have hA:FAt M L X:=h.nx hNM;have qo:M.get (m.next+1)=some (.cells (ofL [.slice none 0 0]) true 0):=by
  rw[hn1.old _ nO]
  (simp only[gB,gP];repeat(first|rw[if_neg (by omega)]|rw[if_pos trivial]|rw[if_pos (by omega)]))
 have lx1:=hn1.fresh.lt x5;have lx2:=hn1.fresh.lt x6;simp only[XX,F42,yA];obtain⟨tl,htl⟩:∃tl,tl=[(11,Value.func (Fn.func 101) #[] #[PT x1,PT x2]),(10,Value.func (Fn.func g) #[] #[]),(9,PT L.f),(8,Value.bool false),(7,PT L.f),(5,Value.pointer (some {block:=m.next+1,off:=0})),(4,Value.slice none 0 0),(0,PT L.f),(1,Value.func (Fn.func g) #[] #[])]:=⟨_,rfl⟩;have hmr:zad ((M.put M.next (.loop (zpF tl))).bump 1):=by have:=hn1.fresh;exact zad.of_low (by have:=this.n64;simp only[bN,nP];omega) (Low.bump (Low.put (Low.of this nO) nO))
 have hAr:FAt ((M.put M.next (.loop (zpF tl))).bump 1) L X:=(hA.new' (j:=0)).bump 1;have hoD:¬L.D (m.next+1):=λe=>by have:=h.lt _ e;omega
 have hlD:¬L.D M.next:=λe=>by have:=h.lt _ e;omega
 refine zgS (g:=101) (l':=[(5,PT (m.next+1))]) (R:=λ_ m2=>∃M1,Nx ((M.put M.next (.loop (zpF tl))).bump 1) M1∧zpq M1 M.next (m.next+1) (zpF tl) 1 (zbM X b).length (il (zbM X b)) m2) [] [PT x1,PT x2] (by omega) (by simp only[zwB,zc4,Nat.reduceLT,Nat.reduceEqDiff,reduceIte]) kr ?_ (λp hp=>?_) (λ_ m2 hI=>?_)
 ·rw[<-htl];have e:zbM X b=zgs X b X.l.length:=by unfold zbM zgs;rw[List.take_of_length_le (lR' _)]
  rw[e];have hlp:((M.put M.next (.loop (zpF tl))).bump 1).get M.next=some (.loop (zpF tl)):=gA;have hoo:((M.put M.next (.loop (zpF tl))).bump 1).get (m.next+1)=some (.cells (ofL [.slice none 0 0]) true 0):=by rw[gB,gP,if_neg (by omega)];exact qo
  refine zjy (z1:=0) (z2:=0) (cap:=[]) hmr hAr hg (by rw[gB,gP,if_neg (by omega)];exact x5) (by rw[gB,gP,if_neg (by omega)];exact x6) hcg (λy=>y=M.next∨y=m.next+1) (λy hy=>⟨nO,by omega⟩)
   (λM1 k M2=>zpq M1 M.next (m.next+1) (zpF tl) 1 (zgs X b k).length (il (zgs X b k)) M2) (λM1 hn=>?_) (λM1 i M2 j hI=>hI.bump j) (λM1 i M2 hn hI=>⟨hI.next,λy hy hy2=>hI.old y hy (λe=>hy2 (.inr e)) (λe=>hy2 (.inl e)),λy hy e=>?_⟩) (λM1 i M2 j hn hi hI=>?_)
  ·exact zpq.start hn.fresh (hn.keep hmr hlp) (hn.keep hmr hoo) rfl rfl
  ·rw[hI.old y hy (λe2=>by rw[e2,hn.keep hmr hoo] at e;cases e) (λe2=>by rw[e2,hn.keep hmr hlp] at e;cases e),e]
  ·have hA1:=hAr.nx hn;have hA2:FAt M2 L X:=hA1.keep hI.next λy hy=>hI.old y (hA1.lt y hy) (λe=>hoD (e▸hy)) (λe=>hlD (e▸hy));have hj:=h.lk hi;refine⟨b (X.l.getD i 0),ht _ _ (hA2.bump j) hj,λhb=>?_,λhb j2=>?_⟩
   ·rw[zya hi hb];exact hI
   ·have hle:=zqh (X:=X) (b:=b) (k:=i);have hln:=hg.ln;have:=zr1 (j:=j2) hA1 hn.fresh (hn.keep hmr hlp) (by rw[htl];rfl) (lL (hmr.lt hoo) hn.next) (by omega) hoD hlD hI (by omega) hj;rw[zxW hi hb,zzG,aL];exact this
 ·simp only[List.mem_cons,List.not_mem_nil,or_false] at hp;subst hp;exact zgn (by omega)
 ·obtain⟨M1,hn2,hI⟩:=hI;have n3:=hn2.next;simp only[bN,nP] at n3;have n4:=hI.next;obtain⟨co,u,k1,k2,k3,k4,k5⟩:=hI.out;have k6:¬m.next+1=M.next:=by omega
  refine zb1 hI.loop ?_;have n5:m.next<=m2.next:=by omega
  simp only[XX,XY,F42,yA,yB,yC,n5,k1,k3,k6];have hnn:∀o j,Nx m ((m2.put M.next o).bump j):=λo j=>by refine⟨nO,zad.of_low (by have:=hm.n64;simp only[bN,nP];omega) (Low.up (Low.bump (Low.put hI.low (by omega))) nO),λy hy=>?_⟩;rw[gB,gP,if_neg (by omega),hI.old y (by omega) (by omega) (by omega),hn2.old y nO,gB,gP,if_neg (by omega),hNM.old y hy]
  refine⟨⟨(hnn _ _).next,λy hy e=>by rw[(hnn _ _).old y hy,e]⟩,k4.keep λy o hy ho=>?_,hnn _ _,λy hy=>?_⟩
  ·have:=(k5 y hy).1;rw[gB,gP,if_neg (by omega)];exact ho
  ·have:=(k5 y hy).1;omega
end
end
end Go.Ab
