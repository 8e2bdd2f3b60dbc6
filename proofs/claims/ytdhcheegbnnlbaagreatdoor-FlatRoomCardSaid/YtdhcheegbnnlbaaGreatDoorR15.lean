/- Part. -/
import Derived.Test.YtdhcheegbnnlbaaGreatDoorR14
set_option linter.all false
open Go.Ab.Mem renaming next_bump → bN, next_put → nP, get_bump → gB, get_put → gP
open Nat renaming le_of_ble_eq_true → bA, le_add_right_of_le → lA, lt_of_lt_of_le → lL, le_refl → lR', le_trans → lT
open List renaming getD_eq_getElem?_getD → gD', getElem?_eq_getElem → gE', length_append → aL, getElem?_map → gM', length_map → lM, length_set → sL
open Option.some renaming injEq → sI
open Prod.mk renaming injEq → pI
open Bool renaming and_eq_true → bT, false_eq_true → bF
open Go.Ab.CallI renaming ex2 → cX, con0 → cZ
open Go.Ab.TidyE renaming pure → tP
open Go.Ab.Cells renaming ofList → ofL
open Go.Ab.View renaming temps → vT
open Go.Ab.Be renaming trans → bE
open Nat renaming reduceLT → yA, reduceEqDiff → yB, reduceAdd → yC, reduceMul → yD, reduceSub → yE, reducePow → yF, reduceLeDiff → yG
open Int renaming reduceEq → yH, reduceLT → yI, reduceLE → yJ
namespace Go.Ab
open Go.Proofs
noncomputable section
set_option maxHeartbeats 4000000
set_option maxRecDepth 10000
section
variable{m m' M:Mem}{x:Ins}{c:Cpu}{p pb:Nat}{cs:Cells}{tyP fW:Nat}{w:Option (BitVec 8)}
def zAu(w:Option (BitVec 8)):Value:= .tuple [By (w.getD 0#8), .bool w.isSome].toArray
def z32(b:BitVec 8):BitVec 32:=b.setWidth 32
theorem zvy{b:BitVec 8}:IntKind.u32.wrap (b.toNat:Int)=((z32 b).toNat:Int):=by have:=b.isLt;rw[za4];unfold z32;rw[BitVec.toNat_setWidth];omega
def lo8(v:BitVec 32):BitVec 8:=v.setWidth 8
theorem zuF{v:BitVec 32}:IntKind.u8.wrap (v.toNat:Int)=((lo8 v).toNat:Int):=by have:=v.isLt;unfold lo8 IntKind.wrap;rw[BitVec.toNat_setWidth];simp only[IntKind.signed,IntKind.bits];simp
theorem zra(hm:zad m)(hp:m.get pb=some (.cells cs true 0))(hc:CpC c cs)(e:x.op=17)(a0:0<=x.a)(a8:x.a<8)(b0:0<=x.b)(b8:x.b<8)(hma:zaB EE.P tyP "Byte" =some fW)(hcl:zab EE.P fW=true)(hW:∀M,Nx m M->Con EE.P fW [PT p,Um (adX x c)] M (zAu w) M):
  ∃u m',Con EE.P 126 [.agg (zbx x).toArray,PT pb, .iface tyP (PT p)] m u m'∧u= .bool w.isSome∧CpW m pb (zd4 x c (w.map z32)) m':=by
 obtain⟨op,xa,xb,imm⟩:=x;simp only at e a0 a8 b0 b8;subst e;refine Con.raw zai zpK (bA rfl) _ ?_;have hl:=hm.lt hp;have ne1:∀j,¬pb=m.next+j:=λj=>by omega
 have ne2:∀j,¬m.next+j=pb:=λj=>by omega
 have ne3:¬pb=m.next:=by omega
 have ne4:¬m.next=pb:=by omega
 have ga:xa<((8:Nat):Int):=by omega
 have gb:xb<((8:Nat):Int):=by omega
 have ra:=hc.reg (k:=xa.toNat) (by omega);have rb:=hc.reg (k:=xb.toNat) (by omega);have ww:IntKind.u32.wrap imm=((w32 imm).toNat:Int):=zaR;have hi:zl9 EE.P (.iface tyP (PT p)) "Byte" =some (fW,PT p):=zhQ hma hcl
 have ha:c.r.getD xb.toNat 0#32+w32 imm=adX ⟨17,xa,xb,imm⟩ c:=rfl;have hk:xa.toNat+1<=cs.n:=by rw[hc.n];omega
 generalize adX ⟨17,xa,xb,imm⟩ c=at_ at*
 have z0:decide (((at_ % 4#32).toNat:Int)=0)=decide (at_ % 4#32=0#32):=eq0;simp only[XX,XY,ztj,yA,yB,yC,yH,XG,zbx,hp,ne3,b0,gb,rb,ww,zcH,ha,hi];refine cZ (hW _ ⟨by(try simp only[bN,nP]);omega,zad.of_low (by have:=hm.n64;(try simp only[bN,nP]);omega) (by repeat(first|exact Low.of hm nO|refine Low.put ?_ nO|refine Low.bump ?_)),λy hy=>by simp only[gB,gP,zb3 hy,if_false]⟩) ?_;have zw:= @zvy;cases w with
 |none=>simp only[XX,XY,ztj,yA,yB,yC,zAu,Option.getD_none,Option.isSome_none];exact CpW.raw' hp (zt9 hm hp hc) rfl
 |some v=>simp only[XX,XY,ztj,yA,yB,yC,XG,zAu,hp,ne3,a0,ga,hk,zw];exact CpW.raw' hp (zDM hm hp (hc.setr (k:=xa.toNat) (by omega))) rfl
theorem zpg{o:zaS}{j:Nat}(hm:zad m):Nx m ((m.put m.next o).bump (j+1)):=⟨by(try simp only[bN,nP]);omega,zad.of_low (by have:=hm.n64;(try simp only[bN,nP]);omega) (by repeat(first|exact Low.of hm nO|refine Low.put ?_ nO|refine Low.bump ?_)),λy hy=>by simp only[gB,gP,zb3 hy,if_false]⟩
def WrR(m:Mem)(R:Mem->Bool->Mem->Prop)(u:Value)(m':Mem):Prop:=∃M is,Nx m M∧R M is m'∧u= .bool is
theorem WrR.raw{R:Mem->Bool->Mem->Prop}{M:Mem}{is:Bool}(hg:∀M is M',R M is M'->Grow M M')(hn:Nx m M)(h:R M is m'):zcY m m' (.bool is) (WrR m R):=by have g:=hg _ _ _ h;exact⟨⟨lT hn.next g.1,λy hy e=>g.2 y (lL hy hn.next) (by rw[hn.old y hy,e])⟩,M,is,hn,h,rfl⟩
theorem zsT{R:Mem->Bool->Mem->Prop}(hg:∀M is M',R M is M'->Grow M M')(hm:zad m)(hp:m.get pb=some (.cells cs true 0))(hc:CpC c cs)(e:x.op=16)(a0:0<=x.a)(a8:x.a<8)(b0:0<=x.b)(b8:x.b<8)(hma:zaB EE.P tyP "SetWord" =some fW)(hcl:zab EE.P fW=true)(h4:adX x c % 4#32=0#32)
  (hW:∀M,Nx m M->∃u M',Con EE.P fW [PT p,Um (adX x c),Um (c.r.getD x.a.toNat 0#32)] M u M'∧∃is,u= .bool is∧R M is M'):
  ∃u m',Con EE.P 126 [.agg (zbx x).toArray,PT pb, .iface tyP (PT p)] m u m'∧WrR m R u m':=by
 obtain⟨op,xa,xb,imm⟩:=x;simp only at e a0 a8 b0 b8;subst e;refine Con.raw zai zpK (bA rfl) _ ?_;have hl:=hm.lt hp;have ne1:∀j,¬pb=m.next+j:=λj=>by omega
 have ne2:∀j,¬m.next+j=pb:=λj=>by omega
 have ne3:¬pb=m.next:=by omega
 have ne4:¬m.next=pb:=by omega
 have ga:xa<((8:Nat):Int):=by omega
 have gb:xb<((8:Nat):Int):=by omega
 have ra:=hc.reg (k:=xa.toNat) (by omega);have rb:=hc.reg (k:=xb.toNat) (by omega);have ww:IntKind.u32.wrap imm=((w32 imm).toNat:Int):=zaR;have hi:zl9 EE.P (.iface tyP (PT p)) "SetWord" =some (fW,PT p):=zhQ hma hcl
 have ha:c.r.getD xb.toNat 0#32+w32 imm=adX ⟨16,xa,xb,imm⟩ c:=rfl;have hk:xa.toNat+1<=cs.n:=by rw[hc.n];omega
 generalize adX ⟨16,xa,xb,imm⟩ c=at_ at*
 have z0:decide (((at_ % 4#32).toNat:Int)=0)=decide (at_ % 4#32=0#32):=eq0;have d4:=decide_eq_true h4;have hms:(zaB EE.P tyP "SetWord").isSome=true:=by rw[hma];rfl
 simp only[XX,XY,ztj,yA,yB,yC,yH,XG,zbx,hp,ne3,a0,b0,ga,gb,rb,ww,zcH,ha,hi,ra,zwq,z0,d4,hms];refine cX (hW _ (zpg hm)) λu M' hM=>?_;obtain⟨is,rfl,hR⟩:=hM;have n1:=lT (zpg hm).next (hg _ _ _ hR).1;simp only[XX,XY,yA,yB];exact WrR.raw hg (zpg hm) hR
theorem zo9(hm:zad m)(hp:m.get pb=some (.cells cs true 0))(hc:CpC c cs)(e:x.op=16)(a0:0<=x.a)(a8:x.a<8)(b0:0<=x.b)(b8:x.b<8)(hma:zaB EE.P tyP "SetWord" =some fW)(hcl:zab EE.P fW=true)(h4:¬adX x c % 4#32=0#32):
  ∃u m',Con EE.P 126 [.agg (zbx x).toArray,PT pb, .iface tyP (PT p)] m u m'∧u= .bool false∧CpW m pb c m':=by
 obtain⟨op,xa,xb,imm⟩:=x;simp only at e a0 a8 b0 b8;subst e;refine Con.raw zai zpK (bA rfl) _ ?_;have hl:=hm.lt hp;have ne1:∀j,¬pb=m.next+j:=λj=>by omega
 have ne2:∀j,¬m.next+j=pb:=λj=>by omega
 have ne3:¬pb=m.next:=by omega
 have ne4:¬m.next=pb:=by omega
 have ga:xa<((8:Nat):Int):=by omega
 have gb:xb<((8:Nat):Int):=by omega
 have ra:=hc.reg (k:=xa.toNat) (by omega);have rb:=hc.reg (k:=xb.toNat) (by omega);have ww:IntKind.u32.wrap imm=((w32 imm).toNat:Int):=zaR;have hi:zl9 EE.P (.iface tyP (PT p)) "SetWord" =some (fW,PT p):=zhQ hma hcl
 have ha:c.r.getD xb.toNat 0#32+w32 imm=adX ⟨16,xa,xb,imm⟩ c:=rfl;have hk:xa.toNat+1<=cs.n:=by rw[hc.n];omega
 generalize adX ⟨16,xa,xb,imm⟩ c=at_ at*
 have z0:decide (((at_ % 4#32).toNat:Int)=0)=decide (at_ % 4#32=0#32):=eq0;have d4:=decide_eq_false h4;simp only[XX,XY,ztj,yA,yB,yC,yH,XG,zbx,hp,ne3,b0,gb,rb,ww,zcH,ha,zwq,z0,d4];exact CpW.raw' hp (zt9 hm hp hc) rfl
theorem zqH{R:Mem->Bool->Mem->Prop}(hg:∀M is M',R M is M'->Grow M M')(hm:zad m)(hp:m.get pb=some (.cells cs true 0))(hc:CpC c cs)(e:x.op=18)(a0:0<=x.a)(a8:x.a<8)(b0:0<=x.b)(b8:x.b<8)(hma:zaB EE.P tyP "SetByte" =some fW)(hcl:zab EE.P fW=true)
  (hW:∀M,Nx m M->∃u M',Con EE.P fW [PT p,Um (adX x c),By (lo8 (c.r.getD x.a.toNat 0#32))] M u M'∧∃is,u= .bool is∧R M is M'):
  ∃u m',Con EE.P 126 [.agg (zbx x).toArray,PT pb, .iface tyP (PT p)] m u m'∧WrR m R u m':=by
 obtain⟨op,xa,xb,imm⟩:=x;simp only at e a0 a8 b0 b8;subst e;refine Con.raw zai zpK (bA rfl) _ ?_;have hl:=hm.lt hp;have ne1:∀j,¬pb=m.next+j:=λj=>by omega
 have ne2:∀j,¬m.next+j=pb:=λj=>by omega
 have ne3:¬pb=m.next:=by omega
 have ne4:¬m.next=pb:=by omega
 have ga:xa<((8:Nat):Int):=by omega
 have gb:xb<((8:Nat):Int):=by omega
 have ra:=hc.reg (k:=xa.toNat) (by omega);have rb:=hc.reg (k:=xb.toNat) (by omega);have ww:IntKind.u32.wrap imm=((w32 imm).toNat:Int):=zaR;have hi:zl9 EE.P (.iface tyP (PT p)) "SetByte" =some (fW,PT p):=zhQ hma hcl
 have ha:c.r.getD xb.toNat 0#32+w32 imm=adX ⟨18,xa,xb,imm⟩ c:=rfl;have hk:xa.toNat+1<=cs.n:=by rw[hc.n];omega
 generalize adX ⟨18,xa,xb,imm⟩ c=at_ at*
 have z0:decide (((at_ % 4#32).toNat:Int)=0)=decide (at_ % 4#32=0#32):=eq0;have bw:= @zuF;have hms:(zaB EE.P tyP "SetByte").isSome=true:=by rw[hma];rfl
 simp only[XX,XY,ztj,yA,yB,yC,yH,XG,zbx,hp,ne3,a0,b0,ga,gb,rb,ww,zcH,ha,hi,ra,bw,hms];refine cX (hW _ (zpg hm)) λu M' hM=>?_;obtain⟨is,rfl,hR⟩:=hM;have n1:=lT (zpg hm).next (hg _ _ _ hR).1;simp only[XX,XY,yA,yB];exact WrR.raw hg (zpg hm) hR
end
section
variable{m:Mem}{a b:BitVec 32}{x:Ins}
theorem zvp(h:x.op<1∨14<x.op):Con EE.P 129 [.agg (zbx x).toArray,Um a,Um b] m (zjT (zaW x a b)) m:=by
 obtain⟨op,xa,xb,imm⟩:=x;simp only at h;have n1:¬op=1:=by omega
 have n2:¬op=2:=by omega
 have n3:¬op=3:=by omega
 have n4:¬op=4:=by omega
 have n5:¬op=5:=by omega
 have n6:¬op=6:=by omega
 have n7:¬op=7:=by omega
 have n8:¬op=8:=by omega
 have n9:¬op=9:=by omega
 have n10:¬op=10:=by omega
 have n11:¬op=11:=by omega
 have n12:¬op=12:=by omega
 have n13:¬op=13:=by omega
 have n14:¬op=14:=by omega
 have hc:zaW ⟨op,xa,xb,imm⟩ a b=none:=by unfold zaW;simp only[n1,n2,n3,n4,n5,n6,n7,n8,n9,n10,n11,n12,n13,n14,if_false]
 rw[hc];refine Con.of zai ze0 (bA rfl) Grow.rfl λhm=>?_;simp only[XX,XY,zlp,yA,yB,yC,zbx,n1,n2,n3,n4,n5,n6,n7,n8,n9,n10,n11,n12,n13,n14];exact tP rfl λy hy=>by simp only[gB,gP];rw[if_neg (by omega)]
theorem zuh:Con EE.P 129 [.agg (zbx x).toArray,Um a,Um b] m (zjT (zaW x a b)) m:=by
 by_cases e1:x.op=1
 ·exact zzt e1
 by_cases e2:x.op=2
 ·exact zyH e2
 by_cases e3:x.op=3
 ·exact zzW e3
 by_cases e4:x.op=4
 ·exact zxh e4
 by_cases e5:x.op=5
 ·exact zzu e5
 by_cases e6:x.op=6
 ·exact zzX e6
 by_cases e7:x.op=7
 ·exact zzP e7
 by_cases e8:x.op=8
 ·exact zxA e8
 by_cases e9:x.op=9
 ·exact zyQ e9
 by_cases e10:x.op=10
 ·exact zvm e10
 by_cases e11:x.op=11
 ·exact zuf e11
 by_cases e12:x.op=12
 ·exact zuG e12
 by_cases e13:x.op=13
 ·exact zvo e13
 by_cases e14:x.op=14
 ·exact ztG e14
 exact zvp (by omega)
end
section
variable{m m' M:Mem}{x:Ins}{c:Cpu}{p:Nat}{tyP fW:Nat}{w:Option (BitVec 32)}
theorem zaK(h:c.ok0):(zbm c).length=11:=by simp[zbm,h.1,h.2]
theorem zbb:(zbm c).all oneCell=true:=by unfold zbm;simp only[List.all_append,List.all_map,List.all_cons,List.all_nil,Bool.and_true];simp[oneCell,zV]
theorem CpC.of(h:c.ok0):CpC c (ofL (zbm c)):=by have hl:=zaK h;refine⟨by rw[zbW,hl],?_,h⟩;have:=zbN (l:=zbm c) (o:=0) (n:=11) (by omega);rw[this,List.drop_zero,List.take_of_length_le (by omega)]
theorem zzC{k:Nat}:(zbm c).all (zaP k)=true:=by
 rw[List.all_eq_true];intro v hv;unfold zbm at hv;rcases List.mem_append.1 hv with hv|hv
 ·rcases List.mem_append.1 hv with hv|hv
  ·obtain⟨r,_,rfl⟩:=List.mem_map.1 hv;cases k<;>rfl
  ·obtain⟨r,_,rfl⟩:=List.mem_map.1 hv;cases k<;>rfl
 ·rw[List.mem_singleton.1 hv];cases k<;>rfl
def zdx(c:Cpu)(trap:Int):Value:= .tuple [.agg (zbm c).toArray,In trap].toArray
theorem zcd{t:Int}:plain (zdx c t)=true:=by show((zbm c).all (zaP 4)&&((true)&&true))=true;rw[zzC];rfl
theorem zq4(ht:m.get 0=some (.cells (.ofList zcp) false 1))(hc:c.ok0)(hma:zaB EE.P tyP "Word" =some fW)(hcl:zab EE.P fW=true)(hW:∀M,Nx m M->Con EE.P fW [PT p,Um c.pc] M (zjU w) M)(hf:¬(za5 w c).2=0):
  Con EE.P 81 [.agg (zbm c).toArray, .iface tyP (PT p)] m (zdx c (za5 w c).2) m:=by
 refine Con.of zai ztl (bA rfl) Grow.rfl λhm=>?_;have h64:=hm.n64;have hs:=(CpC.of hc).l;have hl:=zaK hc;have ha:=zbb (c:=c);simp only[XX,XY,F81,yA,yB,yC,hs];refine cZ (zcA (w:=w) ?_ hc hma hcl λM hn=>hW M ?_) ?_
 ·simp only[gB,gP]
  repeat rw[if_neg (by omega)]
  exact ht
 ·exact Nx.trans (nX hm) hn
 ·simp only[XX,XY,F81,yA,yB,yC,hs,hl,ha,hf,zbx];refine tP zcd λy hy=>?_;simp only[gB,gP]
  repeat rw[if_neg (by omega)]
theorem ztv(ht:m.get 0=some (.cells (.ofList zcp) false 1))(hc:c.ok0)(hma:zaB EE.P tyP "Word" =some fW)(hcl:zab EE.P fW=true)(hW:∀M,Nx m M->Con EE.P fW [PT p,Um c.pc] M (zjU w) M)(hf:(za5 w c).2=0)(ho:(za5 w c).1.op=24):
  Con EE.P 81 [.agg (zbm c).toArray, .iface tyP (PT p)] m (zdx c 1) m:=by
 refine Con.of zai ztl (bA rfl) Grow.rfl λhm=>?_;have h64:=hm.n64;have hs:=(CpC.of hc).l;have hl:=zaK hc;have ha:=zbb (c:=c);simp only[XX,XY,F81,yA,yB,yC,hs];refine cZ (zcA (w:=w) ?_ hc hma hcl λM hn=>hW M ?_) ?_
 ·simp only[gB,gP]
  repeat rw[if_neg (by omega)]
  exact ht
 ·exact Nx.trans (nX hm) hn
 ·simp only[XX,XY,F81,yA,yB,yC,hs,hl,ha,hf,ho,zbx,zbl];refine tP zcd λy hy=>?_;simp only[gB,gP]
  repeat rw[if_neg (by omega)]
end
section
variable{m m' M:Mem}{x:Ins}{c:Cpu}{p:Nat}{tyP fW:Nat}{w:Option (BitVec 32)}
abbrev zN:Cells:=ofL [.int .u32 0, .int .u32 0, .int .u32 0, .int .u32 0, .int .u32 0, .int .u32 0, .int .u32 0, .int .u32 0, .complex .f64 0 0, .complex .f64 0 0, .int .u32 0]
theorem CpC.fill(h:c.ok0):CpC c (zN.write 0 (zbm c)):=⟨by rw[zap];rfl,zay (zaK h) (by exact lR' 11),h⟩
def zhy(x:Ins)(c:Cpu):Cpu:=match zaW x (c.r.getD x.a.toNat 0#32) (c.r.getD x.b.toNat 0#32) with
 |some v=>{c with r:=c.r.set x.a.toNat v,pc:=c.pc+4#32}
 |none=>{c with pc:=c.pc+4#32}
theorem zpr(ht:m.get 0=some (.cells (.ofList zcp) false 1))(hc:c.ok0)(hma:zaB EE.P tyP "Word" =some fW)(hcl:zab EE.P fW=true)(hW:∀M,Nx m M->Con EE.P fW [PT p,Um c.pc] M (zjU w) M)(hf:za5 w c=(x,0))(ho:x.op<15)(a0:0<=x.a)(a8:x.a<8)(b0:0<=x.b)(b8:x.b<8):
  Con EE.P 81 [.agg (zbm c).toArray, .iface tyP (PT p)] m (zdx (zhy x c) 0) m:=by
 refine Con.of zai ztl (bA rfl) Grow.rfl λhm=>?_;have h64:=hm.n64;have hs:=(CpC.of hc).l;have hl:=zaK hc;have ha:=zbb (c:=c);simp only[XX,XY,F81,yA,yB,yC,hs];refine cZ (zcA (w:=w) ?_ hc hma hcl λM hn=>hW M ?_) ?_
 ·simp only[gB,gP]
  repeat rw[if_neg (by omega)]
  exact ht
 ·exact Nx.trans (nX hm) hn
 ·rw[hf];have cf:=CpC.fill hc;have n24:¬x.op=24:=by omega
  have d15:decide (15<=x.op)=false:=decide_eq_false (by omega);have d19:decide (19<=x.op)=false:=decide_eq_false (by omega);have d25:decide (25<=x.op)=false:=decide_eq_false (by omega);have ga:x.a<((8:Nat):Int):=by omega
  have gb:x.b<((8:Nat):Int):=by omega
  have ra:=(CpC.of hc).reg (k:=x.a.toNat) (by omega);have rb:=(CpC.of hc).reg (k:=x.b.toNat) (by omega);have hq:= @zhq;simp only[XX,XY,F81,yA,yB,yC,XG,hs,hl,ha,zbx,zbl,n24,d15,d19,d25,a0,b0,ga,gb,ra,rb];refine cZ (zuh (x:=x)) ?_;cases hx:zaW x (c.r.getD x.a.toNat 0#32) (c.r.getD x.b.toNat 0#32) with
  |none=>
   have ec:zhy x c={c with pc:=c.pc+4#32}:=by unfold zhy;rw[hx]
   rw[ec];have p1:=cf.pc;have p2:=(cf.setpc (v:=c.pc+4#32)).l;have hl2:=zaK (c:={c with pc:=c.pc+4#32}) hc;have ha2:=zbb (c:={c with pc:=c.pc+4#32});simp only[XX,XY,F81,yA,yB,yC,zjT,Option.getD_none,Option.isSome_none,zmE,p1,p2,hl2,ha2];refine tP zcd λy hy=>?_;simp only[gB,gP]
   repeat rw[if_neg (by omega)]
  |some v=>
   have ec:zhy x c={c with r:=c.r.set x.a.toNat v,pc:=c.pc+4#32}:=by unfold zhy;rw[hx]
   rw[ec];have cr:=cf.setr (k:=x.a.toNat) (v:=v) (by omega);have p1:=cr.pc;have p2:=(cr.setpc (v:=c.pc+4#32)).l;have ok2:=(cr.setpc (v:=c.pc+4#32)).ok;have hl2:=zaK ok2;have ha2:=zbb (c:={c with r:=c.r.set x.a.toNat v,pc:=c.pc+4#32});have hk:x.a.toNat+1<=11:=by omega
   simp only[XX,XY,F81,yA,yB,yC,XG,zjT,zmE,a0,ga,hk,p1,p2,hl2,ha2];refine tP zcd λy hy=>?_;simp only[gB,gP]
   repeat rw[if_neg (by omega)]
end
section
variable{m m' M:Mem}{x:Ins}{c:Cpu}{p:Nat}{tyP fW:Nat}{w:Option (BitVec 32)}
theorem zqr(ht:m.get 0=some (.cells (.ofList zcp) false 1))(hc:c.ok0)(hma:zaB EE.P tyP "Word" =some fW)(hcl:zab EE.P fW=true)(hW:∀M,Nx m M->Con EE.P fW [PT p,Um c.pc] M (zjU w) M)(hf:za5 w c=(x,0))(ho:19<=x.op∧x.op<=23)(a0:0<=x.a)(a8:x.a<8):
  Con EE.P 81 [.agg (zbm c).toArray, .iface tyP (PT p)] m (zdx {(zcj x c).2 with pc:=(zcj x c).1} 0) m:=by
 refine Con.of zai ztl (bA rfl) Grow.rfl λhm=>?_;have h64:=hm.n64;have hs:=(CpC.of hc).l;have hl:=zaK hc;have ha:=zbb (c:=c);simp only[XX,XY,F81,yA,yB,yC,hs];refine cZ (zcA (w:=w) ?_ hc hma hcl λM hn=>hW M ?_) ?_
 ·simp only[gB,gP]
  repeat rw[if_neg (by omega)]
  exact ht
 ·exact Nx.trans (nX hm) hn
 ·rw[hf];have cf:=CpC.fill hc;have n24:¬x.op=24:=by omega
  have d15:decide (15<=x.op)=true:=decide_eq_true (by omega);have d18:decide (x.op<=18)=false:=decide_eq_false (by omega);have d19:decide (19<=x.op)=true:=decide_eq_true (by omega);have d23:decide (x.op<=23)=true:=decide_eq_true (by omega);have hq:= @zhq;simp only[XX,XY,F81,yA,yB,yC,XG,hs,hl,ha,zbx,zbl,n24,d15,d18,d19,d23];refine cX (zzp (x:=x) ?_ ?_ cf a0 a8) λu m' hu=>?_
  ·refine Nx.fresh (m:=m) ?_;exact(nX hm)
  ·(simp only[gB,gP];repeat(first|rw[if_neg (by omega)]|rw[if_pos trivial]|rw[if_pos (by omega)]))
  ·obtain⟨rfl,hw⟩:=hu;have n1:=hw.next;simp only[bN,nP] at n1;have h1:m'.get (m.next+1)=some (.cells zN true 0):=by
    rw[hw.old _ nO (by omega)]
    (simp only[gB,gP];repeat(first|rw[if_neg (by omega)]|rw[if_pos trivial]|rw[if_pos (by omega)]))
   obtain⟨cs',g1,g2⟩:=hw.cell;have n2:m.next<=m'.next:=by omega
   have p2:=(g2.setpc (v:=(zcj x c).1)).l;have hk:10+1<=cs'.n:=by rw[g2.n];decide
   have hl2:=zaK (c:={(zcj x c).2 with pc:=(zcj x c).1}) g2.ok;have ha2:=zbb (c:={(zcj x c).2 with pc:=(zcj x c).1});simp only[XX,XY,F81,yA,yB,yC,n2,h1,g1,hk,p2,hl2,ha2];refine tP zcd λy hy=>?_;simp only[gB,gP];rw[if_neg (by omega),if_neg (by omega),hw.old y nO (by omega)];simp only[gB,gP]
   repeat rw[if_neg (by omega)]
end
section
variable{m m' M:Mem}{x:Ins}{c:Cpu}{p:Nat}{tyP fW:Nat}{w:Option (BitVec 32)}
theorem zoh(ht:m.get 0=some (.cells (.ofList zcp) false 1))(hc:c.ok0)(hma:zaB EE.P tyP "Word" =some fW)(hcl:zab EE.P fW=true)(hW:∀M,Nx m M->Con EE.P fW [PT p,Um c.pc] M (zjU w) M)(hf:za5 w c=(x,0))(hz:c.zok)(ho:25<=x.op∧x.op<=29)(a0:0<=x.a)(a2:x.a<2)(b0:0<=x.b)(b2:x.b<7)(b3:x.op=27∨x.op=28->x.b<2):
  Con EE.P 81 [.agg (zbm c).toArray, .iface tyP (PT p)] m (zdx {(zby x c) with pc:=(zby x c).pc+4#32} 0) m:=by
 refine Con.of zai ztl (bA rfl) Grow.rfl λhm=>?_;have h64:=hm.n64;have hs:=(CpC.of hc).l;have hl:=zaK hc;have ha:=zbb (c:=c);simp only[XX,XY,F81,yA,yB,yC,hs];refine cZ (zcA (w:=w) ?_ hc hma hcl λM hn=>hW M ?_) ?_
 ·simp only[gB,gP]
  repeat rw[if_neg (by omega)]
  exact ht
 ·exact Nx.trans (nX hm) hn
 ·rw[hf];have cf:=CpC.fill hc;have n24:¬x.op=24:=by omega
  have d15:decide (15<=x.op)=true:=decide_eq_true (by omega);have d18:decide (x.op<=18)=false:=decide_eq_false (by omega);have d19:decide (19<=x.op)=true:=decide_eq_true (by omega);have d23:decide (x.op<=23)=false:=decide_eq_false (by omega);have d25:decide (25<=x.op)=true:=decide_eq_true (by omega);have hq:= @zhq;simp only[XX,XY,F81,yA,yB,yC,XG,hs,hl,ha,zbx,zbl,n24,d15,d18,d19,d23,d25];refine cX (zvk (x:=x) ?_ ?_ cf hz ho a0 a2 b0 b2 b3) λu m' hu=>?_
  ·refine Nx.fresh (m:=m) ?_;exact(nX hm)
  ·(simp only[gB,gP];repeat(first|rw[if_neg (by omega)]|rw[if_pos trivial]|rw[if_pos (by omega)]))
  ·have hw:=hu;have n1:=hw.next;simp only[bN,nP] at n1;have h1:m'.get (m.next+1)=some (.cells zN true 0):=by
    rw[hw.old _ nO (by omega)]
    (simp only[gB,gP];repeat(first|rw[if_neg (by omega)]|rw[if_pos trivial]|rw[if_pos (by omega)]))
   obtain⟨cs',g1,g2⟩:=hw.cell;have n2:m.next<=m'.next:=by omega
   have p2:=(g2.setpc (v:=(zby x c).pc+4#32)).l;have p1:=g2.pc;have hk:10+1<=cs'.n:=by rw[g2.n];decide
   have hl2:=zaK (c:={(zby x c) with pc:=(zby x c).pc+4#32}) g2.ok;have ha2:=zbb (c:={(zby x c) with pc:=(zby x c).pc+4#32});simp only[XX,XY,F81,yA,yB,yC,n2,h1,g1,hk,p1,zmE,p2,hl2,ha2,lA];refine tP zcd λy hy=>?_;simp only[gB,gP];rw[if_neg (by omega),if_neg (by omega),hw.old y nO (by omega)];simp only[gB,gP]
   repeat rw[if_neg (by omega)]
end
section
variable{m m' M:Mem}{x:Ins}{c:Cpu}{p:Nat}{tyP fW:Nat}{w w2:Option (BitVec 32)}{w3:Option (BitVec 8)}{fB:Nat}
def lwX(x:Ins)(c:Cpu)(w:Option (BitVec 32)):Bool:=decide (adX x c % 4#32=0#32)&&w.isSome
theorem zzN:(if adX x c % 4#32=0#32 then zd4 x c w2 else c)=if lwX x c w2=true then zd4 x c w2 else c:=by
 unfold lwX;by_cases h:adX x c % 4#32=0#32
 ·rw[if_pos h,decide_eq_true h];cases w2 with
  |none=>rfl
  |some v=>rfl
 ·rw[if_neg h,decide_eq_false h];rfl
theorem zy2:zd4 x c (w3.map z32)=if w3.isSome=true then zd4 x c (w3.map z32) else c:=by cases w3<;>rfl
theorem zw4(ht:m.get 0=some (.cells (.ofList zcp) false 1))(hc:c.ok0)(hma:zaB EE.P tyP "Word" =some fW)(hcl:zab EE.P fW=true)(hW:∀M,Nx m M->Con EE.P fW [PT p,Um c.pc] M (zjU w) M)(hf:za5 w c=(x,0))(ho:x.op=15)(a0:0<=x.a)(a8:x.a<8)(b0:0<=x.b)(b8:x.b<8)(hW2:∀M,Nx m M->Con EE.P fW [PT p,Um (adX x c)] M (zjU w2) M):
  Con EE.P 81 [.agg (zbm c).toArray, .iface tyP (PT p)] m (if lwX x c w2 then zdx {zd4 x c w2 with pc:=c.pc+4#32} 0 else zdx c 2) m:=by
 refine Con.of zai ztl (bA rfl) Grow.rfl λhm=>?_;have h64:=hm.n64;have hs:=(CpC.of hc).l;have hl:=zaK hc;have ha:=zbb (c:=c);simp only[XX,XY,F81,yA,yB,yC,hs];refine cZ (zcA (w:=w) ?_ hc hma hcl λM hn=>hW M ?_) ?_
 ·simp only[gB,gP]
  repeat rw[if_neg (by omega)]
  exact ht
 ·exact Nx.trans (nX hm) hn
 ·rw[hf];have cf:=CpC.fill hc;have n24:¬x.op=24:=by omega
  have d15:decide (15<=x.op)=true:=decide_eq_true (by omega);have d18:decide (x.op<=18)=true:=decide_eq_true (by omega);have hq:= @zhq;simp only[XX,XY,F81,yA,yB,yC,XG,hs,hl,ha,zbx,zbl,n24,d15,d18];refine cX (ztb (x:=x) (w:=w2) ?_ ?_ cf ho a0 a8 b0 b8 hma hcl λM hn=>hW2 M (Nx.trans ?_ hn)) λu m' hu=>?_
  ·refine Nx.fresh (m:=m) ?_;exact(nX hm)
  ·(simp only[gB,gP];repeat(first|rw[if_neg (by omega)]|rw[if_pos trivial]|rw[if_pos (by omega)]))
  ·exact(nX hm)
  ·obtain⟨hu1,hw⟩:=hu;rw[zzN] at hw;have hu2:u= .bool (lwX x c w2):=hu1;subst hu2;have n1:=hw.next;simp only[bN,nP] at n1;have h1:m'.get (m.next+1)=some (.cells zN true 0):=by
    rw[hw.old _ nO (by omega)]
    (simp only[gB,gP];repeat(first|rw[if_neg (by omega)]|rw[if_pos trivial]|rw[if_pos (by omega)]))
   have h0:m'.get m.next=some (.cells (ofL (zbm c)) true 0):=by
    rw[hw.old _ nO (by omega)]
    (simp only[gB,gP];repeat(first|rw[if_neg (by omega)]|rw[if_pos trivial]|rw[if_pos (by omega)]))
   obtain⟨cs',g1,g2⟩:=hw.cell;have n2:m.next<=m'.next:=by omega
   have hfin:∀y,y<m.next->m'.get y=m.get y:=λy hy=>by
    rw[hw.old y nO (by omega)];simp only[gB,gP]
    repeat rw[if_neg (by omega)]
   by_cases hok:(lwX x c w2)=true
   ·rw[if_pos hok] at g2;rw[if_pos hok,hok];have pcn:(zd4 x c w2).pc=c.pc:=by unfold zd4;cases w2<;>rfl
    have p1:=g2.pc;rw[pcn] at p1;have p2:=(g2.setpc (v:=c.pc+4#32)).l;have hk:10+1<=cs'.n:=by rw[g2.n];decide
    have hl2:=zaK (c:={zd4 x c w2 with pc:=c.pc+4#32}) g2.ok;have ha2:=zbb (c:={zd4 x c w2 with pc:=c.pc+4#32});simp only[XX,XY,F81,yA,yB,yC,n2,h1,g1,hk,p1,zmE,p2,hl2,ha2,lA];refine tP zcd λy hy=>?_;simp only[gB,gP];rw[if_neg (by omega),if_neg (by omega),hfin y hy]
   ·have hok':(lwX x c w2)=false:=by simpa using hok
    rw[if_neg hok,hok'];simp only[XX,XY,F81,yA,yB,yC,n2,h1,h0,hs,hl,ha];refine tP zcd λy hy=>?_;simp only[gB,gP];rw[if_neg (by omega),hfin y hy]
theorem zyq(ht:m.get 0=some (.cells (.ofList zcp) false 1))(hc:c.ok0)(hma:zaB EE.P tyP "Word" =some fW)(hcl:zab EE.P fW=true)(hW:∀M,Nx m M->Con EE.P fW [PT p,Um c.pc] M (zjU w) M)(hf:za5 w c=(x,0))(ho:x.op=17)(a0:0<=x.a)(a8:x.a<8)(b0:0<=x.b)(b8:x.b<8)(hmb:zaB EE.P tyP "Byte" =some fB)(hcb:zab EE.P fB=true)(hW2:∀M,Nx m M->Con EE.P fB [PT p,Um (adX x c)] M (zAu w3) M):
  Con EE.P 81 [.agg (zbm c).toArray, .iface tyP (PT p)] m (if w3.isSome then zdx {zd4 x c (w3.map z32) with pc:=c.pc+4#32} 0 else zdx c 2) m:=by
 refine Con.of zai ztl (bA rfl) Grow.rfl λhm=>?_;have h64:=hm.n64;have hs:=(CpC.of hc).l;have hl:=zaK hc;have ha:=zbb (c:=c);simp only[XX,XY,F81,yA,yB,yC,hs];refine cZ (zcA (w:=w) ?_ hc hma hcl λM hn=>hW M ?_) ?_
 ·simp only[gB,gP]
  repeat rw[if_neg (by omega)]
  exact ht
 ·exact Nx.trans (nX hm) hn
 ·rw[hf];have cf:=CpC.fill hc;have n24:¬x.op=24:=by omega
  have d15:decide (15<=x.op)=true:=decide_eq_true (by omega);have d18:decide (x.op<=18)=true:=decide_eq_true (by omega);have hq:= @zhq;simp only[XX,XY,F81,yA,yB,yC,XG,hs,hl,ha,zbx,zbl,n24,d15,d18];refine cX (zra (x:=x) (w:=w3) ?_ ?_ cf ho a0 a8 b0 b8 hmb hcb λM hn=>hW2 M (Nx.trans ?_ hn)) λu m' hu=>?_
  ·refine Nx.fresh (m:=m) ?_;exact(nX hm)
  ·(simp only[gB,gP];repeat(first|rw[if_neg (by omega)]|rw[if_pos trivial]|rw[if_pos (by omega)]))
  ·exact(nX hm)
  ·obtain⟨rfl,hw⟩:=hu;rw[zy2] at hw;have n1:=hw.next;simp only[bN,nP] at n1;have h1:m'.get (m.next+1)=some (.cells zN true 0):=by
    rw[hw.old _ nO (by omega)]
    (simp only[gB,gP];repeat(first|rw[if_neg (by omega)]|rw[if_pos trivial]|rw[if_pos (by omega)]))
   have h0:m'.get m.next=some (.cells (ofL (zbm c)) true 0):=by
    rw[hw.old _ nO (by omega)]
    (simp only[gB,gP];repeat(first|rw[if_neg (by omega)]|rw[if_pos trivial]|rw[if_pos (by omega)]))
   obtain⟨cs',g1,g2⟩:=hw.cell;have n2:m.next<=m'.next:=by omega
   have hfin:∀y,y<m.next->m'.get y=m.get y:=λy hy=>by
    rw[hw.old y nO (by omega)];simp only[gB,gP]
    repeat rw[if_neg (by omega)]
   by_cases hok:(w3.isSome)=true
   ·rw[if_pos hok] at g2;rw[if_pos hok,hok];have pcn:(zd4 x c (w3.map z32)).pc=c.pc:=by unfold zd4;cases w3<;>rfl
    have p1:=g2.pc;rw[pcn] at p1;have p2:=(g2.setpc (v:=c.pc+4#32)).l;have hk:10+1<=cs'.n:=by rw[g2.n];decide
    have hl2:=zaK (c:={zd4 x c (w3.map z32) with pc:=c.pc+4#32}) g2.ok;have ha2:=zbb (c:={zd4 x c (w3.map z32) with pc:=c.pc+4#32});simp only[XX,XY,F81,yA,yB,yC,n2,h1,g1,hk,p1,zmE,p2,hl2,ha2,lA];refine tP zcd λy hy=>?_;simp only[gB,gP];rw[if_neg (by omega),if_neg (by omega),hfin y hy]
   ·have hok':(w3.isSome)=false:=by simpa using hok
    rw[if_neg hok,hok'];simp only[XX,XY,F81,yA,yB,yC,n2,h1,h0,hs,hl,ha];refine tP zcd λy hy=>?_;simp only[gB,gP];rw[if_neg (by omega),hfin y hy]
end
section
variable{m m' M:Mem}{x:Ins}{c:Cpu}{p:Nat}{tyP fW:Nat}{w w2:Option (BitVec 32)}{w3:Option (BitVec 8)}{fB:Nat}
structure zEz(n:Nat)(R:Mem->Bool->Mem->Prop):Prop where
 grow:∀M is M',R M is M'->Grow M M'
 fresh:∀M is M',R M is M'->zad M'
 new:∀M is M' y,R M is M'->n<=y->y<M.next->M'.get y=M.get y
def StR(m:Mem)(R:Mem->Bool->Mem->Prop)(c:Cpu)(u:Value)(m2:Mem):Prop:=∃M is M',Nx m M∧R M is M'∧M'.next<=m2.next∧zad m2∧(∀y,y<m.next∨M.next<=y->m2.get y=M'.get y)∧u=if is=true then zdx {c with pc:=c.pc+4#32} 0 else zdx c 2
theorem zx7{R:Mem->Bool->Mem->Prop}(hR:zEz m.next R)(hm:zad m)(ht:m.get 0=some (.cells (.ofList zcp) false 1))(hc:c.ok0)(hma:zaB EE.P tyP "Word" =some fW)(hcl:zab EE.P fW=true)(hW:∀M,Nx m M->Con EE.P fW [PT p,Um c.pc] M (zjU w) M)(hf:za5 w c=(x,0))(ho:x.op=16)(a0:0<=x.a)(a8:x.a<8)(b0:0<=x.b)(b8:x.b<8)(h4:adX x c % 4#32=0#32)(hms:zaB EE.P tyP "SetWord" =some fB)(hcs:zab EE.P fB=true)
  (hW2:∀M,Nx m M->∃u M',Con EE.P fB [PT p,Um (adX x c),Um (c.r.getD x.a.toNat 0#32)] M u M'∧∃is,u= .bool is∧R M is M'):
  ∃u m2,Con EE.P 81 [.agg (zbm c).toArray, .iface tyP (PT p)] m u m2∧StR m R c u m2:=by
 refine Con.raw zai ztl (bA rfl) _ ?_;have h64:=hm.n64;have hs:=(CpC.of hc).l;have hl:=zaK hc;have ha:=zbb (c:=c);simp only[XX,XY,F81,yA,yB,yC,hs];refine cZ (zcA (w:=w) ?_ hc hma hcl λM hn=>hW M ?_) ?_
 ·simp only[gB,gP]
  repeat rw[if_neg (by omega)]
  exact ht
 ·exact Nx.trans (nX hm) hn
 ·rw[hf];have cf:=CpC.fill hc;have n24:¬x.op=24:=by omega
  have d15:decide (15<=x.op)=true:=decide_eq_true (by omega);have d18:decide (x.op<=18)=true:=decide_eq_true (by omega);simp only[XX,XY,F81,yA,yB,yC,XG,hs,hl,ha,zbx,zbl,n24,d15,d18];refine cX (zsT hR.grow (x:=x) ?_ ?_ cf ho a0 a8 b0 b8 hms hcs h4 λM hn=>hW2 M (Nx.trans ?_ hn)) λu m' hu=>?_
  ·refine Nx.fresh (m:=m) ?_;exact(nX hm)
  ·(simp only[gB,gP];repeat(first|rw[if_neg (by omega)]|rw[if_pos trivial]|rw[if_pos (by omega)]))
  ·exact(nX hm)
  ·obtain⟨M1,is,hN,hr,rfl⟩:=hu;have nN:=hN.next;simp only[bN,nP] at nN;have hg:=hR.grow _ _ _ hr;have hfr:=hR.fresh _ _ _ hr;have n1:=hg.1;have n0:m.next+1<=m'.next:=by omega
   have kp:∀y o,m.next<=y->y<m.next+16->M1.get y=some o->m'.get y=some o:=λy o h1 h2 h3=>by rw[hR.new _ _ _ y hr h1 (by omega)];exact h3
   have h1:m'.get (m.next+1)=some (.cells zN true 0):=kp _ _ (by omega) (by omega) (by rw[hN.old _ nO];(simp only[gB,gP];repeat(first|rw[if_neg (by omega)]|rw[if_pos trivial]|rw[if_pos (by omega)])));have h0:m'.get m.next=some (.cells (ofL (zbm c)) true 0):=kp _ _ (by omega) (by omega) (by rw[hN.old _ nO];(simp only[gB,gP];repeat(first|rw[if_neg (by omega)]|rw[if_pos trivial]|rw[if_pos (by omega)])));have g1:m'.get (m.next+15)=some (.cells (zN.write 0 (zbm c)) true 0):=kp _ _ (by omega) (by omega) (by rw[hN.old _ nO];(simp only[gB,gP];repeat(first|rw[if_neg (by omega)]|rw[if_pos trivial]|rw[if_pos (by omega)])));have n2:m.next<=m'.next:=by omega
   have hNm:Nx m M1:=Nx.trans (nX hm) hN;have gm:Grow m m':=⟨n2,λy hy e=>hg.2 y (by omega) (by rw[hNm.old y hy,e])⟩;cases is with
   |true=>
    have p1:=cf.pc;have p2:=(cf.setpc (v:=c.pc+4#32)).l;have hl2:=zaK (c:={c with pc:=c.pc+4#32}) hc;have ha2:=zbb (c:={c with pc:=c.pc+4#32});simp only[XX,XY,F81,yA,yB,yC,n2,h1,g1,p1,zmE,p2,hl2,ha2,lA];refine⟨⟨nO,λy hy e=>by simp only[gB,gP];rw[if_neg (by omega),if_neg (by omega)];exact gm.2 y hy e⟩,M1,true,m',hNm,hr,?_,?_,?_,rfl⟩
    ·simp only[bN,nP];omega
    ·exact zad.of_low (by have:=hfr.n64;simp only[bN,nP];omega) (Low.bump (Low.put (Low.put (Low.of hfr nO) nO) nO))
    ·intro y hy;simp only[gB,gP];rw[if_neg (by omega),if_neg (by omega)]
   |false=>
    simp only[XX,XY,F81,yA,yB,yC,n2,h1,h0,hs,hl,ha];refine⟨⟨nO,λy hy e=>by simp only[gB,gP];rw[if_neg (by omega)];exact gm.2 y hy e⟩,M1,false,m',hNm,hr,?_,?_,?_,rfl⟩
    ·simp only[bN,nP];omega
    ·exact zad.of_low (by have:=hfr.n64;simp only[bN,nP];omega) (Low.bump (Low.put (Low.of hfr nO) nO))
    ·intro y hy;simp only[gB,gP];rw[if_neg (by omega)]
theorem zz1{R:Mem->Bool->Mem->Prop}(hR:zEz m.next R)(hm:zad m)(ht:m.get 0=some (.cells (.ofList zcp) false 1))(hc:c.ok0)(hma:zaB EE.P tyP "Word" =some fW)(hcl:zab EE.P fW=true)(hW:∀M,Nx m M->Con EE.P fW [PT p,Um c.pc] M (zjU w) M)(hf:za5 w c=(x,0))(ho:x.op=18)(a0:0<=x.a)(a8:x.a<8)(b0:0<=x.b)(b8:x.b<8)(hms:zaB EE.P tyP "SetByte" =some fB)(hcs:zab EE.P fB=true)
  (hW2:∀M,Nx m M->∃u M',Con EE.P fB [PT p,Um (adX x c),By (lo8 (c.r.getD x.a.toNat 0#32))] M u M'∧∃is,u= .bool is∧R M is M'):
  ∃u m2,Con EE.P 81 [.agg (zbm c).toArray, .iface tyP (PT p)] m u m2∧StR m R c u m2:=by
 refine Con.raw zai ztl (bA rfl) _ ?_;have h64:=hm.n64;have hs:=(CpC.of hc).l;have hl:=zaK hc;have ha:=zbb (c:=c);simp only[XX,XY,F81,yA,yB,yC,hs];refine cZ (zcA (w:=w) ?_ hc hma hcl λM hn=>hW M ?_) ?_
 ·simp only[gB,gP]
  repeat rw[if_neg (by omega)]
  exact ht
 ·exact Nx.trans (nX hm) hn
 ·rw[hf];have cf:=CpC.fill hc;have n24:¬x.op=24:=by omega
  have d15:decide (15<=x.op)=true:=decide_eq_true (by omega);have d18:decide (x.op<=18)=true:=decide_eq_true (by omega);simp only[XX,XY,F81,yA,yB,yC,XG,hs,hl,ha,zbx,zbl,n24,d15,d18];refine cX (zqH hR.grow (x:=x) ?_ ?_ cf ho a0 a8 b0 b8 hms hcs λM hn=>hW2 M (Nx.trans ?_ hn)) λu m' hu=>?_
  ·refine Nx.fresh (m:=m) ?_;exact(nX hm)
  ·(simp only[gB,gP];repeat(first|rw[if_neg (by omega)]|rw[if_pos trivial]|rw[if_pos (by omega)]))
  ·exact(nX hm)
  ·obtain⟨M1,is,hN,hr,rfl⟩:=hu;have nN:=hN.next;simp only[bN,nP] at nN;have hg:=hR.grow _ _ _ hr;have hfr:=hR.fresh _ _ _ hr;have n1:=hg.1;have n0:m.next+1<=m'.next:=by omega
   have kp:∀y o,m.next<=y->y<m.next+16->M1.get y=some o->m'.get y=some o:=λy o h1 h2 h3=>by rw[hR.new _ _ _ y hr h1 (by omega)];exact h3
   have h1:m'.get (m.next+1)=some (.cells zN true 0):=kp _ _ (by omega) (by omega) (by rw[hN.old _ nO];(simp only[gB,gP];repeat(first|rw[if_neg (by omega)]|rw[if_pos trivial]|rw[if_pos (by omega)])));have h0:m'.get m.next=some (.cells (ofL (zbm c)) true 0):=kp _ _ (by omega) (by omega) (by rw[hN.old _ nO];(simp only[gB,gP];repeat(first|rw[if_neg (by omega)]|rw[if_pos trivial]|rw[if_pos (by omega)])));have g1:m'.get (m.next+15)=some (.cells (zN.write 0 (zbm c)) true 0):=kp _ _ (by omega) (by omega) (by rw[hN.old _ nO];(simp only[gB,gP];repeat(first|rw[if_neg (by omega)]|rw[if_pos trivial]|rw[if_pos (by omega)])));have n2:m.next<=m'.next:=by omega
   have hNm:Nx m M1:=Nx.trans (nX hm) hN;have gm:Grow m m':=⟨n2,λy hy e=>hg.2 y (by omega) (by rw[hNm.old y hy,e])⟩;cases is with
   |true=>
    have p1:=cf.pc;have p2:=(cf.setpc (v:=c.pc+4#32)).l;have hl2:=zaK (c:={c with pc:=c.pc+4#32}) hc;have ha2:=zbb (c:={c with pc:=c.pc+4#32});simp only[XX,XY,F81,yA,yB,yC,n2,h1,g1,p1,zmE,p2,hl2,ha2,lA];refine⟨⟨nO,λy hy e=>by simp only[gB,gP];rw[if_neg (by omega),if_neg (by omega)];exact gm.2 y hy e⟩,M1,true,m',hNm,hr,?_,?_,?_,rfl⟩
    ·simp only[bN,nP];omega
    ·exact zad.of_low (by have:=hfr.n64;simp only[bN,nP];omega) (Low.bump (Low.put (Low.put (Low.of hfr nO) nO) nO))
    ·intro y hy;simp only[gB,gP];rw[if_neg (by omega),if_neg (by omega)]
   |false=>
    simp only[XX,XY,F81,yA,yB,yC,n2,h1,h0,hs,hl,ha];refine⟨⟨nO,λy hy e=>by simp only[gB,gP];rw[if_neg (by omega)];exact gm.2 y hy e⟩,M1,false,m',hNm,hr,?_,?_,?_,rfl⟩
    ·simp only[bN,nP];omega
    ·exact zad.of_low (by have:=hfr.n64;simp only[bN,nP];omega) (Low.bump (Low.put (Low.of hfr nO) nO))
    ·intro y hy;simp only[gB,gP];rw[if_neg (by omega)]
end
section
variable{m m' M:Mem}{x:Ins}{c:Cpu}{p:Nat}{tyP fW:Nat}{w w2:Option (BitVec 32)}{w3:Option (BitVec 8)}{fB:Nat}
theorem zu5(ht:m.get 0=some (.cells (.ofList zcp) false 1))(hc:c.ok0)(hma:zaB EE.P tyP "Word" =some fW)(hcl:zab EE.P fW=true)(hW:∀M,Nx m M->Con EE.P fW [PT p,Um c.pc] M (zjU w) M)(hf:za5 w c=(x,0))(ho:x.op=16)(a0:0<=x.a)(a8:x.a<8)(b0:0<=x.b)(b8:x.b<8)(h4:¬adX x c % 4#32=0#32)(hms:zaB EE.P tyP "SetWord" =some fB)(hcs:zab EE.P fB=true):
  Con EE.P 81 [.agg (zbm c).toArray, .iface tyP (PT p)] m (zdx c 2) m:=by
 refine Con.of zai ztl (bA rfl) Grow.rfl λhm=>?_;have h64:=hm.n64;have hs:=(CpC.of hc).l;have hl:=zaK hc;have ha:=zbb (c:=c);simp only[XX,XY,F81,yA,yB,yC,hs];refine cZ (zcA (w:=w) ?_ hc hma hcl λM hn=>hW M ?_) ?_
 ·simp only[gB,gP]
  repeat rw[if_neg (by omega)]
  exact ht
 ·exact Nx.trans (nX hm) hn
 ·rw[hf];have cf:=CpC.fill hc;have n24:¬x.op=24:=by omega
  have d15:decide (15<=x.op)=true:=decide_eq_true (by omega);have d18:decide (x.op<=18)=true:=decide_eq_true (by omega);have hq:= @zhq;simp only[XX,XY,F81,yA,yB,yC,XG,hs,hl,ha,zbx,zbl,n24,d15,d18];refine cX (zo9 (x:=x) ?_ ?_ cf ho a0 a8 b0 b8 hms hcs h4) λu m' hu=>?_
  ·refine Nx.fresh (m:=m) ?_;exact(nX hm)
  ·(simp only[gB,gP];repeat(first|rw[if_neg (by omega)]|rw[if_pos trivial]|rw[if_pos (by omega)]))
  ·obtain⟨rfl,hw⟩:=hu;have n1:=hw.next;simp only[bN,nP] at n1;have h1:m'.get (m.next+1)=some (.cells zN true 0):=by
    rw[hw.old _ nO (by omega)]
    (simp only[gB,gP];repeat(first|rw[if_neg (by omega)]|rw[if_pos trivial]|rw[if_pos (by omega)]))
   have h0:m'.get m.next=some (.cells (ofL (zbm c)) true 0):=by
    rw[hw.old _ nO (by omega)]
    (simp only[gB,gP];repeat(first|rw[if_neg (by omega)]|rw[if_pos trivial]|rw[if_pos (by omega)]))
   obtain⟨cs',g1,g2⟩:=hw.cell;have n2:m.next<=m'.next:=by omega
   have hfin:∀y,y<m.next->m'.get y=m.get y:=λy hy=>by
    rw[hw.old y nO (by omega)];simp only[gB,gP]
    repeat rw[if_neg (by omega)]
   simp only[XX,XY,F81,yA,yB,yC,n2,h1,h0,hs,hl,ha];refine tP zcd λy hy=>?_;simp only[gB,gP];rw[if_neg (by omega),hfin y hy]
end
section
variable{x:Ins}{w:BitVec 32}
theorem zEW{k:Nat}(hk:k<30):max (fmA k) 0<=7∧max (fmB k) 0<=7∧(25<=k->max (fmA k) 0<=1∧max (fmB k) 0<=6)∧(k=27∨k=28->max (fmB k) 0<=1):=by rcases k with _|_|_|_|_|_|_|_|_|_|_|_|_|_|_|_|_|_|_|_|_|_|_|_|_|_|_|_|_|_|k<;>first|omega|(simp[fmA,fmB,ztA]<;>omega)
theorem zom(h:zc6 w=some x):0<=x.op∧x.op<30∧0<=x.a∧x.a<8∧0<=x.b∧x.b<8∧(25<=x.op->x.a<2∧x.b<7)∧(x.op=27∨x.op=28->x.b<2):=by
 unfold zc6 at h;split at h
 ·rename_i hc;have hx:zyw w=x:=by simpa using h
  rw[hx] at hc;unfold zfs at hc;simp only[bT,decide_eq_true_eq] at hc;obtain⟨⟨⟨h1,_⟩,h2⟩,h3⟩:=hc;have o0:0<=x.op:=by rw[<-hx];exact Int.natCast_nonneg _
  have a0:0<=x.a:=by rw[<-hx];exact Int.natCast_nonneg _
  have b0:0<=x.b:=by rw[<-hx];exact Int.natCast_nonneg _
  obtain⟨f1,f2,f3,f4⟩:=zEW (k:=x.op.toNat) (by omega);refine⟨o0,h1,a0,by omega,b0,by omega,λe=>?_,λe=>?_⟩
  ·have:=f3 (by omega);omega
  ·have:=f4 (by omega);omega
 ·cases h
end
section
variable{m m' M mr:Mem}{n:Nat}{L L' L1 L2:Loc}{X X' X1 X2 Y W:St}{v:Value}{fl:List Value}{pid:Int}
def K1(m m':Mem):Prop:=∀y c,m.get y=some (.cells c true 1)->m'.get y=some (.cells c true 1)
theorem K1.refl:K1 m m:=λ_ _ e=>e
theorem K1.bump{j:Nat}(h:K1 m M):K1 m (M.bump j):=λy c e=>h y c e
theorem K1.put{b:Nat}{o:zaS}(h:K1 m M)(hb:∀c,m.get b≠some (.cells c true 1)):K1 m (M.put b o):=λy c e=>by rw[gP,if_neg (λe2=>hb c (by rw[<-e2];exact e))];exact h y c e
theorem FAt.not1(h:FAt m L X){y b:Nat}{c:Cells}(hb:b∈L.ids)(e:m.get y=some (.cells c true 1)):y≠b:=λe2=>by obtain⟨cs,h1⟩:=h.cell0 hb;rw[e2,h1] at e;cases e
theorem zC6(h:FAt m L X)(hmF:zad m){i:Nat}(hi:i<X.P.length)(hs:X.seen.length<100000){kind call:Int}{v:BitVec 32}:
  ∃u m',Con EE.P 80 [PT (L.p i),In kind,In call,Um v] m u m'∧(∃L',FAt m' L' (zfR X i kind call v)∧Lx m.next L L'∧Fd L.D m m')∧K1 m m':=by
 refine Con.raw zai zHX (bA rfl) _ ?_;obtain⟨cs,h1,h2⟩:=h.pr i hi;obtain⟨cf,f1,f2⟩:=h.fl;have b1:∀(x y z:Int) (w:BitVec 32),zaT EE.P 113 [(0,In x),(1,In y),(2,In z),(3,Um w)]=some (.agg [In x,In y,In z,Um w].toArray):=λx y z w=>by kernel_rfl
 have b2:∀(x y z:Int) (w:BitVec 32),bsV EE.P 53 1 [(0, .agg [In x,In y,In z,Um w].toArray)]=some ([In x,In y,In z,Um w],4):=λx y z w=>by kernel_rfl
 have hlt:=h.lt _ (h.dm _ h.mf);have hm64:=hmF.n64;have hlp:=h.lt _ (h.dm _ (h.mp hi));have ne1:∀j,¬L.f=m.next+j:=λj=>by omega
 have ne2:∀j,¬L.p i=m.next+j:=λj=>by omega
 simp only[XX,XY,F80,yA,yB,yC,h1,h2.f,h2.pid,f1,f2.sv,b1,b2];have h':FAt ((m.put (m.next+19) (zaS.cells (ofL [In (X.p i).pid,In kind,In call,Um v]) true 4)).bump 24) L X:=h.new'.bump _;refine zd3 (k:=1) (new:=[In (X.p i).pid,In kind,In call,Um v]) zHT h'.ss (zej rfl) (by decide) rfl rfl (.inl rfl) (by omega) λv' M' hA=>?_;have n1:=hA.next;simp only[bN,nP] at n1;have hold:∀y,y<m.next->slB L.sv≠some y->M'.get y=m.get y:=λy hy hs=>by rw[hA.old y (by omega) hs,gB,gP,if_neg (by omega)]
 have k1:M'.get (L.p i)=some (.cells cs true 0):=by rw[hold _ hlp (h.ss.ne0 (by decide) h1)];exact h1
 have k2:M'.get L.f=some (.cells cf true 0):=by rw[hold _ hlt (h.ss.ne0 (by decide) f1)];exact f1
 have k3:12+1<=cf.n:=by rw[f2.n];decide
 have k4:EE.eqv (PT L.f) (PT L.f)=true:=zq1;obtain⟨bs,cs',cb,rfl,_⟩:=hA.sl.cons (by omega);simp only[XX,XY,F80,yA,yB,yC,h1,h2.f,k1,k2,k3,k4,ne2];have hsl:SlV M' 4 (.slice (some ⟨bs,0,none⟩) (X.seen.length+1) cs') (X.seen++ [⟨(X.p i).pid,kind,call,v⟩]:List zk2).length ((X.seen++ [⟨(X.p i).pid,kind,call,v⟩]:List zk2).flatMap zpm):=by rw[aL,List.flatMap_append];exact hA.sl
 have hres:=h.set_sv (M:=M') (id:=m.next+20) f1 f2 (by omega) ⟨by omega,by omega⟩ hm64 hold hsl (by
  rcases hA.blk with⟨e,_⟩|e
  ·exact .inl e
  ·exact .inr (.inl e))
 have hz:∀y,y≠m.next+20->((m.put (m.next+19) (zaS.cells (ofL [In (X.p i).pid,In kind,In call,Um v]) true 4)).bump 24).get y=none->M'.get y=none:=hA.low;have hF:Fd L.D m (M'.put L.f (.cells (cf.write 12 [.slice (some ⟨bs,0,none⟩) (X.seen.length+1) cs']) true 0)):=by
  refine⟨by rw[nP];omega,zad.of_low nO (λy hy=>?_),λy hy hD=>?_,λy hy e=>?_⟩
  ·rw[nP] at hy;rw[gP,if_neg (by omega)];exact hz y (by omega) (by rw[gB,gP,if_neg (by omega)];exact hmF.none y (by omega))
  ·rw[gP,if_neg (λe=>hD (by rw[e];exact h.dm _ h.mf)),hold y hy (λe=>hD (h.ds y e))]
  ·rw[gP,if_neg (λe2=>by rw[e2,f1] at e;cases e)];exact hz y (by omega) (by rw[gB,gP,if_neg (by omega)];exact e)
 refine hF.raw ⟨⟨_,hres,⟨rfl,⟨[],by simp⟩,⟨[],by simp⟩,⟨[],by simp⟩,⟨[],by simp⟩,⟨[],by simp⟩,λy hy=>hy.imp id λe=>by omega⟩,hF⟩,λy c e=>?_⟩;have hylt:=hmF.lt e;rw[gP,if_neg (h.not1 h.mf e),hold y hylt (λes=>?_)]
 ·exact e
 ·obtain⟨c2,e2⟩:=h.ss.ob es;rw[e] at e2;cases e2
theorem zq3(h:FAt m L X)(hm:zad m)(ht:Tb m){i:Nat}(hi:i<X.P.length)(hs:X.seen.length<100000){v:BitVec 32}:
  ∃u m',Con EE.P 70 [PT (L.p i),Um v] m u m'∧Be m L (zar X i v) m'∧K1 m m':=by
 refine Con.raw zai zHz (bA rfl) _ ?_;obtain⟨cs,h1,h2⟩:=h.pr i hi;have hr:=zi9 h2;have h64:=hm.n64;simp only[XX,XY,F70,yA,yB,yC,h1,hr];refine cZ (zzi (by repeat(first|exact ht|refine Tb.bump ?_ _|refine Tb.put ?_ (by omega))) h2.okc.1) ?_;have hlp:=h.lt _ (h.dm _ (h.mp hi));have ne2:∀j,¬L.p i=m.next+j:=λj=>by omega
 have g1:(0:Int)<=0:=by decide
 have g2:(0:Int)<((8:Nat):Int):=by decide
 have t0:Int.toNat 0=0:=rfl;have hl:=zme (r:=(X.p i).cpu.r);have hall:(In (ofN (X.p i).cpu.r)::(ofA (X.p i).cpu.r).map Um).all oneCell=true:=by simp[oneCell]
 have hpc:(cs.write 5 [Um v]).nth 15=some (Um (X.p i).cpu.pc):=by rw[zaa (.inr (bA rfl)),znk h2]
 have ha:IntKind.u32.wrap (((X.p i).cpu.pc.toNat:Int)+4)=(((X.p i).cpu.pc+4#32).toNat:Int):=by rw[<-zcH];rfl
 have k1:5+1<=cs.n:=by rw[h2.n];decide
 have k2:15+1<=cs.n:=by rw[h2.n];decide
 have ne3:∀j,¬m.next+j=L.p i:=λj=>by omega
 have q0:((ofL [In 0,Um 0,Um 0,Um 0]).write 0 (In (ofN (X.p i).cpu.r)::(ofA (X.p i).cpu.r).map Um)).nth 0=some (In (ofN (X.p i).cpu.r)):=zbu (by decide);simp only[XX,XY,F70,yA,yB,yC,h1,ne2,ne3,g1,g2,t0,hl,hall,hpc,ha,k1,k2,lM];have hp1:PC L {X.p i with cpu:={(X.p i).cpu with r:=(X.p i).cpu.r.set 0 v}} (cs.write 5 [Um v]):=h2.w1_cpu (k:=0) (by decide) (zev h2.okc (by decide)) ⟨by rw[sL];exact h2.okc.1,h2.okc.2⟩;have hp2:=hp1.w1_cpu (k:=10) (x:={(X.p i).cpu with r:=(X.p i).cpu.r.set 0 v,pc:=(X.p i).cpu.pc+4#32}) (v:=Um ((X.p i).cpu.pc+4#32)) (by decide) (zdH hp1.okc) hp1.okc;refine CallI.ex2L (zC6 (L:=L) (i:=i) (X:={X with P:=X.P.set i {X.p i with cpu:={(X.p i).cpu with r:=(X.p i).cpu.r.set 0 v,pc:=(X.p i).cpu.pc+4#32}}}) (h.upd_p hi hp2 nO gA (λy hy hne=>?_)) (Pu.fd (j:=10) (Pu.own h (h.mp hi) (Pu.own h (h.mp hi) (Pu.new (Pu.new (Pu.refl hm) (by omega)) (by omega)))) hm (by omega):Fd L.D m _).fresh (by simpa using hi) hs) (by simp) λu M' ⟨hB,hK⟩=>?_
 ·have:=h.lt y hy
  (simp only[gB,gP];repeat(first|rw[if_neg (by omega)]|rw[if_pos trivial]|rw[if_pos (by omega)]))
 ·simp only[XX,yA];have hBe:Be m L (zar X i v) M':=(bE Lx.refl (Pu.fd (j:=10) (Pu.own h (h.mp hi) (Pu.own h (h.mp hi) (Pu.new (Pu.new (Pu.refl hm) (by omega)) (by omega)))) hm (by omega)) hB);refine⟨(hBe.raw (u:=undef)).1,hBe,λy c e=>hK y c ?_⟩;have hy:=hm.lt e;have hy2:¬y=L.p i:=h.not1 (h.mp hi) e;have hy3:∀j,¬y=m.next+j:=λj=>by omega
  have hy4:¬y=m.next:=by omega
  simp only[gB,gP,hy2,hy3,if_false];exact e
theorem ztz(h:FAt m L X)(hm:zad m){i:Nat}(hi:i<X.P.length)(hf:X.fut.length<100000):∃u m',Con EE.P 71 [PT (L.p i)] m u m'∧Be m L (zaI X i) m'∧K1 m m':=by
 refine Con.raw zai zHC (bA rfl) _ ?_;obtain⟨cs,h1,h2⟩:=h.pr i hi;have hlp:=h.ids_lt (h.mp hi);have ne1:∀j,¬L.p i=m.next+j:=λj=>by omega
 have ne2:∀j,¬m.next+j=L.p i:=λj=>by omega
 have ne10:¬L.p i=m.next:=by omega
 have ne20:¬m.next=L.p i:=by omega
 have b0:zaT EE.P 77 []=some (.agg [.pointer none, .pointer none,Um 0#32].toArray):=kr;have k1:46+1<=cs.n:=by rw[h2.n];decide
 have k2:47+1<=cs.n:=by rw[h2.n];decide
 have k3:48+3<=cs.n:=by rw[h2.n];decide
 have k4:51+1<=cs.n:=by rw[h2.n];decide
 have hq:= @zq1;have hp:PC L (zfG (X.p i)) ((((cs.write 46 [In 0]).write 47 [.pointer none]).write 48 [.pointer none, .pointer none,Um 0#32]).write 51 [.int .u32 0]):=by have p1:=h2.w_wait (x:=0);have p2:=p1.w_pipe (x:=none);have p3:=p2.w_fut (x:=⟨none,none,0#32⟩) rfl;exact p3.w_left (x:=0#32)
 obtain⟨cf,f1,f2⟩:=h.fl;have hlf:=h.ids_lt h.mf;have hfp:=h.f_p hi;have ne3:∀j,¬L.f=m.next+j:=λj=>by omega
 have ne30:¬L.f=m.next:=by omega
 have hpf:=hp.f;have hkp:∀c,m.get (L.p i)≠some (.cells c true 1):=λc e=>by rw[h1] at e;cases e
 have hkn:∀c,m.get m.next≠some (.cells c true 1):=λc e=>by rw[hm.none m.next (lR' _)] at e;cases e
 simp only[XX,XY,F71,yA,yB,yC,h1,ne10,ne20,b0,k1,k2,k3,k4,hq,hpf,ne30,hfp,f1,f2.fv];refine CallI.at (R:=λM=>FAt M L {X with P:=X.P.set i (zfG (X.p i))}∧Fd L.D m M∧M.get m.next=some (.cells (ofL [PT (L.p i)]) true 0)∧m.next<M.next∧K1 m M) ⟨h.upd_p hi hp nO gA (λy hy hne=>(by have:=h.lt y hy;(simp only[gB,gP];repeat(first|rw[if_neg (by omega)]|rw[if_pos trivial]|rw[if_pos (by omega)])))),Pu.fd (j:=1) (Pu.own h (h.mp hi) (Pu.own h (h.mp hi) (Pu.own h (h.mp hi) (Pu.own h (h.mp hi) (Pu.new (Pu.refl hm) (by omega)))))) hm (by omega),gA,nO,by repeat(first|exact K1.refl|refine K1.bump ?_|exact K1.put (K1.refl) hkn|refine K1.put ?_ hkp)⟩ λM ⟨hA,hF,hbx,hlt,hK⟩=>?_;have hall:(X.fut.map λi=>PT (L.p i)).all oneCell=true:=by simp[oneCell]
 refine cX (zgE hF.fresh hA.fs hall (by simpa using hf)) λcv M1 hC=>?_;have n1:=hC.nx.next;have hA1:=hA.nx hC.nx;have hbx1:=hC.nx.keep hF.fresh hbx;obtain⟨c1,g1,g2⟩:=hA1.pr i (by simpa using hi);obtain⟨cf1,e1,e2⟩:=hA1.fl;have n0:=hF.next;have n01:m.next<=M1.next:=lT n0 n1;simp only[XX,XY,F71,yA,yB];refine CallI.ex2L (zrj (p:=λk=>decide (X.fut.getD k 0=i)) (g:=105) (cap:=[PT m.next]) hC (λx hx=>?_) (by simp;omega) kr λk M' hk hle ho=>?_) (by simp) λdv M2 hD=>?_
 ·obtain⟨j,_,e⟩:=List.mem_map.1 hx;exact⟨_,e.symm⟩
 ·have hkl:k<X.fut.length:=by simpa using hk
  have e:(X.fut.map λi=>PT (L.p i)).getD k undef=PT (L.p (X.fut.getD k 0)):=by rw[gD',gM',gD',gE' hkl];rfl
  have hA':FAt M' L {X with P:=X.P.set i (zfG (X.p i))}:=hA.keep hle λy hy=>ho y (hA.lt y hy);show Con EE.P 105 ((X.fut.map λi=>PT (L.p i)).getD k undef::[PT m.next]) M' _ M';rw[e];exact zln hA' (by simpa using hi) (by simpa using h.pf _ (zax hkl)) ((ho _ hlt).trans hbx)
 ·obtain⟨hN,n2,_⟩:=hD;have hM2:∀y,y<M.next->M2.get y=M.get y:=hN.nx.old;have l1:L.p i<M.next:=hA.ids_lt (hA.mp (by simpa using hi));have l2:L.f<M.next:=hA.ids_lt hA.mf;obtain⟨c0,q1,q1'⟩:=hA.pr i (by simpa using hi);obtain⟨cf0,q2,q2'⟩:=hA.fl;have r1:=(hM2 _ l1).trans q1;have r2:=(hM2 _ l2).trans q2;have r3:=(hM2 _ hlt).trans hbx;have s1:=(hC.nx.old _ l1).trans q1;have s2:=(hC.nx.old _ l2).trans q2;have k5:6+1<=cf0.n:=by rw[q2'.n];decide
  have n02:m.next<=M2.next:=by omega
  have qf:=q1'.f;have hkl:za3 (λk=>decide (X.fut.getD k 0=i)) (X.fut.map λi=>PT (L.p i)) X.fut.length=(X.fut.filter λj=>!decide (j=i)).map λi=>PT (L.p i):=znK;have hsl:=hN.sl;rw[hkl,lM] at hsl;have hres:=hA.set_fv (M:=M2) (v':=dv) (S:=X.fut.filter λj=>!decide (j=i)) q2 q2' (lT n1 n2) (λy hy=>⟨hN.new y hy,hN.sl.lt hN.nx.fresh hy⟩) hF.fresh.n64 hM2 hsl λj hj=>by simpa using h.pf j (List.mem_filter.1 hj).1
  have hF2:Fd L.D m (M2.put L.f (.cells (cf0.write 6 [dv]) true 0)):=(hF.trans (Fd.of_nx (D:=L.D) hN.nx) λy hy=> .inl hy).put (.inl (h.dm _ h.mf)) h.lt (.inl (by rw[r2];simp));have hfin:zcY m (M2.put L.f (.cells (cf0.write 6 [dv]) true 0)) (.tuple #[]) λ_ m'=>Be m L (zaI X i) m'∧K1 m m':=
   hF2.raw ⟨⟨_,hres,⟨rfl,⟨[],by simp⟩,⟨[],by simp⟩,⟨[],by simp⟩,⟨[],by simp⟩,⟨[],by simp⟩,λy hy=>hy.imp id λe=>lT n0 (hN.new y e)⟩,hF2⟩,λy c e=>by have e2:=hK y c e;rw[gP,if_neg (hA.not1 hA.mf e2),hM2 y (hF.fresh.lt e2)];exact e2⟩
  rcases hN.sl.at_ with⟨_,rfl⟩|⟨b,c,cs,rfl,_⟩
  ·simp only[XX,XY,F71,yA,yB,yC,ne10,ne20,hpf,r1,r2,r3,s1,hbx1,qf,hq,k5];exact hfin
  ·simp only[XX,XY,F71,yA,yB,yC,ne10,ne20,hpf,r1,r2,r3,s1,hbx1,qf,hq,k5];exact hfin
abbrev zH1:Fut:=⟨none,none,0#32⟩
def zet(X:St)(i:Nat)(a:BitVec 32):Option Fut:=if(zdt X i a).isSome=true∧a % 4#32=0#32 then match atX (X.p i) a with
 |some g=>some (if(X.g g).shared=true then⟨some (X.g g).c,none,BitVec.ofNat 32 (a.toNat % 64)⟩ else⟨none,some i,a⟩)
 |none=>none
 else none
def plV(L:Loc)(o:Option Fut):Value:= .tuple [.agg (zhS L (o.getD zH1)).toArray, .bool o.isSome].toArray
theorem zse{i:Nat}{a:BitVec 32}:∀{k:Nat} {l:List (BitVec 8)},zdE X i a (k+1)=some l->∃g,atX (X.p i) a=some g
 |0,l,h=>by
  unfold zdE at h;split at h
  ·cases h
  ·split at h
   ·cases h
   ·rename_i b hb;unfold zhX at hb;rw[show a+BitVec.ofNat 32 0=a by simp] at hb;cases hg:atX (X.p i) a with
    |none=>rw[hg] at hb;cases hb
    |some g=>exact⟨g,rfl⟩
 |k+1,l,h=>by
  unfold zdE at h;split at h
  ·cases h
  ·rename_i l0 h0;exact zse h0
theorem zxX{i:Nat}{a:BitVec 32}(h:(zdt X i a).isSome=true):∃g,atX (X.p i) a=some g:=by
 unfold zdt at h;cases hr:zdE X i a 4 with
 |none=>rw[hr] at h;cases h
 |some l=>exact zse hr
theorem Nx.grow'(h:Nx m m'):Grow m m':=⟨h.next,λy hy e=>by rw[h.old y hy,e]⟩
theorem zed{p q r x y z:Value}:(ofL [p,q,r]).write 0 [x,y,z]=ofL [x,y,z]:=rfl
theorem ztR(h:FAt m L X)(hm:zad m)(hg:GX X){i:Nat}(hi:i<X.P.length){a:BitVec 32}:∃u m',Con EE.P 187 [PT (L.p i),Um a] m u m'∧u=plV L (zet X i a)∧Nx m m':=by
 refine Con.raw zai zFl (bA rfl) _ ?_;have h64:=hm.n64;have b0:zaT EE.P 77 []=some (.agg [.pointer none, .pointer none,Um 0#32].toArray):=kr;have b1:∀b (w:BitVec 32),zaT EE.P 77 [(0,PT b),(2,Um w)]=some (.agg [PT b, .pointer none,Um w].toArray):=λb w=>by kernel_rfl
 have b2:∀b (w:BitVec 32),zaT EE.P 77 [(1,PT b),(2,Um w)]=some (.agg [.pointer none,PT b,Um w].toArray):=λb w=>by kernel_rfl
 have hN1:∀(o1 o2:zaS) (k:Nat),1<=k->Nx m (((m.put m.next o1).put m.next o2).bump k):=λo1 o2 k hk=>⟨by(try simp only[bN,nP]);omega,zad.of_low (by have:=hm.n64;(try simp only[bN,nP]);omega) (by repeat(first|exact Low.of hm nO|refine Low.put ?_ nO|refine Low.bump ?_)),λy hy=>by simp only[gB,gP,zb3 hy,if_false]⟩;simp only[XX,XY,zwW,yA,yB,yC];refine cZ (zmu ((h.new' (j:=0)).bump _) hg hi) ?_;cases hw:zdt X i a with
 |none=>simp only[XX,XY,zwW,yA,yB,yC,wdV,b0,Option.isSome_none,Option.getD_none,zed];exact⟨Nx.grow' (hN1 _ _ _ (by omega)),by unfold zet;rw[hw,if_neg (by simp)];rfl,hN1 _ _ _ (by omega)⟩
 |some w=>
  obtain⟨g,hgx⟩:=zxX (X:=X) (i:=i) (a:=a) (by rw[hw];rfl);by_cases h4:a % 4#32=0#32
  ·have d4:decide (((a % 4#32).toNat:Int)=0)=true:=by rw[eq0];exact decide_eq_true h4
   simp only[XX,XY,zwW,yA,yB,yC,wdV,zwq,d4];refine CallI.con (zqe ((h.new' (j:=0)).bump _) hg hi) (by simp) ?_;rw[hgx];have hgl:=ziv hg hi hgx;obtain⟨cg,g1,g2⟩:=h.pg g hgl;have hlg:=h.ids_lt (h.mg hgl);have neg1:¬L.g g=m.next:=by omega
   cases hsh:(X.g g).shared with
   |true=>
    have g3:=g2.shared;rw[hsh] at g3;simp only[XX,XY,zwW,yA,yB,yC,g1,g3,zc9,neg1];refine CallI.con (zqe ((h.new' (j:=0)).bump _) hg hi) (by simp) ?_;rw[hgx];have e6:((a.toNat % 64:Nat):Int)=((BitVec.ofNat 32 (a.toNat % 64)).toNat:Int):=by rw[BitVec.toNat_ofNat];omega
    have hb6:=b1 (L.c (X.g g).c) (BitVec.ofNat 32 (a.toNat % 64));have e7:(.int .u32 ((a.toNat % 64:Nat):Int):Value)=Um (BitVec.ofNat 32 (a.toNat % 64)):=by rw[e6]
    simp only[XX,XY,zwW,yA,yB,yC,zed,g1,g2.c,zc9,neg1,zez,e7,hb6];exact⟨Nx.grow' (hN1 _ _ _ (by omega)),by unfold zet;rw[hw,if_pos ⟨rfl,h4⟩,hgx];simp only[hsh,if_true];rfl,hN1 _ _ _ (by omega)⟩
   |false=>have g3:=g2.shared;rw[hsh] at g3;simp only[XX,XY,zwW,yA,yB,yC,zed,g1,g3,zc9,neg1,b2];exact⟨Nx.grow' (hN1 _ _ _ (by omega)),by unfold zet;rw[hw,if_pos ⟨rfl,h4⟩,hgx];simp only[hsh,bF,if_false];rfl,hN1 _ _ _ (by omega)⟩
  ·have d4:decide (((a % 4#32).toNat:Int)=0)=false:=by rw[eq0];exact decide_eq_false h4
   simp only[XX,XY,zwW,yA,yB,yC,wdV,b0,zed,zwq,d4];exact⟨Nx.grow' (hN1 _ _ _ (by omega)),by unfold zet;rw[hw,if_neg (λe=>h4 e.2)];rfl,hN1 _ _ _ (by omega)⟩
end
section
variable{m m' M mr:Mem}{n:Nat}{L L' L1 L2:Loc}{X X' X1 X2 Y W:St}{v:Value}{fl:List Value}{pid:Int}
def zrW(a b:Fut):Bool:=decide (a.c=b.c)&&(decide (a.p=b.p)&&decide (a.a=b.a))
def futS(w:Fut)(n:BitVec 32)(Z:St×BitVec 32)(j:Nat):St×BitVec 32:=if zrW (Z.1.p j).fut w=true∧Z.2.toNat<n.toNat then(zaI (zar Z.1 j 0#32) j,Z.2+1#32) else Z
def futI(w:Fut)(n:BitVec 32)(l:List Nat)(Z:St×BitVec 32):St×BitVec 32:=l.foldl (futS w n) Z
def futW(X:St)(i:Nat)(w:Fut):St:={X with P:=X.P.set i {X.p i with wait:=4,fut:=w},fut:=X.fut++ [i]}
def zit(X:St)(i:Nat)(n:Int)(a0 a1:BitVec 32):Option Fut->St
 |none=>zaZ X i 14
 |some w=>if n=15 then if(zdt X i a0).getD 0#32=a1 then futW X i w else zaZ X i 11
  else zar (futI w a1 X.fut (X,0#32)).1 i (futI w a1 X.fut (X,0#32)).2
def zhi(X:St)(i:Nat)(n:Int)(a0 a1:BitVec 32):St:=zit X i n a0 a1 (zet X i a0)
theorem zsc{P:Program}{ty e k:Nat}(hu:P.underlying ty=some (.pointer e))(hz:zbc P e=some (k+1)){a b:Option Nat}(ha:∀x,a=some x->∃cs sz,m.get x=some (.cells cs true sz))(hb:∀x,b=some x->∃cs sz,m.get x=some (.cells cs true sz)):eq1 P ty (pV a) (pV b) m=some (decide (a=b)):=by
 unfold eq1;cases a with
 |none=>cases b with
  |none=>simp[pV,hu]
  |some y=>simp[pV,hu]
 |some x=>cases b with
  |none=>simp[pV,hu]
  |some y=>
   obtain⟨c1,z1,h1⟩:=ha x rfl;obtain⟨c2,z2,h2⟩:=hb y rfl;by_cases e:x=y
   ·subst e;simp[pV,hu,hz]
   ·simp[pV,hu,hz,e,h1,h2]
theorem zxU{P:Program}{ty:Nat}{k:IntKind}(hu:P.underlying ty=some (.int k)){a b:BitVec 32}:eq1 P ty (Um a) (Um b) m=some (decide (a=b)):=by unfold eq1;simp only[hu,if_true,sI];rw[Bool.eq_iff_iff];simp only[beq_iff_eq,decide_eq_true_eq,Int.natCast_inj];exact⟨λe=>BitVec.eq_of_toNat_eq e,λe=>by rw[e]⟩
theorem zx6:(match EE.P.underlying 77 with|some (.struct fs)=>fs.toList.map (λf=>(f.name== "_",f.type,f.offset))|_=> [])=[(false,75,0),(false,70,1),(false,36,2)]:=kr
theorem zzo:∃fs:Array Field,∃f0 f1 f2:Field,EE.P.underlying 77=some (.struct fs)∧fs.toList=[f0,f1,f2]∧f0.name≠ "_" ∧f1.name≠ "_" ∧f2.name≠ "_" ∧f0.type=75∧f1.type=70∧f2.type=36∧f0.offset=0∧f1.offset=1∧f2.offset=2:=by
 have h:=zx6;split at h
 ·rename_i fs hu;refine⟨fs,?_⟩
  match hl:fs.toList with
  |[f0,f1,f2]=>rw[hl] at h;simp only[List.map_cons,List.map_nil,List.cons.injEq,pI,and_true,beq_eq_false_iff_ne] at h;obtain⟨⟨a0,a1,a2⟩,⟨b0,b1,b2⟩,c0,c1,c2⟩:=h;exact⟨f0,f1,f2,hu,rfl,a0,b0,c0,a1,b1,c1,a2,b2,c2⟩
  |[]=>rw[hl] at h;cases h
  |[_]=>rw[hl] at h;simp at h
  |[_,_]=>rw[hl] at h;simp at h
  |_::_::_::_::_=>rw[hl] at h;simp at h
 ·cases h
theorem zz2:(match EE.P.underlying 75 with|some (.pointer e)=>zbc EE.P e|_=>none)=some 65:=kr
theorem zzx:∃e,EE.P.underlying 75=some (.pointer e)∧zbc EE.P e=some 65:=by
 have h:=zz2;split at h
 ·rename_i e hu;exact⟨e,hu,h⟩
 ·cases h
theorem zIN{P:Program}{f0 f1 f2:Field}{x0 x1 x2 y0 y1 y2:Value}{b0 b1 b2:Bool}(n0:f0.name≠ "_")(n1:f1.name≠ "_")(n2:f2.name≠ "_")(o0:f0.offset=0)(o1:f1.offset=1)(o2:f2.offset=2)(e0:eq1 P f0.type x0 y0 m=some b0)(e1:eq1 P f1.type x1 y1 m=some b1)(e2:eq1 P f2.type x2 y2 m=some b2):eqF P [x0,x1,x2] [y0,y1,y2] m [f0,f1,f2]=some (b0&&(b1&&(b2&&true))):=by simp[eqF,n0,n1,n2,o0,o1,o2,e0,e1,e2]
theorem zzm:(EE.P.stoodInHeld 77||EE.P.eqGuardType EE.P.depth 77)=false:=kr
theorem zws{L:Loc}{x:Fut}:plain (.agg (zhS L x).toArray)=(x.c.isNone&&x.p.isNone):=by obtain⟨c,p,a⟩:=x;cases c<;>cases p<;>rfl
theorem zAY(h:FAt m L X){a b:Fut}{x y:Operand}(ac:∀q,a.c=some q->q<X.C.length)(ap:∀q,a.p=some q->q<X.P.length)(bc:∀q,b.c=some q->q<X.C.length)(bp:∀q,b.p=some q->q<X.P.length)(hb:b.c≠none∨b.p≠none):eqA EE.P .eql 77 x y (.agg (zhS L a).toArray) (.agg (zhS L b).toArray) m=some (.bool (zrW a b)):=by
 have hnp:(plain (.agg (zhS L a).toArray)&&plain (.agg (zhS L b).toArray))=false:=by
  rw[zws,zws];rcases hb with hb|hb
  ·cases hq:b.c with
   |none=>exact absurd hq hb
   |some q=>simp
  ·cases hq:b.p with
   |none=>exact absurd hq hb
   |some q=>simp
 obtain⟨fs,f0,f1,f2,hu,hfs,n0,n1,n2,t0,t1,t2,o0,o1,o2⟩:=zzo;obtain⟨e75,u75,z75⟩:=zzx;have gc:∀q,q<X.C.length->∃cs sz,m.get (L.c q)=some (.cells cs true sz):=λq hq=>by obtain⟨cs,e⟩:=h.cell0 (h.mc hq);exact⟨cs,0,e⟩
 have gp:∀q,q<X.P.length->∃cs sz,m.get (L.p q)=some (.cells cs true sz):=λq hq=>by obtain⟨cs,e⟩:=h.cell0 (h.mp hq);exact⟨cs,0,e⟩
 have q0:eq1 EE.P f0.type (pV (a.c.map L.c)) (pV (b.c.map L.c)) m=some (decide (a.c.map L.c=b.c.map L.c)):=by
  rw[t0];exact zsc (k:=64) u75 z75 (λx hx=>by
   cases ha:a.c with
   |none=>rw[ha] at hx;cases hx
   |some q=>rw[ha] at hx;cases hx;exact gc q (ac q ha)) (λx hx=>by
   cases ha:b.c with
   |none=>rw[ha] at hx;cases hx
   |some q=>rw[ha] at hx;cases hx;exact gc q (bc q ha))
 have q1:eq1 EE.P f1.type (pV (a.p.map L.p)) (pV (b.p.map L.p)) m=some (decide (a.p.map L.p=b.p.map L.p)):=by
  rw[t1];exact zsc (k:=124) zew kr (λx hx=>by
   cases ha:a.p with
   |none=>rw[ha] at hx;cases hx
   |some q=>rw[ha] at hx;cases hx;exact gp q (ap q ha)) (λx hx=>by
   cases ha:b.p with
   |none=>rw[ha] at hx;cases hx
   |some q=>rw[ha] at hx;cases hx;exact gp q (bp q ha))
 have q2:eq1 EE.P f2.type (Um a.a) (Um b.a) m=some (decide (a.a=b.a)):=by rw[t2];exact zxU (k:= .u32) kr
 have hF:=zIN n0 n1 n2 o0 o1 o2 q0 q1 q2;have d0:decide (a.c.map L.c=b.c.map L.c)=decide (a.c=b.c):=by
  rw[Bool.eq_iff_iff];simp only[decide_eq_true_eq];refine⟨λe=>?_,λe=>by rw[e]⟩;cases h1:a.c with
  |none=>rw[h1] at e;cases h2:b.c with
   |none=>rfl
   |some q=>rw[h2] at e;cases e
  |some p=>rw[h1] at e;cases h2:b.c with
   |none=>rw[h2] at e;cases e
   |some q=>rw[h2] at e;exact congrArg some (h.ij_c (ac p h1) (bc q h2) (Option.some.inj e))
 have d1:decide (a.p.map L.p=b.p.map L.p)=decide (a.p=b.p):=by
  rw[Bool.eq_iff_iff];simp only[decide_eq_true_eq];refine⟨λe=>?_,λe=>by rw[e]⟩;cases h1:a.p with
  |none=>rw[h1] at e;cases h2:b.p with
   |none=>rfl
   |some q=>rw[h2] at e;cases e
  |some p=>rw[h1] at e;cases h2:b.p with
   |none=>rw[h2] at e;cases e
   |some q=>rw[h2] at e;exact congrArg some (h.ij_p (ap p h1) (bp q h2) (Option.some.inj e))
 unfold eqA;simp only[hnp,bF,if_false,hu,zzm];rw[hfs];show(eqF EE.P [pV (a.c.map L.c),pV (a.p.map L.p),Um a.a] [pV (b.c.map L.c),pV (b.p.map L.p),Um b.a] m [f0,f1,f2]).bind _=_;rw[hF,d0,d1,Bool.and_true];rfl
theorem zk1(hg:GX X){i:Nat}(hi:i<X.P.length){a:BitVec 32}{w:Fut}(h:zet X i a=some w):(∀q,w.c=some q->q<X.C.length)∧(∀q,w.p=some q->q<X.P.length)∧(w.c≠none∨w.p≠none):=by
 unfold zet at h;split at h
 ·split at h
  ·rename_i g hga;have hgl:=ziv hg hi hga;have hcl:=hg.gc g hgl;cases hs:(X.g g).shared with
   |true=>rw[hs] at h;simp only[if_true,sI] at h;subst h;exact⟨λq hq=>by cases hq;exact hcl,λq hq=>by(cases hq), .inl (by simp)⟩
   |false=>rw[hs] at h;simp only[bF,if_false,sI] at h;subst h;exact⟨λq hq=>by(cases hq),λq hq=>by cases hq;exact hi, .inr (by simp)⟩
  ·cases h
 ·cases h
end
section
variable{X Y Z W:St}{i j k:Nat}
structure Sx(a b:Nat)(X Y:St):Prop where
 sh:Sh b X Y
 fl:Y.fut.length<=X.fut.length+a
theorem Sx.of(h:Sh k X Y):Sx k k X Y:=⟨h,h.fut⟩
theorem Sx.refl(h:GX X):Sx 0 0 X X:= .of (Sh.refl h)
theorem Sx.trans{a b c d:Nat}(h:Sx a b X Y)(g:Sx c d Y Z):Sx (a+c) (b+d) X Z:=⟨h.sh.trans g.sh,by have:=h.fl;have:=g.fl;omega⟩
theorem Sx.up{a b c d:Nat}(h:Sx a b X Y)(e:a<=c)(e2:b<=d):Sx c d X Y:=⟨h.sh.up e2,by have:=h.fl;omega⟩
theorem Sx.answer(h:GX X)(hi:i<X.P.length){v:BitVec 32}:Sx 0 1 X (zar X i v):=⟨Sh.answer h hi,lR' _⟩
theorem Sx.code(h:GX X)(hi:i<X.P.length){c:Int}:Sx 0 1 X (zaZ X i c):=Sx.answer h hi
theorem Sx.see(h:GX X){a b:Int}{v:BitVec 32}:Sx 0 1 X (zfR X i a b v):=⟨Sh.see h,lR' _⟩
theorem Sx.ready(h:GX X)(hi:i<X.P.length):Sx 0 0 X (zaI X i):=⟨Sh.ready h hi,List.length_filter_le _ _⟩
theorem Sx.set_p(h:GX X){r:zb9}(hr:PX X r):Sx 0 0 X {X with P:=X.P.set i r}:= .of (Sh.set_p h hr)
theorem Lk.answer(h:Lk X){v:BitVec 32}:Lk (zar X i v):=λj hj=>by show j<(X.P.set _ _).length;rw[sL];exact h j hj
theorem Sx.futS{w:Fut}{n:BitVec 32}{Z:St×BitVec 32}(h:GX Z.1)(hj:j<Z.1.P.length):Sx 0 1 Z.1 (futS w n Z j).1∧(futS w n Z j).1.P.length=Z.1.P.length∧(futS w n Z j).1.l=Z.1.l:=by
 unfold Go.Ab.futS;split
 ·have h1:=Sx.answer (v:=0#32) h hj;exact⟨h1.trans (Sx.ready h1.sh.gx (lL hj h1.sh.P)),by simp[zaI,zar,zfR],rfl⟩
 ·exact⟨(Sx.refl h).up (lR' _) (by decide),rfl,rfl⟩
theorem Sx.futI{w:Fut}{n:BitVec 32}:∀{l:List Nat} {Z:St×BitVec 32},GX Z.1->(∀j∈l,j<Z.1.P.length)->Sx 0 l.length Z.1 (futI w n l Z).1∧(futI w n l Z).1.P.length=Z.1.P.length∧(futI w n l Z).1.l=Z.1.l
 |[],Z,h,_=>⟨Sx.refl h,rfl,rfl⟩
 |j::l,Z,h,hl=>by obtain⟨a1,a2,a3⟩:=Sx.futS (w:=w) (n:=n) h (hl j List.mem_cons_self);obtain⟨b1,b2,b3⟩:=Sx.futI (w:=w) (n:=n) (l:=l) a1.sh.gx (λk hk=>by rw[a2];exact hl k (List.mem_cons_of_mem _ hk));exact⟨(a1.trans b1).up (lR' _) (by simp;omega),b2.trans a2,b3.trans a3⟩
end
section
variable{m m' M mr:Mem}{n:Nat}{L L' L1 L2:Loc}{X X' X1 X2 Y W:St}{v:Value}{fl:List Value}{pid:Int}
theorem Nx.putN(h:Nx m M){b:Nat}{o:zaS}(h1:m.next<=b)(h2:b<M.next):Nx m (M.put b o):=⟨by rw[nP];exact h.next,h.fresh.put h2,λy hy=>by rw[gP,if_neg (by omega)];exact h.old y hy⟩
theorem zrn{w:Fut}{a:BitVec 32}{Z:St×BitVec 32}{l:List Nat}{k:Nat}(hk:k<l.length):futI w a (l.take (k+1)) Z=futS w a (futI w a (l.take k) Z) (l.getD k 0):=by unfold futI;rw[List.take_add_one,List.foldl_append,gD',gE' hk];rfl
theorem zFR{a:BitVec 32}:IntKind.u32.wrap ((a.toNat:Int)+1)=((a+1#32).toNat:Int):=zcH (b:=1#32)
theorem zgN{i:Nat}{n:Int}{a0 a1:BitVec 32}{w:Fut}:zit X i n a0 a1 (some w)=if n=15 then if(zdt X i a0).getD 0#32=a1 then futW X i w else zaZ X i 11 else zar (futI w a1 X.fut (X,0#32)).1 i (futI w a1 X.fut (X,0#32)).2:=rfl
theorem zzB{x:Fut}:(zhS L x).length=3:=rfl
theorem zxP{x:Fut}:(zhS L x).all oneCell=true:=by obtain⟨c,p,a⟩:=x;cases c<;>cases p<;>rfl
theorem zsl{x:Fut}:EE.eqv (.agg (zhS L x).toArray) (.agg (zhS L x).toArray)=true:=zCS λv hv=>by
 obtain⟨c,p,a⟩:=x;rcases List.mem_cons.1 hv with rfl|hv
 ·cases c<;>simp[pV,zgZ,vEq,zlo]
 ·rcases List.mem_cons.1 hv with rfl|hv
  ·cases p<;>simp[pV,zgZ,vEq,zlo]
  ·rw[List.mem_singleton.1 hv];simp[zgZ,vEq,zlo]
theorem zDX{b:Nat}:bsV EE.P 67 1 [(0,PT b)]=some ([PT b],1):=kr
theorem ziK(h:FAt m L X)(hm:zad m)(ht:Tb m)(hg:GX X){i:Nat}(hi:i<X.P.length)(hs:X.seen.length+X.fut.length<99000){n:Int}{a0 a1 a2:BitVec 32}:∃u m',Con EE.P 132 [PT (L.p i),In n, .agg [Um a0,Um a1,Um a2].toArray] m u m'∧Be m L (zhi X i n a0 a1) m':=by
 refine Con.raw zai zFk (bA rfl) _ ?_;have t0:Int.toNat 0=0:=rfl;have t1:Int.toNat 1=1:=rfl;have g0:(0:Int)<=0:=by decide
 have g1:(0:Int)<=1:=by decide
 have i0:(0:Int)<((3:Nat):Int):=by decide
 have i1:(1:Int)<((3:Nat):Int):=by decide
 have h64:=hm.n64;obtain⟨cs,h1,h2⟩:=h.pr i hi;have hlt:=h.ids_lt (h.mp hi);have ne1:¬L.p i=m.next:=by omega
 have hN1:∀(o1:zaS) (k:Nat),1<=k->Nx m ((m.put m.next o1).bump k):=λo1 k hk=>⟨by(try simp only[bN,nP]);omega,zad.of_low (by have:=hm.n64;(try simp only[bN,nP]);omega) (by repeat(first|exact Low.of hm nO|refine Low.put ?_ nO|refine Low.bump ?_)),λy hy=>by simp only[gB,gP,zb3 hy,if_false]⟩;simp only[XX,XY,zox,yA,yB,yC,t0,g0,i0,h1,h2.f,ne1];refine cX (ztR ((h.new' (j:=0)).bump _) (hN1 _ _ (by omega)).fresh hg hi) λu Mp ⟨hu,hNp⟩=>?_;subst hu;have hN0:=(hN1 _ _ (by omega)).trans hNp;have np:=hN0.next;have hbp:Mp.get m.next=some (.cells (ofL [Um a0,Um a1,Um a2]) true 0):=hNp.keep (hN1 _ _ (by omega)).fresh gA;have hlp:m.next<Mp.next:=by have:=hNp.next;simp only[bN,nP] at this;omega
 have hAp:=h.nx hN0;have hFp:=hN0.fresh;have h1p:=(hN0.keep hm h1);obtain⟨o,ho⟩:∃o,o=zet X i a0:=⟨_,rfl⟩;unfold zhi;rw[<-ho];obtain⟨x,hx⟩:∃x,x=o.getD zH1:=⟨_,rfl⟩;have hpl:plV L o= .tuple [.agg (zhS L x).toArray, .bool o.isSome].toArray:=by rw[hx];rfl
 have fl3:= @zzB L x;have fl1:= @zxP L x;rw[hpl];simp only[XX,XY,zox,yA,yB,yC,t0,g0,i0,np,hbp,fl3,fl1];have l16:m.next+16<=Mp.next:=by have:=hNp.next;simp only[bN,nP] at this;omega
 refine CallI.gen (λM=>Nx m M∧M.get m.next=some (.cells (ofL [Um a0,Um a1,Um a2]) true 0)∧(∃c7,M.get (m.next+13)=some (.cells c7 true 0)∧c7.sub 0 3=some (zhS L x))∧m.next+16<=M.next) ⟨((hN0.putN (by omega) (by omega)).putN (by omega) nO).bump _,by(simp only[gB,gP];repeat(first|rw[if_neg (by omega)]|rw[if_pos trivial]|rw[if_pos (by omega)]));exact hbp,⟨_,gA,zay fl3 (by decide)⟩,nO⟩ λM hM=>?_;obtain⟨hNM,hbM,⟨c7,b7,s7⟩,l16M⟩:=hM;have nM:=hNM.next;have hAM:=h.nx hNM;have hFM:=hNM.fresh;have htM:=ht.nx hm hNM;have h1M:=hNM.keep hm h1;refine cZ (zmu hAM hg hi) ?_;obtain⟨vw,hvw⟩:∃vw,vw=zdt X i a0:=⟨_,rfl⟩;have hwd:wdV (zdt X i a0)= .tuple [Um (vw.getD 0#32), .bool vw.isSome].toArray:=by rw[hvw];rfl
 rw[hwd];have hB:∀K (c:Int),∃u m',Con EE.P 87 [PT (L.p i),In c] (M.bump K) u m'∧Be (M.bump K) L (zaZ X i c) m':=λK c=>za1 (hAM.bump _) hFM.bump (htM.bump _) hi (show X.seen.length<100000 by omega);cases o with
 |none=>
  simp only[XX,XY,zox,yA,yB,yC,nM,lA,Option.isSome_none];refine cX (hB _ _) λu M9 hB9=>?_;have hB9:=hB9.of_bump;have n9:=hB9.next;have n10:m.next<=M9.next:=by omega
  simp only[XX,yA];exact(bE Lx.refl (Fd.of_nx hNM) hB9).raw
 |some w=>
  obtain rfl:x=w:=hx;obtain⟨w1,w2,w3⟩:=zk1 hg hi ho.symm;by_cases c15:n=15
  ·have d15:=decide_eq_true c15;by_cases cv:vw.getD 0#32=a1
   ·have dv:decide (((vw.getD 0#32).toNat:Int)=(a1.toNat:Int))=true:=decide_eq_true (by rw[cv]);have q1:= @zq1;have q2:= @zsl L x;have ne2:∀j,¬L.p i=m.next+j:=λj=>by omega
    have ne3:∀j,¬m.next+j=L.p i:=λj=>by omega
    have k1:46+1<=cs.n:=by rw[h2.n];decide
    have k2:48+3<=cs.n:=by rw[h2.n];decide
    obtain⟨cf,f1,f2⟩:=hAM.fl;have hfp:=h.f_p hi;have hp:=(h2.w_wait (x:=4)).w_fut (x:=x) rfl;rw[show zit X i n a0 a1 (some x)=futW X i x by rw[zgN,if_pos c15,<-hvw,if_pos cv]];simp only[XX,XY,zox,yA,yB,yC,t1,g1,i1,nM,lA,hbM,b7,s7,d15,dv,h1M,q2,ne3,k1,k2,fl3,fl1,f1,f2.fv,hfp];refine CallI.gen (λM1=>∃M0:Mem,M1=M0.bump 36∧FAt M0 L {X with P:=X.P.set i {X.p i with wait:=4,fut:=x}}∧Fd L.D m M0∧M0.next=M.next) ⟨_,rfl,hAM.upd_p hi hp nO gA (λy hy hne=>by(simp only[gP];repeat(first|rw[if_neg (by omega)]|rw[if_pos trivial]|rw[if_pos (by omega)]))),(Fd.of_nx hNM).trans ((Fd.own hAM hFM (hAM.mp hi)).trans (Fd.own (hAM.put_p hi (h2.w_wait (x:=4))) (Fd.own hAM hFM (hAM.mp hi)).fresh (hAM.mp hi)) (λy hy=> .inl hy)) (λy hy=> .inl hy),by simp only[nP]⟩ λM1 hM1=>?_;obtain⟨M0,rfl,hA0,hF0,n0⟩:=hM1;have hFr0:=hF0.fresh;have hall:(X.fut.map λi=>PT (L.p i)).all oneCell=true:=by simp[oneCell]
    refine cX (zgE hFr0.bump (hA0.fs.bump _) hall (by show X.fut.length<100000;omega)) λcv M2 hC=>?_;have n2:=hC.nx.next;rw[bN] at n2;have nm2:m.next<=M2.next:=by omega
    simp only[XX,XY,yA,yB,yC,zDX];have hCn:∀y,slB cv=some y->M.next+36<=y:=λy hy=>by have:=hC.new y hy;rw[bN] at this;omega
    have hsl2:SlV (M2.put (M.next+31) (.cells (ofL [PT (L.p i)]) true 1)) 1 cv X.fut.length (X.fut.map λi=>PT (L.p i)):=hC.sl.keep λy _ hy e=>by rw[gP,if_neg (by have:=hCn y hy;omega)];exact e
    refine zd3 (k:=1) (new:=[PT (L.p i)]) zAe hsl2 (zej (j:=0) (c:=1) rfl) (by decide) rfl rfl (.inl rfl) (by omega) λv' M3 hA=>?_;have na:=hA.next;simp only[nP] at na;have hold:∀y,y<M0.next->M3.get y=M0.get y:=λy hy=>by rw[hA.old y (by omega) (λe=>by have:=hCn y e;omega),gP,if_neg (by omega),hC.nx.old y nO];rfl
    obtain⟨cf0,z1,z2⟩:=hA0.fl;have hlf:=hA0.ids_lt hA0.mf;have z3:M3.get L.f=some (.cells cf0 true 0):=(hold _ hlf).trans z1;have k5:6+1<=cf0.n:=by rw[z2.n];decide
    have hsl3:SlV M3 1 v' (X.fut++ [i]).length ((X.fut++ [i]).map λi=>PT (L.p i)):=by rw[aL,List.map_append];exact hA.sl
    have hvn:∀y,slB v'=some y->M0.next<=y∧y<M3.next:=λy hy=>by
     have hl:=hsl3.lt (zad.of_low (by have:=hFr0.n64;omega) λy hy=>hA.low y (by omega) (by rw[gP,if_neg (by omega)];exact hC.nx.fresh.none y (by omega))) hy;rcases hA.blk with⟨e,_⟩|e
     ·have:=hCn y (by rw[<-e];exact hy);exact⟨by omega,hl⟩
     ·rw[e] at hy;cases hy;exact⟨by omega,hl⟩
    have hres:=hA0.set_fv (M:=M3) (v':=v') (S:=X.fut++ [i]) z1 z2 (by omega) hvn hFr0.n64 hold hsl3 (λj hj=>by
     show j<(X.P.set i _).length;rw[sL];rcases List.mem_append.1 hj with hj|hj
     ·exact h.pf j hj
     ·rw[List.mem_singleton.1 hj];exact hi)
    have hF3:Fd L.D M0 M3:=⟨by omega,zad.of_low (by have:=hFr0.n64;omega) (λy hy=>hA.low y (by omega) (by rw[gP,if_neg (by omega)];exact hC.nx.fresh.none y (by omega))),λy hy _=>hold y hy,λy hy e=>by rw[hold y hy];exact e⟩;have hF4:=(hF0.trans hF3 λy hy=> .inl hy).put (b:=L.f) (o:= .cells (cf0.write 6 [v']) true 0) (.inl (h.dm _ h.mf)) h.lt (.inl (by rw[z3];simp));have hv1:v'.cells.toList=[v']∧[v'].all oneCell=true:=by rcases hA.sl.at_ with⟨_,rfl⟩|⟨_,_,_,rfl,_⟩<;>exact⟨rfl,rfl⟩
    simp only[XX,XY,zox,yA,yB,yC,z3,k5,hv1];exact zcY.fin rfl ⟨_,hres,⟨rfl,⟨[],by simp⟩,⟨[],by simp⟩,⟨[],by simp⟩,⟨[],by simp⟩,⟨[],by simp⟩,λy hy=>hy.imp _root_.id λe=>by have:=(hvn y e).1;omega⟩,hF4⟩
   ·have dv:decide (((vw.getD 0#32).toNat:Int)=(a1.toNat:Int))=false:=decide_eq_false (λe=>cv (BitVec.eq_of_toNat_eq (by omega)));simp only[XX,XY,zox,yA,yB,yC,t1,g1,i1,nM,lA,hbM,d15,dv];rw[show zit X i n a0 a1 (some x)=zaZ X i 11 by rw[zgN,if_pos c15,<-hvw,if_neg cv]];refine cX (hB _ _) λu M9 hB9=>?_;have hB9:=hB9.of_bump;have n9:=hB9.next;have n10:m.next<=M9.next:=by omega
    simp only[XX,yA];exact(bE Lx.refl (Fd.of_nx hNM) hB9).raw
  ·have d15:=decide_eq_false c15;obtain⟨cf,f1,f2⟩:=hAM.fl;have hlenF:∀M,lenA EE.P 67 L.fv M=some (In X.fut.length):=λM=>hAM.fs.lenA zbt;rw[show zit X i n a0 a1 (some x)=zar (futI x a1 X.fut (X,0#32)).1 i (futI x a1 X.fut (X,0#32)).2 by rw[zgN,if_neg c15]];simp only[XX,XY,zox,yA,yB,yC,nM,lA,d15,f1,f2.fv,hlenF];have D13:¬L.D (m.next+13):=λe=>by have:=h.lt _ e;omega
   have D0:¬L.D m.next:=λe=>by have:=h.lt _ e;omega
   refine WX.loop_of (λkk tt Mk=>∃k:Nat,k<=X.fut.length∧kk=X.fut.length-k∧tt=T 100 [(37,In k),(36,In X.fut.length),(35,L.fv),(11,Um (futI x a1 (X.fut.take k) (X,0#32)).2),(7,PT (m.next+13)),(5,PT m.next),(0,PT (L.p i))]∧Be M L (futI x a1 (X.fut.take k) (X,0#32)).1 Mk∧K1 M Mk) ?_ (k:=X.fut.length) (t1:=T 100 [(37,In (0:Nat)),(36,In X.fut.length),(35,L.fv),(11,Um 0#32),(7,PT (m.next+13)),(5,PT m.next),(0,PT (L.p i))]) (vT ⟨rfl,rfl,rfl,rfl,rfl,rfl,rfl,trivial⟩) ⟨0,by omega,rfl,rfl,Be.same hAM hFM _,K1.refl.bump⟩;rintro kk tt Mk ⟨k,hk,rfl,rfl,hBk,hKk⟩;have nk:=hBk.next;have b7k:Mk.get (m.next+13)=some (.cells c7 true 0):=(hBk.old (by omega) D13).trans b7;have hbk:Mk.get m.next=some (.cells (ofL [Um a0,Um a1,Um a2]) true 0):=(hBk.old (by omega) D0).trans hbM;obtain⟨S1,S2,S3⟩:=Sx.futI (w:=x) (n:=a1) (l:=X.fut.take k) (Z:=(X,0#32)) hg (λj hj=>h.pf j (List.mem_of_mem_take hj));have l100:(X.fut.take k).length<=X.fut.length:=by rw[List.length_take];omega
   have hsn:=S1.sh.sn;have hfl:=S1.fl;by_cases hk2:k<X.fut.length
   ·have e1:=zrn (w:=x) (a:=a1) (Z:=(X,0#32)) hk2;generalize futI x a1 (X.fut.take k) (X,0#32)=Z at hBk S1 S2 S3 hsn hfl e1⊢;obtain⟨Y,c⟩:=Z;obtain⟨bq,cq,csq,efv,z1,z2,z3,z4⟩:=hAM.fs.cons (by omega);have zk:=hKk _ _ z1;obtain⟨j,hj⟩:∃j,j=X.fut.getD k 0:=⟨_,rfl⟩;rw[<-hj] at e1;have hjX:j<X.P.length:=by rw[hj];exact h.pf _ (zax hk2)
    have hjY:j<Y.P.length:=by rw[S2];exact hjX
    have hq:csq.nth k=some (PT (L.p j)):=by rw[zbV (by omega),z4 k (by simp;omega),hj,gD',gM',gD',gE' hk2];rfl
    obtain⟨Lk,ak,xk,fk⟩:=id hBk;have ep:Lk.p j=L.p j:=xk.p (by rw[h.lP];exact hjX);obtain⟨cp,y1,y2⟩:=ak.pr j hjY;rw[ep] at y1;have s7k:c7.sub 0 3=some (zhS Lk x):=by rw[s7];unfold zhS;rw[zkj (λq hq=>(xk.c (by rw[h.lC];exact w1 q hq)).symm),zkj (λq hq=>(xk.p (by rw[h.lP];exact w2 q hq)).symm)]
    have heq:∀xo yo K,eqA EE.P .eql 77 xo yo (.agg (zhS Lk (Y.p j).fut).toArray) (.agg (zhS Lk x).toArray) (Mk.bump K)=some (.bool (zrW (Y.p j).fut x)):=λxo yo K=>zAY (ak.bump K) (S1.sh.gx.fc j hjY) (S1.sh.gx.fp j hjY) (λq hq=>lL (w1 q hq) S1.sh.C) (λq hq=>lL (w2 q hq) S1.sh.P) w3;have g2:(k:Int)<(X.fut.length:Int):=by omega
    have g3:(0:Int)<=k:=by omega
    have hw:IntKind.i64.wrap ((k:Int)+1)=((k+1:Nat):Int):=by rw[zae (by omega) (by omega)];omega
    have q1:= @zq1;have q2:= @zwL;have q3:EE.eqv (.agg (zhS Lk x).toArray) (.agg (zhS Lk x).toArray)=true:=zsl;have nmk:m.next<=Mk.next:=by omega
    rw[efv];have hskip:∀r:Bool,r=zrW (Y.p j).fut x->(r=false∨¬c.toNat<a1.toNat)->futI x a1 (X.fut.take (k+1)) (X,0#32)=(Y,c):=λr hr hc=>by
     rw[e1];unfold futS;rw[if_neg];rintro⟨f1,f2⟩;rcases hc with hc|hc
     ·rw[hr,f1] at hc;cases hc
     ·exact hc f2
    cases hfe:zrW (Y.p j).fut x with
    |false=>
     rw[hfe] at heq;simp only[XX,XY,zox,yA,yB,yC,nmk,lA,g2,g3,b7k,s7k,zk,hq,y1,y2.fut,heq,hw,zac];refine⟨X.fut.length-(k+1),_,_,by omega,vT (l':=[(37,In ((k+1:Nat):Int)),(36,In X.fut.length),(35, .slice (some ⟨bq,0,none⟩) X.fut.length cq),(11,Um c),(7,PT (m.next+13)),(5,PT m.next),(0,PT (L.p i))]) ⟨rfl,rfl,rfl,rfl,rfl,rfl,rfl,trivial⟩,k+1,by omega,rfl,?_,?_,?_⟩
     ·rw[hskip _ hfe.symm (.inl rfl)]
     ·rw[hskip _ hfe.symm (.inl rfl)];exact hBk.bump _
     ·exact hKk.bump
    |true=>
     rw[hfe] at heq;by_cases hc:c.toNat<a1.toNat
     ·have dc:=decide_eq_true (show(c.toNat:Int)<(a1.toNat:Int) by omega);have e2:futI x a1 (X.fut.take (k+1)) (X,0#32)=(zaI (zar Y j 0#32) j,c+1#32):=by rw[e1];unfold futS;rw[if_pos ⟨hfe,hc⟩]
      simp only[XX,XY,zox,yA,yB,yC,t1,g1,i1,nmk,lA,g2,g3,hbk,b7k,s7k,zk,hq,y1,y2.fut,heq,dc,zFR];refine cX (by rw[<-ep];exact zq3 (v:=0#32) (ak.bump _) fk.fresh.bump ((htM.fd fk hFM h.d64).bump _) hjY (show Y.seen.length<100000 by have:Y.seen.length<=X.seen.length+(X.fut.take k).length:=hsn;omega)) λu M8 hM8=>?_;obtain⟨hB8,hK8⟩:=hM8;have hB8:=hB8.of_bump;obtain⟨L8,a8,x8,f8⟩:=id hB8;have n8:=f8.next;have e8:L8.p j=L.p j:=(x8.p (by rw[ak.lP];exact hjY)).trans ep;have nm8:m.next<=M8.next:=by omega
      simp only[XX,XY,zox,yA,yB,yC,nm8];refine cX (by rw[<-e8];exact ztz (a8.bump _) f8.fresh.bump (show j<(Y.P.set j _).length by rw[sL];exact hjY) (show Y.fut.length<100000 by have:Y.fut.length<=X.fut.length+0:=hfl;omega)) λu M9 hM9=>?_;obtain⟨hB9,hK9⟩:=hM9;have hB9:=hB9.of_bump;have n9:=hB9.next;have nm9:m.next<=M9.next:=by omega
      simp only[XX,XY,zox,yA,yB,yC,nm9,hw,zac];refine⟨X.fut.length-(k+1),_,_,by omega,vT (l':=[(37,In ((k+1:Nat):Int)),(36,In X.fut.length),(35, .slice (some ⟨bq,0,none⟩) X.fut.length cq),(11,Um (c+1#32)),(7,PT (m.next+13)),(5,PT m.next),(0,PT (L.p i))]) ⟨rfl,rfl,rfl,rfl,rfl,rfl,rfl,trivial⟩,k+1,by omega,rfl,?_,?_,?_⟩
      ·rw[e2]
      ·rw[e2];exact(bE xk fk (bE x8 f8 hB9)).bump _
      ·exact λy c e=>hK9 y c (hK8 y c (hKk y c e))
     ·have dc:=decide_eq_false (show¬(c.toNat:Int)<(a1.toNat:Int) by omega);simp only[XX,XY,zox,yA,yB,yC,t1,g1,i1,nmk,lA,g2,g3,hbk,b7k,s7k,zk,hq,y1,y2.fut,heq,dc,hw,zac];refine⟨X.fut.length-(k+1),_,_,by omega,vT (l':=[(37,In ((k+1:Nat):Int)),(36,In X.fut.length),(35, .slice (some ⟨bq,0,none⟩) X.fut.length cq),(11,Um c),(7,PT (m.next+13)),(5,PT m.next),(0,PT (L.p i))]) ⟨rfl,rfl,rfl,rfl,rfl,rfl,rfl,trivial⟩,k+1,by omega,rfl,?_,?_,?_⟩
      ·rw[hskip _ hfe.symm (.inr hc)]
      ·rw[hskip _ hfe.symm (.inr hc)];exact hBk.bump _
      ·exact hKk.bump
   ·obtain rfl:k=X.fut.length:=by omega
    have g2:¬(X.fut.length:Int)<(X.fut.length:Int):=by omega
    rw[List.take_length] at hBk S1 S2 hsn⊢;generalize futI x a1 X.fut (X,0#32)=Z at hBk S1 S2 S3 hsn hfl⊢;obtain⟨Y,c⟩:=Z;obtain⟨Lk,ak,xk,fk⟩:=id hBk;have ep:Lk.p i=L.p i:=xk.p (by rw[h.lP];exact hi);have nmk:m.next<=Mk.next:=by omega
    simp only[XX,XY,zox,yA,yB,yC,nmk,lA,g2,zam];refine cX (by rw[<-ep];exact zaL (v:=c) (ak.bump _) fk.fresh.bump ((htM.fd fk hFM h.d64).bump _) (by rw[S2];exact hi) (show Y.seen.length<100000 by have:Y.seen.length<=X.seen.length+X.fut.length:=hsn;omega)) λu M9 hB9=>?_;have hB9:=hB9.of_bump;have n9:=hB9.next;have nm9:m.next<=M9.next:=by omega
    simp only[XX,yA];exact(bE Lx.refl (Fd.of_nx hNM) (bE xk fk hB9)).raw
end
section
variable{X Y Z W:St}{i j k:Nat}
theorem Sx.post{pid g:Int}(h:GX X)(hl:Lk X):Sx 0 1 X (zeO X pid g):=by
 refine⟨Sh.post h hl,?_⟩;unfold zeO;split
 ·exact lR' _
 ·split
  ·exact lT (List.length_filter_le _ _) (lR' _)
  ·exact lR' _
theorem Sx.turn(h:GX X)(hi:i<X.P.length){w:BitVec 32}{s:Sg}{e:Int}:Sx 0 1 X (zkq X i w s e):=by
 unfold zkq;split
 ·have h1:Sx 0 0 X (ziP X i s):=Sx.set_p h ((h.px hi).w rfl rfl (.inl rfl) (.inl rfl));exact h1.trans (Sx.answer h1.sh.gx (by simpa [ziP] using hi))
 ·exact Sx.code h hi
theorem Sx.kill(h:GX X)(hi:i<X.P.length)(hl:Lk X){pid:Int}{g:BitVec 32}:Sx 0 2 X (zsQ X i pid g):=by
 unfold zsQ;split
 ·exact(Sx.code h hi).up (by omega) (by omega)
 ·split
  ·exact(Sx.code h hi).up (by omega) (by omega)
  ·split
   ·have h1:=Sx.answer (v:=0#32) h hi;exact h1.trans (Sx.post h1.sh.gx hl.answer)
   ·exact(Sx.answer h hi).up (by omega) (by omega)
theorem Sx.ret(h:GX X)(hi:i<X.P.length):Sx 0 1 X (zEg X i):=by
 unfold zEg;split
 ·exact Sx.up (Sx.set_p (i:=i) (r:={X.p i with sig:=(zef (X.p i).sig).1,cpu:=(X.p i).saved,saved:=zov}) h ((h.px hi).w rfl rfl (.inl rfl) (.inl rfl))) (by omega) (by omega)
 ·exact Sx.code h hi
theorem Sx.sigs(h:GX X)(hi:i<X.P.length)(hl:Lk X){n:Int}{a0 a1:BitVec 32}:Sx 0 2 X (zpa X i n a0 a1):=by
 unfold zpa;split
 ·exact Sx.kill h hi hl
 ·split
  ·exact(Sx.turn h hi).up (by omega) (by omega)
  ·split
   ·exact(Sx.turn h hi).up (by omega) (by omega)
   ·exact(Sx.ret h hi).up (by omega) (by omega)
theorem GX.futW(h:GX X)(hi:i<X.P.length){w:Fut}(hw:(∀q,w.c=some q->q<X.C.length)∧(∀q,w.p=some q->q<X.P.length)):GX (futW X i w):=by have hp:=h.px hi;exact(h.set_p (i:=i) (r:={X.p i with wait:=4,fut:=w}) ⟨hp.pg,hp.fd,hp.pp,hw.1,hw.2⟩).set_fut
theorem Sx.futex(h:GX X)(hi:i<X.P.length)(hf:∀j∈X.fut,j<X.P.length){n:Int}{a0 a1:BitVec 32}:Sx 1 (X.fut.length+1) X (zhi X i n a0 a1):=by
 unfold zhi;cases hw:zet X i a0 with
 |none=>exact(Sx.code h hi).up (by omega) (by omega)
 |some w=>
  rw[zgN];obtain⟨w1,w2,_⟩:=zk1 h hi hw;split
  ·split
   ·refine⟨⟨by simp[futW],lR' _,lR' _,lR' _,lR' _,by simp[futW],by simp[futW],h.futW hi ⟨w1,w2⟩⟩,by simp[futW]⟩
   ·exact(Sx.code h hi).up (by omega) (by omega)
  ·obtain⟨a,b,c⟩:=Sx.futI (w:=w) (n:=a1) (Z:=(X,0#32)) h hf;exact(a.trans (Sx.answer a.sh.gx (by rw[b];exact hi))).up (by omega) (by omega)
end
end
end Go.Ab
