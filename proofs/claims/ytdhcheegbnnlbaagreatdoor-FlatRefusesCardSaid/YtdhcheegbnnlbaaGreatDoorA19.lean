/- Part. -/
import Derived.Test.YtdhcheegbnnlbaaGreatDoorA18
set_option linter.all false
open Go.Ab.Mem renaming next_bump → bN, next_put → nP, get_bump → gB, get_put → gP
open Nat renaming le_of_ble_eq_true → bA, le_add_right_of_le → lA, lt_of_lt_of_le → lL, le_refl → lR', le_trans → lT
open List renaming getD_eq_getElem?_getD → gD', getElem?_eq_getElem → gE', length_append → aL, getElem?_map → gM', length_map → lM, length_set → sL
open Bool renaming false_eq_true → bF
open Go.Ab.CallI renaming ex2 → cX, con0 → cZ
open Go.Ab.TidyE renaming pure → tP
open Go.Ab.Cells renaming ofList → ofL
open Go.Ab.View renaming temps → vT
open Go.Ab.Be renaming trans → bE
open Nat renaming reduceLT → yA, reduceEqDiff → yB, reduceAdd → yC, reduceMul → yD, reduceSub → yE, reducePow → yF, reduceLeDiff → yG
open Int renaming reduceEq → yH, reduceLT → yI, reduceLE → yJ
namespace Go.Ab
open Go.Proofs
noncomputable section
set_option maxHeartbeats 4000000
set_option maxRecDepth 10000
section
variable{m m' M mr:Mem}{n:Nat}{L L' L1 L2:Loc}{X X' X1 X2 Y W:St}{v:Value}{fl:List Value}{pid:Int}
structure Cr where
 X:St
 c:Cpu
 t:Int
def coreE(X:St)(i:Nat)(x:Ins):Cr:=
 let c:=(X.p i).cpu
 if x.op=24 then⟨X,c,1⟩
 else if x.op<15 then⟨X,countC x c,0⟩
 else if x.op=15 then if lwX x c (wordX X i (adX x c))=true then⟨X,{loadX x c (wordX X i (adX x c)) with pc:=c.pc+4#32},0⟩ else⟨X,c,2⟩
 else if x.op=17 then if(byteX X i (adX x c)).isSome=true then⟨X,{loadX x c ((byteX X i (adX x c)).map z32) with pc:=c.pc+4#32},0⟩ else⟨X,c,2⟩
 else if x.op=16 then if adX x c % 4#32=0#32 then if(writeX X i (adX x c) (wordB (c.r.getD x.a.toNat 0#32))).2=0 then⟨(writeX X i (adX x c) (wordB (c.r.getD x.a.toNat 0#32))).1,{c with pc:=c.pc+4#32},0⟩ else⟨(writeX X i (adX x c) (wordB (c.r.getD x.a.toNat 0#32))).1,c,2⟩ else⟨X,c,2⟩
 else if x.op=18 then if(writeX X i (adX x c) [lo8 (c.r.getD x.a.toNat 0#32)]).2=0 then⟨(writeX X i (adX x c) [lo8 (c.r.getD x.a.toNat 0#32)]).1,{c with pc:=c.pc+4#32},0⟩ else⟨(writeX X i (adX x c) [lo8 (c.r.getD x.a.toNat 0#32)]).1,c,2⟩
 else if x.op<24 then⟨X,{(jumpX x c).2 with pc:=(jumpX x c).1},0⟩
 else⟨X,{wholeX x c with pc:=(wholeX x c).pc+4#32},0⟩
def coreX(X:St)(i:Nat):Cr:=if(fetchX (wordX X i (X.p i).cpu.pc) (X.p i).cpu).2=0 then coreE X i (fetchX (wordX X i (X.p i).cpu.pc) (X.p i).cpu).1 else⟨X,(X.p i).cpu,(fetchX (wordX X i (X.p i).cpu.pc) (X.p i).cpu).2⟩
theorem fetchX_in{w:Option (BitVec 32)}{c:Cpu}(h:(fetchX w c).2=0):∃v,decodeX v=some (fetchX w c).1:=by
 unfold fetchX at h⊢
 split at h
 ·cases h
 ·rename_i h4
  rw[if_neg h4]
  split at h
  ·cases h
  ·split at h
   ·cases h
   ·rename_i x hx
    exact⟨_,hx⟩
theorem mth_W:methodA EE.P 70 "Word" =some 188:=kr
theorem mth_B:methodA EE.P 70 "Byte" =some 64:=kr
theorem mth_SW:methodA EE.P 70 "SetWord" =some 27:=kr
theorem mth_SB:methodA EE.P 70 "SetByte" =some 370:=kr
theorem cl_W:callable EE.P 188=true:=kr
theorem cl_B:callable EE.P 64=true:=kr
theorem cl_SW:callable EE.P 27=true:=kr
theorem cl_SB:callable EE.P 370=true:=kr
def WrS(m:Mem)(L:Loc)(Z:St×Int)(M:Mem)(is:Bool)(M':Mem):Prop:=Nx m M∧is=decide (Z.2=0)∧Be M L Z.1 M'
theorem WrS.ok(h:FAt m L X){Z:St×Int}:WrOk m.next (WrS m L Z):=⟨λM is M' ⟨_,_,hB⟩=>by obtain⟨_,_,_,f⟩:=hB;exact f.grow,λM is M' ⟨_,_,hB⟩=>hB.fresh,λM is M' y ⟨hN,_,hB⟩ h1 h2=>hB.old h2 λe=>by have:=h.lt y e;omega⟩
theorem WrS.out(h:FAt m L X){Z:St×Int}{c:Cpu}{u:Value}{m2:Mem}(hS:StR m (WrS m L Z) c u m2):Be m L Z.1 m2∧u=if Z.2=0 then stepV {c with pc:=c.pc+4#32} 0 else stepV c 2:=by
 obtain⟨M,is,M',hN,⟨_,his,hB⟩,h1,h2,h3,h4⟩:=hS
 have n0:=hN.next
 obtain⟨L',a,x,f⟩:=hB
 have n1:=f.next
 refine⟨⟨L',a.keep h1 λy hy=>?_,⟨x.f,x.P,x.G,x.C,x.I,x.F,λy hy=>(x.D y hy).imp id λe=>by omega⟩,by omega,h2,λy hy hD=>?_,λy hy e=>?_⟩,?_⟩
 ·rcases x.D y hy with e|e
  ·exact h3 y (.inl (h.lt y e))
  ·exact h3 y (.inr e)
 ·rw[h3 y (.inl hy),f.old y (by omega) hD,hN.old y hy]
 ·rw[h3 y (.inl hy)];exact f.low y (by omega) (by rw[hN.old y hy];exact e)
 ·rw[h4,his]
  by_cases e:Z.2=0
  ·rw[if_pos e,if_pos (decide_eq_true e)]
  ·rw[if_neg e,if_neg (by simpa using e)]
theorem core_ok(h:FAt m L X)(hm:Fresh m)(ht:Tb m)(hg:GX X){i:Nat}(hi:i<X.P.length):∃u m',Con EE.P 81 [.agg (cpuL (X.p i).cpu).toArray, .iface 70 (PT (L.p i))] m u m'∧u=stepV (coreX X i).c (coreX X i).t∧Be m L (coreX X i).X m':=by
 obtain⟨cs,h1,h2⟩:=h.pr i hi
 have hc:=h2.okc.o
 have hW:∀a M,Nx m M->Con EE.P 188 [PT (L.p i),Um a] M (wdVg (wordX X i a)) M:=λa M hN=>Word_ok (h.nx hN) hg hi
 have hBy:∀a M,Nx m M->Con EE.P 64 [PT (L.p i),Um a] M (byVg (byteX X i a)) M:=λa M hN=>byte_ok (h.nx hN) hg hi
 have hsame:Be m L X m:=⟨L,h,Lx.refl,Fd.refl hm⟩
 unfold coreX
 by_cases hf:(fetchX (wordX X i (X.p i).cpu.pc) (X.p i).cpu).2=0
 ·rw[if_pos hf]
  obtain⟨wv,hdx⟩:=fetchX_in hf
  have hfx:fetchX (wordX X i (X.p i).cpu.pc) (X.p i).cpu=((fetchX (wordX X i (X.p i).cpu.pc) (X.p i).cpu).1,0):=by rw[<-hf]
  generalize(fetchX (wordX X i (X.p i).cpu.pc) (X.p i).cpu).1=x at hdx hfx⊢
  obtain⟨o0,o1,a0,a8,b0,b8,k25,k27⟩:=decodeX_in hdx
  unfold coreE
  by_cases c24:x.op=24
  ·simp only[if_pos c24]
   exact⟨_,_,step_sys ht.forms hc mth_W cl_W (hW _) hf (by rw[hfx];exact c24),rfl,hsame⟩
  simp only[if_neg c24]
  by_cases c15:x.op<15
  ·simp only[if_pos c15]
   exact⟨_,_,step_count ht.forms hc mth_W cl_W (hW _) hfx c15 a0 a8 b0 b8,rfl,hsame⟩
  simp only[if_neg c15]
  by_cases e15:x.op=15
  ·simp only[if_pos e15]
   have hs:=step_lw ht.forms hc mth_W cl_W (hW _) hfx e15 a0 a8 b0 b8 (w2:=wordX X i (adX x (X.p i).cpu)) (hW _)
   split
   ·rename_i hl
    rw[if_pos hl] at hs
    exact⟨_,_,hs,rfl,hsame⟩
   ·rename_i hl
    rw[if_neg hl] at hs
    exact⟨_,_,hs,rfl,hsame⟩
  simp only[if_neg e15]
  by_cases e17:x.op=17
  ·simp only[if_pos e17]
   have hs:=step_lb ht.forms hc mth_W cl_W (hW _) hfx e17 a0 a8 b0 b8 mth_B cl_B (w3:=byteX X i (adX x (X.p i).cpu)) (hBy _)
   split
   ·rename_i hl
    rw[if_pos hl] at hs
    exact⟨_,_,hs,rfl,hsame⟩
   ·rename_i hl
    rw[if_neg hl] at hs
    exact⟨_,_,hs,rfl,hsame⟩
  simp only[if_neg e17]
  by_cases e16:x.op=16
  ·simp only[if_pos e16]
   by_cases c4:adX x (X.p i).cpu % 4#32=0#32
   ·simp only[if_pos c4]
    obtain⟨u,m2,h3,h4⟩:=step_sw (WrS.ok h (Z:=writeX X i (adX x (X.p i).cpu) (wordB ((X.p i).cpu.r.getD x.a.toNat 0#32)))) hm ht.forms hc mth_W cl_W (hW _) hfx e16 a0 a8 b0 b8 c4 mth_SW cl_SW λM hN=>by
     obtain⟨u,M',q1,q2,q3⟩:=setWord_ok (h.nx hN) hN.fresh hg hi (a:=adX x (X.p i).cpu) (w:=(X.p i).cpu.r.getD x.a.toNat 0#32)
     exact⟨u,M',q1,_,q2,hN,rfl,q3⟩
    obtain⟨h5,h6⟩:=WrS.out h h4
    split
    ·rename_i hl
     rw[if_pos hl] at h6
     exact⟨u,m2,h3,h6,h5⟩
    ·rename_i hl
     rw[if_neg hl] at h6
     exact⟨u,m2,h3,h6,h5⟩
   ·simp only[if_neg c4]
    exact⟨_,_,step_swn ht.forms hc mth_W cl_W (hW _) hfx e16 a0 a8 b0 b8 c4 mth_SW cl_SW,rfl,hsame⟩
  simp only[if_neg e16]
  by_cases e18:x.op=18
  ·simp only[if_pos e18]
   obtain⟨u,m2,h3,h4⟩:=step_sb (WrS.ok h (Z:=writeX X i (adX x (X.p i).cpu) [lo8 ((X.p i).cpu.r.getD x.a.toNat 0#32)])) hm ht.forms hc mth_W cl_W (hW _) hfx e18 a0 a8 b0 b8 mth_SB cl_SB λM hN=>by
    obtain⟨u,M',q1,q2,q3⟩:=setByte_ok (h.nx hN) hN.fresh hg hi (a:=adX x (X.p i).cpu) (b:=lo8 ((X.p i).cpu.r.getD x.a.toNat 0#32))
    exact⟨u,M',q1,_,q2,hN,rfl,q3⟩
   obtain⟨h5,h6⟩:=WrS.out h h4
   split
   ·rename_i hl
    rw[if_pos hl] at h6
    exact⟨u,m2,h3,h6,h5⟩
   ·rename_i hl
    rw[if_neg hl] at h6
    exact⟨u,m2,h3,h6,h5⟩
  simp only[if_neg e18]
  by_cases e24:x.op<24
  ·simp only[if_pos e24]
   exact⟨_,_,step_jump ht.forms hc mth_W cl_W (hW _) hfx (by omega) a0 a8,rfl,hsame⟩
  ·simp only[if_neg e24]
   obtain⟨q1,q2⟩:=k25 (by omega)
   exact⟨_,_,step_whole ht.forms hc mth_W cl_W (hW _) hfx h2.okc.2.2 (by omega) a0 q1 b0 q2 k27,rfl,hsame⟩
 ·rw[if_neg hf]
  exact⟨_,_,step_trap ht.forms hc mth_W cl_W (hW _) hf,rfl,hsame⟩
end
section
variable{m m' M mr:Mem}{n:Nat}{L L' L1 L2:Loc}{X X' X1 X2 Y W:St}{v:Value}{fl:List Value}{pid:Int}
theorem scanIn{s:Sg}{r:BitVec 32}:∀(f n:Nat) (p:BitVec 32),n+f<=16->0<=(scanSg s r f n p).1∧(scanSg s r f n p).1<16
 |0,n,p,_=>by unfold scanSg;exact⟨Int.le_refl _,by show(0:Int)<16;decide⟩
 |f+1,n,p,h=>by
  unfold scanSg
  split
  ·split
   ·exact scanIn f (n+1) _ (by omega)
   ·show 0<=(n:Int)∧(n:Int)<16;omega
  ·exact scanIn f (n+1) _ (by omega)
theorem next_in{s:Sg}:0<=(nextSg s).1∧(nextSg s).1<16:=by
 unfold nextSg
 split
 ·exact scanIn 15 1 _ (by decide)
 ·exact⟨Int.le_refl _,by show(0:Int)<16;decide⟩
theorem Cpu.ok.setr{c:Cpu}(h:c.ok){k:Nat}{v:BitVec 32}:Cpu.ok {c with r:=c.r.set k v}:=⟨by show(c.r.set k v).length=8;rw[sL];exact h.1,h.2⟩
theorem load_cok{x:Ins}{c:Cpu}(h:c.ok){w:Option (BitVec 32)}:(loadX x c w).ok:=by
 cases w with
 |none=>exact h
 |some v=>exact h.setr
theorem jump_cok{x:Ins}{c:Cpu}(h:c.ok):(jumpX x c).2.ok:=by
 unfold jumpX
 simp only
 repeat' split
 all_goals first|exact h|exact h.setr
theorem whole_cok{x:Ins}{c:Cpu}(h:c.ok):(wholeX x c).ok:=by
 refine⟨?_,?_,wholeX_zok h.2.2⟩
 ·unfold wholeX
  simp only
  repeat' split
  all_goals simp[h.1]
 ·unfold wholeX
  simp only
  repeat' split
  all_goals simp[h.2.1]
theorem core_cok{i:Nat}(h:(X.p i).cpu.ok):(coreX X i).c.ok:=by
 unfold coreX
 split
 ·unfold coreE
  simp only
  repeat' split
  all_goals first|exact h|skip
  ·unfold countC;split
   ·exact h.setr
   ·exact h
  ·exact load_cok h
  ·exact load_cok h
  ·exact jump_cok h
  ·exact whole_cok h
 ·exact h
def handP(p:Proc)(s:Sg)(g:Int):Proc:={p with sig:=s,saved:=p.cpu,cpu:={p.cpu with r:=p.cpu.r.set 0 (BitVec.ofInt 32 g),pc:=s.h.getD g.toNat 0#32}}
def handX(X:St)(i:Nat)(s:Sg)(g:Int):St:={X with P:=X.P.set i (handP (X.p i) s g)}
def coreS(Z:Cr)(i:Nat):St:=if Z.t=1 then callX Z.X i else if Z.t=2 then exitX Z.X i 139#32 else if Z.t=3 then exitX Z.X i 132#32 else{Z.X with P:=Z.X.P.set i {Z.X.p i with cpu:=Z.c}}
def stepB(X:St)(i:Nat)(z:Int×Int×Sg):St:=if z.2.1=1 then exitX (sigS X i z.2.2) i (128#32+BitVec.ofInt 32 z.1) else if z.2.1=2 then seeX (handX X i z.2.2 z.1) i 3 0 (BitVec.ofInt 32 z.1) else coreS (coreX (sigS X i z.2.2) i) i
def stepX(X:St)(i:Nat):St:=stepB X i (nextSg (X.p i).sig)
section
variable{E:Env}{base i:Nat}{rest:List (Nat×SOp)}{L:List Inst}{t:List Value}{m:Mem}{K:KI}{ty rt:TypeId}{d:Tmp}{n0:Nat}{rd:Option Nat}
theorem Z_makeI [NoSym E]{x:Operand}:XWi E base ((i,⟨some d, .makeInterface ty x,rt,none⟩)::rest) L t m (Q:=K)=okI (pureA E.P ⟨some d, .makeInterface ty x,rt,none⟩ (ev · t)) (k:=⟨λv=>XWi E base rest L (t.set d v) m (Q:=K)⟩):=by
 refine propext ?_
 unfold XWi okI
 rw[XW_pure rfl rfl,pureE_none NoSym.h]
 rfl
end
theorem mkI70{d:Option Tmp}{x:Operand}{rt:TypeId}{r:Operand->Value}:pureA EE.P ⟨d, .makeInterface 70 x,rt,none⟩ r=some (.iface 70 (r x)):=by
 simp only[pureA,und_70]
theorem add128{a:BitVec 32}:IntKind.u32.wrap (128+(a.toNat:Int))=((128#32+a).toNat:Int):=add32 (a:=128#32)
theorem Sx.core(h:GX X){i:Nat}(hi:i<X.P.length):Sx 0 0 X (coreX X i).X:=by
 unfold coreX
 split
 ·unfold coreE
  simp only
  repeat' split
  all_goals first|exact Sx.refl h|exact Sx.of (Sh.write h hi)
 ·exact Sx.refl h
theorem step_ok(h:FAt m L X)(hm:Fresh m)(ht:Tb m)(hg:GX X){i:Nat}(hi:i<X.P.length)(hs:X.seen.length+X.fut.length<99000):∃u m',Con EE.P 46 [PT (L.p i)] m u m'∧Be m L (stepX X i) m':=by
 refine Con.raw EE_ok fn46 (bA rfl) _ ?_
 obtain⟨cs,h1,h2⟩:=h.pr i hi
 have hlt:=h.ids_lt (h.mp hi)
 have h64:=hm.n64
 have h16:=h2.okh
 have hh:=h2.sig
 have ho:= @sg_one (X.p i).sig
 have hl:=sg_len h16
 have ne1:∀j,¬L.p i=m.next+j:=λj=>by omega
 have ne2:∀j,¬m.next+j=L.p i:=λj=>by omega
 have q1:= @eqvP
 have q2:= @eqvS
 have q3:= @eqvI
 simp only[XX,XY,F46,yA,yB,yC,h1,hh]
 refine cZ (next_s h16) ?_
 unfold stepX
 have h16':=next_h h16
 obtain⟨z1,z2⟩:=next_in (s:=(X.p i).sig)
 generalize nextSg (X.p i).sig=z at h16' z1 z2⊢
 obtain⟨g,b,s⟩:=z
 have h16':s.h.length=16:=h16'
 have z1:0<=g:=z1
 have z2:g<16:=z2
 have ho':= @sg_one s
 have hl':=sg_len h16'
 have hw':∀c:Cells,c.n=19->(c.write 0 (sgL s)).sub 0 19=some (sgL s):=λc hc=>sg_wN h16' hc
 have k1:27+19<=cs.n:=by rw[h2.n];decide
 have hp1:=h2.w_sig (x:=s) hl' h16'
 have S1:Sx 0 0 X (sigS X i s):=Sx.set_p hg ((hg.px hi).w rfl rfl (.inl rfl) (.inl rfl))
 have hi1:i<(sigS X i s).P.length:=by show i<(X.P.set i _).length;rw[sL];exact hi
 have hsn:X.seen.length<99990:=by omega
 have hfn:X.fut.length<99990:=by omega
 unfold stepB
 by_cases b1:b=1
 ·have d1:=decide_eq_true b1
  rw[if_pos b1]
  simp only[XX,XY,F46,yA,yB,yC,h1,ho',hl',hw',ne1,k1,d1,conv_pid,add128]
  refine CallI.gen (λM=>Be m L (sigS X i s) M) ⟨L,h.upd_p hi hp1 nO gA (λy hy hne=>(by have:=h.lt y hy;(simp only[gB,gP];repeat(first|rw[if_neg (by omega)]|rw[if_pos trivial]|rw[if_pos (by omega)])))),Lx.refl,Pu.fd (j:=10) (by repeat(first|exact Pu.refl hm|refine Pu.own h (h.mp hi) ?_|refine Pu.new ?_ (by omega))) hm (by omega)⟩ λM hM=>?_
  have n1:=hM.next
  obtain⟨L1,a1,x1,f1⟩:=id hM
  have ep:L1.p i=L.p i:=x1.p (by rw[h.lP];exact hi)
  refine cX (by rw[<-ep];exact exit_ok a1 f1.fresh (hM.tb h hm ht) S1.sh.gx hi1 hsn hfn) λu M9 hB9=>?_
  have n9:=hB9.next
  have n10:m.next<=M9.next:=by omega
  simp only[XX,yA]
  exact(bE x1 f1 hB9).raw
 rw[if_neg b1]
 have d1:=decide_eq_false b1
 by_cases b2:b=2
 ·have d2:=decide_eq_true b2
  rw[if_pos b2]
  have l11:=cpuL_len h2.okc
  have o11:= @cpuL_one
  have q4:= @eqv_cpu
  have g3:g<((16:Nat):Int):=by omega
  have hq':∀c:Cells,c.n=19->(c.write 0 (sgL s)).nth (2+g.toNat)=some (Um (s.h.getD g.toNat 0#32)):=λc hc=>by
   have hs2:=sub_nth (k:=2+g.toNat) (hw' c hc) (by omega)
   rw[Nat.zero_add] at hs2
   rw[hs2,sg_h h16' (by omega)]
  have hp2:=hp1.w_saved (x:=(X.p i).cpu) l11 h2.okc
  have hp3:=hp2.w1_cpu (k:=0) (x:={(X.p i).cpu with r:=(X.p i).cpu.r.set 0 (BitVec.ofInt 32 g)}) (v:=Um (BitVec.ofInt 32 g)) (by decide) (cpuL_setr h2.okc (by decide)) h2.okc.setr
  have hp4:=hp3.w1_cpu (k:=10) (x:={(X.p i).cpu with r:=(X.p i).cpu.r.set 0 (BitVec.ofInt 32 g),pc:=s.h.getD g.toNat 0#32}) (v:=Um (s.h.getD g.toNat 0#32)) (by decide) (cpuL_setpc hp3.okc) hp3.okc
  have hc1:=hp1.cpu
  have k2:16+11<=cs.n:=by rw[h2.n];decide
  have k3:5+1<=cs.n:=by rw[h2.n];decide
  have k4:15+1<=cs.n:=by rw[h2.n];decide
  have t0:Int.toNat 0=0:=rfl
  have g0:(0:Int)<=0:=by decide
  have g8:(0:Int)<((8:Nat):Int):=by decide
  have k5:2+(g.toNat+1)<=19:=by omega
  simp only[XX,XY,F46,yA,yB,yC,h1,ho',hl',hw',ne1,ne2,k1,d1,d2,conv_pid,hc1,l11,o11,k2,k3,k4,q3,z1,g3,hq',t0,g0,g8]
  refine CallI.gen (λM=>Be m L (handX X i s g) M) ⟨L,h.upd_p hi hp4 nO gA (λy hy hne=>(by have:=h.lt y hy;(simp only[gB,gP];repeat(first|rw[if_neg (by omega)]|rw[if_pos trivial]|rw[if_pos (by omega)])))),Lx.refl,Pu.fd (j:=10) (by repeat(first|exact Pu.refl hm|refine Pu.own h (h.mp hi) ?_|refine Pu.new ?_ (by omega))) hm (by omega)⟩ λM hM=>?_
  have n1:=hM.next
  obtain⟨L1,a1,x1,f1⟩:=id hM
  have ep:L1.p i=L.p i:=x1.p (by rw[h.lP];exact hi)
  have hi2:i<(handX X i s g).P.length:=by show i<(X.P.set i _).length;rw[sL];exact hi
  refine cX (by rw[<-ep];exact see_ok a1 f1.fresh hi2 (show X.seen.length<100000 by omega)) λu M9 hB9=>?_
  have hB9:Be M L1 (seeX (handX X i s g) i 3 0 (BitVec.ofInt 32 g)) M9:=hB9
  have n9:=hB9.next
  have n10:m.next<=M9.next:=by omega
  simp only[XX,yA]
  exact(bE x1 f1 hB9).raw
 rw[if_neg b2]
 have d2:=decide_eq_false b2
 have hc1:=hp1.cpu
 have l10:=cpuL_len h2.okc
 have o10:= @cpuL_one
 simp only[XX,XY,F46,yA,yB,yC,h1,ho',hl',hw',ne1,k1,d1,d2,hc1,Z_makeI,mkI70]
 refine CallI.gen (λM=>FAt M L (sigS X i s)∧Fd L.D m M∧m.next+36<=M.next) ⟨h.upd_p hi hp1 nO gA (λy hy hne=>(by have:=h.lt y hy;(simp only[gB,gP];repeat(first|rw[if_neg (by omega)]|rw[if_pos trivial]|rw[if_pos (by omega)])))),Pu.fd (j:=10) (by repeat(first|exact Pu.refl hm|refine Pu.own h (h.mp hi) ?_|refine Pu.new ?_ (by omega))) hm (by omega),nO⟩ λM hM=>?_
 obtain⟨a1,f1,n36⟩:=hM
 have n1:=f1.next
 have ec:((sigS X i s).p i).cpu=(X.p i).cpu:=by show((X.P.set i _).getD i proc0).cpu=_;rw[getD_set_self hi]
 refine cX (by rw[<-ec];exact core_ok a1 f1.fresh (ht.fd f1 hm h.d64) S1.sh.gx hi1) λu M2 hM2=>?_
 obtain⟨rfl,hB2⟩:=hM2
 have hok:=core_cok (X:=sigS X i s) (i:=i) (by rw[ec];exact h2.okc)
 have S2:=S1.trans (Sx.core (i:=i) S1.sh.gx hi1)
 have hi2':i<(coreX (sigS X i s) i).X.P.length:=lL hi1 (Sx.core (i:=i) S1.sh.gx hi1).sh.P
 have n2:=hB2.next
 generalize coreX (sigS X i s) i=Z at hB2 hok S2 hi2'⊢
 obtain⟨L2,a2,x2,f2⟩:=hB2
 have n33:¬L2.D (m.next+33):=λe=>(x2.D _ e).elim (λe=>by have:=h.lt _ e;omega) λe=>by omega
 have x2:Lx m.next L L2:=⟨x2.f,x2.P,x2.G,x2.C,x2.I,x2.F,λy hy=>(x2.D y hy).imp id λe=>by omega⟩
 have A3:∀o1 o2,FAt ((M2.put (m.next+33) o1).put (m.next+33) o2) L2 Z.X:=λo1 o2=>(a2.new n33).new n33
 have F2:Fd L.D m M2:=f1.trans f2 λy hy=> .inl hy
 have F3:∀o1 o2,Fd L.D m ((M2.put (m.next+33) o1).put (m.next+33) o2):=λo1 o2=>(F2.putN (by omega) (by omega)).putN (by omega) nO
 have B3:∀o1 o2 k,Be m L Z.X (((M2.put (m.next+33) o1).put (m.next+33) o2).bump k):=λo1 o2 k=>⟨L2,(A3 o1 o2).bump k,x2,(F3 o1 o2).bump k⟩
 have hsz:=S2.sh.sn
 have hfz:=S2.fl
 have nm2:m.next<=M2.next:=by omega
 have l11:=cpuL_len hok
 have o11:= @cpuL_one
 have hwc:∀c:Cells,c.n=11->(c.write 0 (cpuL Z.c)).sub 0 11=some (cpuL Z.c):=λc hc=>sub_write_same l11 (by rw[hc];decide)
 unfold coreS
 by_cases t1:Z.t=1
 ·have d3:=decide_eq_true t1
  rw[if_pos t1]
  simp only[XX,XY,F46,yA,yB,yC,nm2,stepV,l11,o11,d3,lA]
  refine CallI.gen (λM=>Be m L Z.X M) (B3 _ _ _) λM3 hN3=>?_
  have n3:=hN3.next
  obtain⟨L2,a2,x2,f2⟩:=id hN3
  have ep2:L2.p i=L.p i:=x2.p (by rw[h.lP];exact hi)
  refine cX (by rw[<-ep2];exact callp_ok a2 f2.fresh (hN3.tb h hm ht) S2.sh.gx hi2' (by omega)) λu M9 hB9=>?_
  have n9:=hB9.next
  have n10:m.next<=M9.next:=by omega
  simp only[XX,yA]
  exact(bE x2 f2 hB9).raw
 rw[if_neg t1]
 have d3:=decide_eq_false t1
 by_cases t2:Z.t=2
 ·have d4:=decide_eq_true t2
  rw[if_pos t2]
  simp only[XX,XY,F46,yA,yB,yC,nm2,stepV,l11,o11,d3,d4,lA]
  refine CallI.gen (λM=>Be m L Z.X M) (B3 _ _ _) λM3 hN3=>?_
  have n3:=hN3.next
  obtain⟨L2,a2,x2,f2⟩:=id hN3
  have ep2:L2.p i=L.p i:=x2.p (by rw[h.lP];exact hi)
  refine cX (by rw[<-ep2];exact exit_ok (s:=139#32) a2 f2.fresh (hN3.tb h hm ht) S2.sh.gx hi2' (by omega) (by omega)) λu M9 hB9=>?_
  have n9:=hB9.next
  have n10:m.next<=M9.next:=by omega
  simp only[XX,yA]
  exact(bE x2 f2 hB9).raw
 rw[if_neg t2]
 have d4:=decide_eq_false t2
 by_cases t3:Z.t=3
 ·have d5:=decide_eq_true t3
  rw[if_pos t3]
  simp only[XX,XY,F46,yA,yB,yC,nm2,stepV,l11,o11,d3,d4,d5,lA]
  refine CallI.gen (λM=>Be m L Z.X M) (B3 _ _ _) λM3 hN3=>?_
  have n3:=hN3.next
  obtain⟨L2,a2,x2,f2⟩:=id hN3
  have ep2:L2.p i=L.p i:=x2.p (by rw[h.lP];exact hi)
  refine cX (by rw[<-ep2];exact exit_ok (s:=132#32) a2 f2.fresh (hN3.tb h hm ht) S2.sh.gx hi2' (by omega) (by omega)) λu M9 hB9=>?_
  have n9:=hB9.next
  have n10:m.next<=M9.next:=by omega
  simp only[XX,yA]
  exact(bE x2 f2 hB9).raw
 rw[if_neg t3]
 have d5:=decide_eq_false t3
 have ep2:L2.p i=L.p i:=x2.p (by rw[h.lP];exact hi)
 obtain⟨c2,y1,y2⟩:=a2.pr i hi2'
 have hp2:=y2.w_cpu (x:=Z.c) l11 hok
 have y1':=y1
 rw[ep2] at y1
 have kk:5+11<=c2.n:=by rw[y2.n];decide
 simp only[XX,XY,F46,yA,yB,yC,nm2,stepV,l11,o11,hwc,d3,d4,d5,y1,kk,ne1,lA]
 have hA9:=(A3 (.cells zN true 0) (.cells (zN.write 0 (cpuL Z.c)) true 0)).put_p hi2' hp2
 have hF9:=(F3 (.cells zN true 0) (.cells (zN.write 0 (cpuL Z.c)) true 0)).putO (o:= .cells (c2.write 5 (cpuL Z.c)) true 0) (h.dm _ (h.mp hi)) hlt (by rw[h1];simp)
 rw[ep2] at hA9
 exact RawE.fin rfl ⟨L2,hA9.bump _,x2,hF9.bump _⟩
end
section
variable{m m' M mr:Mem}{n:Nat}{L L' L1 L2:Loc}{X X' X1 X2 Y W:St}{v:Value}{fl:List Value}{pid:Int}
structure Rn where
 X:St
 s:List SeenR
 e:Int
def toldR(Y:St):Rn:=⟨toldX Y,Y.seen,0⟩
def runB(X:St):Option Nat->Rn
 |none=>⟨X,[],290⟩
 |some i=>if(X.p i).wait=0 then toldR (stepX X i) else⟨X,[],290⟩
theorem runB_1{i:Nat}:runB X (some i)=if(X.p i).wait=0 then toldR (stepX X i) else⟨X,[],290⟩:=rfl
def runR(X:St)(pid:Int):Rn:=if X.halted=true then⟨X,[],181⟩ else runB X (liveX X pid)
def sigR(X:St)(pid g:Int):Rn:=if X.halted=true then⟨X,[],181⟩ else if liveX X pid=none∨g<1∨15<g then⟨X,[],290⟩ else toldR (postX X pid g)
def Tl(m:Mem)(L:Loc)(R:Rn)(u:Value)(m':Mem):Prop:=Be m L R.X m'∧∃v,u= .tuple [v,In R.e].toArray∧SlV m' 4 v R.s.length (R.s.flatMap seenL)∧∀y,slB v=some y->L.D y∨m.next<=y
theorem Be.grow(h:Be m L X M):Grow m M:=by obtain⟨_,_,_,f⟩:=h;exact f.grow
theorem Tl.nil(h:FAt m L X)(hm:Fresh m){e:Int}{k:Nat}:RawE m (m.bump k) (.tuple [.slice none 0 0,In e].toArray) (Tl m L ⟨X,[],e⟩):=
 ⟨(Be.same h hm k).grow,Be.same h hm k,_,rfl,SlV.nil,λy hy=>by cases hy⟩
theorem fRun_ok(h:FAt m L X)(hm:Fresh m)(ht:Tb m)(hg:GX X)(hs:X.seen.length+X.fut.length<99000):∃u m',Con EE.P 17 [PT L.f,In pid] m u m'∧Tl m L (runR X pid) u m':=by
 refine Con.raw EE_ok fn17 (bA rfl) _ ?_
 unfold runR
 simp only[XX,XY,F17,yA,yB,yC]
 refine cZ (may_ok (h.bump _) hg) ?_
 cases hh:X.halted with
 |true=>
  rw[if_pos rfl]
  simp only[XX,XY,F17,yA,yB,yC,yH]
  exact Tl.nil h hm
 |false=>
  rw[if_neg (by simp)]
  simp only[XX,XY,F17,yA,yB,yC]
  refine cZ (live_ok (h.bump _) hg) ?_
  cases hl:liveX X pid with
  |none=>
   simp only[XX,XY,F17,yA,yB,yC,pV]
   exact Tl.nil h hm
  |some i=>
   obtain⟨hi,_,_⟩:=findX_live h hl
   obtain⟨cs,h1,h2⟩:=h.pr i hi
   by_cases hw:(X.p i).wait=0
   ·have d0:=decide_eq_true hw
    rw[runB_1,if_pos hw]
    simp only[XX,XY,F17,yA,yB,yC,pV,h1,h2.wait,hw]
    refine cX (step_ok (h.bump _) hm.bump (ht.bump _) hg hi hs) λu M hB=>?_
    have hB:=hB.of_bump
    have nx:=hB.next
    obtain⟨L1,a1,x1,f1⟩:=id hB
    have ef:L1.f=L.f:=x1.f
    simp only[XX,XY,F17,yA,yB,yC,nx]
    refine cX (by rw[<-ef];exact told_ok (a1.bump _) f1.fresh.bump) λu M9 hM9=>?_
    obtain⟨rfl,hB9,hsl⟩:=hM9
    have hB9:=hB9.of_bump
    have n9:=hB9.next
    have n10:m.next<=M9.next:=by omega
    simp only[XX,XY,yA,yB]
    have hBe:Be m L (toldX (stepX X i)) M9:=bE x1 f1 hB9
    exact⟨hBe.grow,hBe,_,rfl,hsl,λy hy=>(x1.D y (a1.ds y hy))⟩
   ·have d0:=decide_eq_false hw
    rw[runB_1,if_neg hw]
    simp only[XX,XY,F17,yA,yB,yC,pV,h1,h2.wait,hw]
    exact Tl.nil h hm
theorem fSig_ok(h:FAt m L X)(hm:Fresh m)(ht:Tb m)(hg:GX X)(hs:X.seen.length+X.fut.length<99000){g:Int}:∃u m',Con EE.P 24 [PT L.f,In pid,In g] m u m'∧Tl m L (sigR X pid g) u m':=by
 refine Con.raw EE_ok fn24 (bA rfl) _ ?_
 unfold sigR
 simp only[XX,XY,F24,yA,yB,yC]
 refine cZ (may_ok (h.bump _) hg) ?_
 cases hh:X.halted with
 |true=>
  rw[if_pos rfl]
  simp only[XX,XY,F24,yA,yB,yC,yH]
  exact Tl.nil h hm
 |false=>
  rw[if_neg (by simp)]
  simp only[XX,XY,F24,yA,yB,yC]
  refine cZ (live_ok (h.bump _) hg) ?_
  cases hl:liveX X pid with
  |none=>
   rw[if_pos (.inl rfl)]
   simp only[XX,XY,F24,yA,yB,yC,pV]
   exact Tl.nil h hm
  |some i=>
   by_cases c1:g<1
   ·have d1:=decide_eq_true c1
    rw[if_pos (.inr (.inl c1))]
    simp only[XX,XY,F24,yA,yB,yC,pV,d1]
    exact Tl.nil h hm
   have d1:=decide_eq_false c1
   by_cases c2:15<g
   ·have d2:=decide_eq_true c2
    rw[if_pos (.inr (.inr c2))]
    simp only[XX,XY,F24,yA,yB,yC,pV,d1,d2]
    exact Tl.nil h hm
   have d2:=decide_eq_false c2
   rw[if_neg (λe=>by rcases e with e|e|e;cases e;exact c1 e;exact c2 e)]
   simp only[XX,XY,F24,yA,yB,yC,pV,d1,d2]
   refine cX (post_ok (h.bump _) hm.bump (ht.bump _) hg (by omega) (by omega)) λu M hB=>?_
   have hB:=hB.of_bump
   have nx:=hB.next
   obtain⟨L1,a1,x1,f1⟩:=id hB
   have ef:L1.f=L.f:=x1.f
   simp only[XX,XY,F24,yA,yB,yC,nx]
   refine cX (by rw[<-ef];exact told_ok (a1.bump _) f1.fresh.bump) λu M9 hM9=>?_
   obtain⟨rfl,hB9,hsl⟩:=hM9
   have hB9:=hB9.of_bump
   have n9:=hB9.next
   have n10:m.next<=M9.next:=by omega
   simp only[XX,XY,yA,yB]
   have hBe:Be m L (toldX (postX X pid g)) M9:=bE x1 f1 hB9
   exact⟨hBe.grow,hBe,_,rfl,hsl,λy hy=>(x1.D y (a1.ds y hy))⟩
end
section
variable{m m' M mr:Mem}{n:Nat}{L L' L1 L2:Loc}{X X' X1 X2 Y W:St}{v:Value}{fl:List Value}{pid:Int}
def tk1(X:St)(i:Nat):St:={X with P:=X.P.set i {X.p i with left:=(X.p i).left-1#32}}
def tick1(X:St)(i:Nat):St:=if(X.p i).left-1#32=0#32 then readyX (answerX (tk1 X i) i 0#32) i else tk1 X i
def tickS(X:St)(i:Nat):St:=if(X.p i).wait=5 then tick1 X i else X
def tickI(X:St)(l:List Nat):St:=l.foldl tickS X
def tickR(X:St):Rn:=if X.halted=true then⟨X,[],181⟩ else toldR (tickI X X.l)
theorem tickI_succ{k:Nat}(hk:k<X.l.length):tickI X (X.l.take (k+1))=tickS (tickI X (X.l.take k)) (X.l.getD k 0):=by
 unfold tickI
 rw[l_take hk,List.foldl_append];rfl
theorem Sx.tk1(h:GX X){i:Nat}(hi:i<X.P.length):Sx 0 0 X (tk1 X i):=Sx.set_p h ((h.px hi).w rfl rfl (.inl rfl) (.inl rfl))
theorem Sx.tick1(h:GX X){i:Nat}(hi:i<X.P.length):Sx 0 1 X (tick1 X i)∧(tick1 X i).P.length=X.P.length∧(tick1 X i).l=X.l:=by
 have h1:=Sx.tk1 h hi
 have hi1:i<(Go.Ab.tk1 X i).P.length:=by show i<(X.P.set i _).length;rw[sL];exact hi
 unfold Go.Ab.tick1
 split
 ·have h2:=h1.trans (Sx.answer (v:=0#32) h1.sh.gx hi1)
  exact⟨h2.trans (Sx.ready h2.sh.gx (lL hi h2.sh.P)),by simp[readyX,answerX,seeX,Go.Ab.tk1],rfl⟩
 ·exact⟨h1.up (by omega) (by omega),by simp[Go.Ab.tk1],rfl⟩
theorem Sx.tickI:∀{l:List Nat} {X:St},GX X->(∀j∈l,j<X.P.length)->Sx 0 l.length X (tickI X l)∧(tickI X l).P.length=X.P.length∧(tickI X l).l=X.l
 |[],X,h,_=>⟨Sx.refl h,rfl,rfl⟩
 |i::l,X,h,hl=>by
  have key:Sx 0 1 X (tickS X i)∧(tickS X i).P.length=X.P.length∧(tickS X i).l=X.l:=by
   unfold tickS
   split
   ·exact Sx.tick1 h (hl i List.mem_cons_self)
   ·exact⟨(Sx.refl h).up (by omega) (by omega),rfl,rfl⟩
  obtain⟨a1,a2,a3⟩:=key
  obtain⟨b1,b2,b3⟩:=Sx.tickI (l:=l) a1.sh.gx (λk hk=>by rw[a2];exact hl k (List.mem_cons_of_mem _ hk))
  exact⟨(a1.trans b1).up (by omega) (by simp;omega),b2.trans a2,b3.trans a3⟩
theorem tick_t(h:FAt m L X){i:Nat}(hi:i<X.P.length):Con EE.P 69 [PT (L.p i)] m (.bool (decide ((X.p i).wait=5))) m:=by
 refine Con.of EE_ok fn69 (bA rfl) Grow.rfl λhm=>?_
 obtain⟨cs,h1,h2⟩:=h.pr i hi
 simp only[XX,XY,F69,yA,yB,yC,h1,h2.wait]
 exact tP rfl λ_ _=>rfl
theorem tick_round{lp i j:Nat}{tl:List (Nat×Value)}(hF:Fresh M)(ht:Tb M)(hA:FAt M L2 X)(hg:GX X)(hl:M.get lp=some (.loop {state:= .ready,pend:=none,tmps:=T 32 tl,ps:=[13],assign:=(kO Tryz.f34.body 15),body:=(kO Tryz.f34.body 16)}))(hD:¬L2.D lp)(h64:64<=lp)(hi:i<X.P.length)(hs:X.seen.length<99999)(hf:X.fut.length<99999):
  ∃u m',RCon EE.P lp [PT (L2.p i)] (M.bump j) u m'∧u= .bool true∧M.next+j<=m'.next∧Be M L2 (tick1 X i) m':=by
 have hlt:=hF.lt hl
 obtain⟨cs,h1,h2⟩:=hA.pr i hi
 have hpl:=hA.ids_lt (hA.mp hi)
 have nlp:¬lp=L2.p i:=λe=>hD (by rw[e];exact hA.dm _ (hA.mp hi))
 have npl:¬L2.p i=lp:=λe=>nlp e.symm
 have k1:51+1<=cs.n:=by rw[h2.n];decide
 have hp:=h2.w_left (x:=(X.p i).left-1#32)
 have hp':(cs.write 51 [Um ((X.p i).left-1#32)]).nth 51=some (Um ((X.p i).left-1#32)):=hp.left
 refine RCon.of EE_ok (by rw[gB];exact hl) rfl rfl ?_
 have hne:∀k,¬lp=M.next+k:=λk=>by omega
 unfold tick1
 by_cases z0:(X.p i).left-1#32=0#32
 ·have dz:decide ((((X.p i).left-1#32).toNat:Int)=0)=true:=by rw[eq0];exact decide_eq_true z0
  rw[if_pos z0]
  simp only[XX,XY,F34,yA,yB,yC,yG,hl,h1,npl,h2.left,k1,sub1u,hp',dz]
  have A1:∀o1,FAt ((M.put lp o1).put (L2.p i) (.cells (cs.write 51 [Um ((X.p i).left-1#32)]) true 0)) L2 (tk1 X i):=λo1=>(hA.new hD).put_p hi hp
  have F1:∀o1,Fd L2.D ((M.put lp o1).bump (j+16)) (((M.put lp o1).put (L2.p i) (.cells (cs.write 51 [Um ((X.p i).left-1#32)]) true 0)).bump (j+16)):=λo1=>by
   rw[<-put_bump]
   exact Fd.own ((hA.new hD).bump _) (hF.put hlt).bump (hA.mp hi)
  have S1:=Sx.tk1 hg hi
  have hi1:i<(tk1 X i).P.length:=by show i<(X.P.set i _).length;rw[sL];exact hi
  refine cX (answer_ok (v:=0#32) ((A1 _).bump _) (F1 _).fresh (((ht.put (b:=lp) (o:=_) h64).put (hA.d64 _ (hA.dm _ (hA.mp hi)))).bump _) hi1 (show X.seen.length<100000 by omega)) λu M5 hB5=>?_
  have hB5:=bE Lx.refl (F1 _) hB5
  have n5:=hB5.next
  simp only[bN,nP] at n5
  obtain⟨L5,a5,x5,f5⟩:=id hB5
  have e5:L5.p i=L2.p i:=x5.p (by rw[hA.lP];exact hi)
  have hl5:=hB5.old (y:=lp) nO hD
  simp only[gB,gP,if_true] at hl5
  have m5a:M.next+j<=M5.next:=by omega
  have m5b:∀k,k<=16->M.next+(j+k)<=M5.next:=λk hk=>by omega
  simp only[XX,XY,F34,yA,yB,yC,yG,m5b]
  refine cX (by rw[<-e5];exact ready_ok (a5.bump _) f5.fresh.bump (by show i<((tk1 X i).P.set i _).length;rw[sL];exact hi1) (show X.fut.length<100000 by omega)) λu M7 hB7=>?_
  have hB7:=bE x5 f5 hB7.of_bump
  have n7:=hB7.next
  simp only[bN,nP] at n7
  have hl7:=hB7.old (y:=lp) nO hD
  simp only[gB,gP,if_true] at hl7
  have m7b:∀k,k<=16->M.next+(j+k)<=M7.next:=λk hk=>by omega
  have m7a:M.next+j<=M7.next:=by omega
  rw[<-put_bump] at hB7
  simp only[XX,XY,yA,yG,hl7,m7a,m7b]
  have hBl:=Be.loop (M:=M.bump (j+16)) (by rw[gB];exact hl) nO hD hB7
  exact⟨hBl.grow_b (by omega),hBl.of_bump⟩
 ·have dz:decide ((((X.p i).left-1#32).toNat:Int)=0)=false:=by rw[eq0];exact decide_eq_false z0
  rw[if_neg z0]
  simp only[XX,XY,F34,yA,yB,yC,yG,hl,h1,nlp,npl,h2.left,k1,sub1u,hp',dz]
  rw[<-put_bump,<-put_bump,<-put_bump]
  have hBl:=Be.loop (M:=M.bump (j+14)) (by rw[gB];exact hl) nO hD (((hA.bump (j+14)).new (o:= .loop {state:= .busy,pend:=none,tmps:=T 32 tl,ps:=[13],assign:=(kO Tryz.f34.body 15),body:=(kO Tryz.f34.body 16)}) hD).be_p (hF.bump.put nO) hi hp)
  exact⟨hBl.grow_b (by omega),hBl.of_bump⟩
theorem fTick_ok(h:FAt m L X)(hm:Fresh m)(ht:Tb m)(hg:GX X)(hs:X.seen.length+X.fut.length<99000):∃u m',Con EE.P 34 [PT L.f] m u m'∧Tl m L (tickR X) u m':=by
 refine Con.raw EE_ok fn34 (bA rfl) _ ?_
 unfold tickR
 simp only[XX,XY,F34,yA,yB,yC]
 refine cZ (may_ok (h.bump _) hg) ?_
 cases hh:X.halted with
 |true=>
  rw[if_pos rfl]
  simp only[XX,XY,F34,yA,yB,yC,yH]
  exact Tl.nil h hm
 |false=>
  rw[if_neg (by simp)]
  simp only[XX,XY,F34,yA,yB,yC]
  refine cX (some_ok (L:=L) (x:= .func (.func 69) #[] #[]) hm.bump rfl) λu M hv=>?_
  obtain⟨x1,x2,rfl,x3,x4,x5,x6,x7,hn1⟩:=hv
  have hNM:=hn1.of_bump
  have n1:=hn1.next
  simp only[bN] at n1 x3 x4
  have hA:FAt M L X:=h.nx hNM
  have n2:m.next<=M.next:=by omega
  simp only[XX,F34,yA]
  refine W_rfnx (g:=101) (l':=[(0,PT L.f)]) (R:=λ_ m2=>(∃r:ALoop,m2.get M.next=some (.loop r)∧r.state= .ready∧r.pend=none)∧∀o,Be M L (tickI X X.l) (m2.put M.next o)) [] [PT x1,PT x2] (by omega) (by simp only[ev_T,lk_cons,Nat.reduceLT,Nat.reduceEqDiff,reduceIte]) kr ?_ (λp hp=>?_) (λ_ m2 hI=>?_)
  ·have e0:tickI X (X.l.take 0)=X:=rfl
   have ee:tickI X X.l=(λk=>tickI X (X.l.take k)) X.l.length:=by simp only[List.take_length]
   rw[ee]
   refine some_loop (g:=69) (cap:=[]) hn1.fresh hA hg x5 x6 (λe=>by have:=h.lt _ e;omega) kr ⟨rfl,rfl⟩ (λk=>tickI X (X.l.take k)) e0 λk M' L2 hk hF' hA' hx' hD' hn' hl' ho'=>?_
   obtain⟨S1,S2,S3⟩:=Sx.tickI (l:=X.l.take k) hg (λj hj=>h.pi j (List.mem_of_mem_take hj))
   have hi:X.l.getD k 0<(tickI X (X.l.take k)).P.length:=by rw[S2];exact h.lk hk
   have ep:L.p (X.l.getD k 0)=L2.p (X.l.getD k 0):=(hx'.p (by rw[h.lP];exact h.lk hk)).symm
   have hl32:(X.l.take k).length<=32:=by have:=hg.ln;rw[List.length_take];omega
   have s1:=S1.sh.sn
   have s2:=S1.fl
   refine⟨decide (((tickI X (X.l.take k)).p (X.l.getD k 0)).wait=5),λj=>?_,λe=>?_,λe j=>?_⟩
   ·rw[ep];exact tick_t (hA'.bump j) hi
   ·show tickI X (X.l.take (k+1))=tickI X (X.l.take k)
    rw[tickI_succ hk];unfold tickS;rw[if_neg (of_decide_eq_false e)]
   ·show∃u m',RCon EE.P M.next _ _ u m'∧u= .bool true∧_∧Be M' L2 (tickI X (X.l.take (k+1))) m'
    rw[tickI_succ hk];unfold tickS;rw[if_pos (of_decide_eq_true e),ep]
    have htM':Tb M':=ht.keep λy hy=>by rw[ho' y (by have:=hm.n64;omega) (λe=>by have:=h.d64 _ e;omega),hNM.old y (by have:=hm.n64;omega)]
    exact tick_round hF' htM' hA' S1.sh.gx hl' hD' (by have:=hm.n64;omega) hi (by omega) (by omega)
  ·rw[List.mem_singleton.1 hp];exact rv_old (by have:=h.ids_lt h.mf;omega)
  ·obtain⟨⟨r,q1,q2,q3⟩,q4⟩:=hI
   obtain⟨st,pe,tm,ps,sa,bd⟩:=r
   simp only at q2 q3
   subst q2 q3
   refine rfnQ_normal q1 ?_
   have hB:=q4 (.loop {state:= .exhausted,pend:=none,tmps:=tm,ps:=ps,assign:=sa,body:=bd})
   have hBm:Be m L (tickI X X.l) _:=bE Lx.refl (Fd.of_nx hNM) hB
   have nx:=hBm.next
   rw[nP] at nx
   obtain⟨L1,a1,y1,f1⟩:=id hBm
   have ef:L1.f=L.f:=y1.f
   simp only[XX,XY,F34,yA,yB,yC,nx]
   refine cX (by rw[<-ef];exact told_ok (a1.bump _) f1.fresh.bump) λu M9 hM9=>?_
   obtain⟨rfl,hB9,hsl⟩:=hM9
   have hB9:=hB9.of_bump
   have n9:=hB9.next
   rw[nP] at n9
   have n10:m.next<=M9.next:=by omega
   simp only[XX,XY,yA,yB]
   have hBe:Be m L (toldX (tickI X X.l)) M9:=bE y1 f1 hB9
   exact⟨hBe.grow,hBe,_,rfl,hsl,λy hy=>(y1.D y (a1.ds y hy))⟩
end
section
variable{X Y Z W:St}{i j k:Nat}
def Kk(X Y:St):Prop:=Y.l=X.l∧X.P.length<=Y.P.length
theorem Kk.refl:Kk X X:=⟨rfl,lR' _⟩
theorem Kk.trans(h:Kk X Y)(g:Kk Y Z):Kk X Z:=⟨g.1.trans h.1,lT h.2 g.2⟩
theorem Lk.kk(h:Lk X)(g:Kk X Y):Lk Y:=λj hj=>by
 rw[g.1] at hj
 exact lL (h j hj) g.2
theorem Kk.set_p{r:Proc}:Kk X {X with P:=X.P.set i r}:=⟨rfl,by simp⟩
theorem Kk.answer{v:BitVec 32}:Kk X (answerX X i v):=⟨rfl,by simp[answerX,seeX]⟩
theorem Kk.see{a b:Int}{v:BitVec 32}:Kk X (seeX X i a b v):=Kk.refl
theorem Kk.ready:Kk X (readyX X i):=⟨rfl,by simp[readyX]⟩
theorem Kk.wake{w:Int}{q:Nat}{l:List Nat}:Kk X (wakeI X w q l):=⟨wakeI_P.2.2.2.1,Nat.le_of_eq wakeI_P.1.symm⟩
theorem Kk.child{pid:Int}:Kk X (childX X pid):=by
 unfold childX
 split
 ·split
  ·exact Kk.ready
  ·exact Kk.refl
 ·exact Kk.refl
theorem Kk.unmap{k:Nat}:Kk X (unmapX X i k):=by
 unfold unmapX
 split
 ·exact Kk.refl
 ·first|exact Kk.set_p|exact⟨rfl,by simp⟩|(split<;>exact⟨rfl,by simp⟩)
theorem Kk.unmaps:∀{l:List Nat} {X:St},Kk X (unmapsX X i l)
 |[],X=>Kk.refl
 |k::l,X=>Kk.unmap.trans (Kk.unmaps (l:=l))
theorem Kk.write{a:BitVec 32}{l:List (BitVec 8)}:Kk X (writeX X i a l).1:=⟨writeX_l,Nat.le_of_eq writeX_P.symm⟩
theorem Kk.orph{l:List Nat}{Z:St×Bool}:Kk Z.1 (orphI i l Z).1:=by
 obtain⟨P',e,h⟩:=orphI_as (i:=i) (l:=l) (Z:=Z)
 rw[e];exact⟨rfl,Nat.le_of_eq h.symm⟩
theorem Sh.orph(h:GX X)(hl:Lk X):Sh 0 X (orphI i X.l (X,false)).1:=by
 have hg:GX (orphI i X.l (X,false)).1:=GX.orphI (Z:=(X,false)) h hl
 obtain⟨P',e,hP⟩:=orphI_as (i:=i) (l:=X.l) (Z:=(X,false))
 rw[e] at hg⊢
 exact⟨Nat.le_of_eq hP.symm,lR' _,lR' _,lR' _,lR' _,lR' _,lR' _,hg⟩
theorem Sx.exitD{Z:St×Bool}(h:GX Z.1)(hl:Lk Z.1):Sx 0 0 Z.1 (exitD Z i)∧Kk Z.1 (exitD Z i):=by
 unfold Go.Ab.exitD
 cases Z.2 with
 |false=>
  simp only[bF,if_false]
  exact⟨.of (Sh.child h hl),Kk.child⟩
 |true=>
  simp only[if_true]
  have h1:Sx 0 0 Z.1 (childX Z.1 1):= .of (Sh.child h hl)
  exact⟨h1.trans (.of (Sh.child h1.sh.gx (hl.kk Kk.child))),Kk.child.trans Kk.child⟩
theorem Sx.exitB(h:GX Y)(hl:Lk Y):Sx 0 1 Y (exitB Y i):=by
 unfold Go.Ab.exitB
 split
 ·exact⟨⟨lR' _,lR' _,lR' _,lR' _,lR' _,Nat.le_add_right _ _,Nat.le_add_right _ _,h.set_halted⟩,lR' _⟩
 ·have h1:Sx 0 0 Y (orphI i Y.l (Y,false)).1:= .of (Sh.orph h hl)
  have k1:Kk Y (orphI i Y.l (Y,false)).1:=Kk.orph (Z:=(Y,false))
  obtain⟨h2,k2⟩:=Sx.exitD (i:=i) h1.sh.gx (hl.kk k1)
  exact(h1.trans h2).trans (Sx.post (h1.trans h2).sh.gx (hl.kk (k1.trans k2)))
theorem exitA_kk{s:BitVec 32}:Kk X (exitA X i s):=by
 unfold exitA unmapAllX
 exact Kk.trans (Kk.trans (Kk.see (i:=i) (a:=4) (b:=0) (v:=s)) (Kk.ready (i:=i))) (Kk.trans Kk.set_p Kk.unmaps)
theorem Sx.exit(h:GX X)(hi:i<X.P.length)(hl:Lk X){s:BitVec 32}:Sx 0 2 X (exitX X i s):=by
 unfold exitX exitC
 have h1:=Sh.exitA (s:=s) h hi
 have hA:Sx 0 1 X (exitA X i s):=⟨h1,by
  unfold exitA
  have a1:=Sx.see (i:=i) (a:=4) (b:=0) (v:=s) h
  have a2:=Sx.ready (i:=i) a1.sh.gx (lL hi a1.sh.P)
  have hi2:=lL hi (lT a1.sh.P a2.sh.P)
  have a3:=Sh.dead (s:=s) a2.sh.gx hi2
  have a4:=Sh.unmaps (i:=i) (l:=List.range 64) a3.gx (lL hi2 a3.P)
  have:=a4.fut;have:=a3.fut;have:=a2.fl;have:=a1.fl
  unfold unmapAllX
  omega⟩
 have hiA:=lL hi h1.P
 have hlA:=hl.kk (exitA_kk (i:=i) (s:=s))
 obtain⟨b1,b2,b3⟩:=Sh.closes (i:=i) (F:=((exitA X i s).p i).fds) (l:=List.range 8) (λk y hy=>(h1.gx.fd i hiA).2 k y hy) h1.gx hiA hlA
 have hlC:=hlA.kk ⟨b2,Nat.le_of_eq b3.symm⟩
 exact((hA.trans (.of b1)).trans (Sx.exitB b1.gx hlC)).up (by omega) (by omega)
theorem Sx.fork(h:GX X)(hi:i<X.P.length):Sx 0 1 X (forkX X i):=by
 unfold forkX
 split
 ·exact Sx.code h hi
 ·rename_i hc
  have hc1:X.l.length<X.procs:=by
   by_cases e:X.procs<=X.l.length
   ·exact absurd (.inl e) hc
   ·omega
  have hc2:X.next<=65535:=by
   by_cases e:65535<X.next
   ·exact absurd (.inr e) hc
   ·omega
  have a1:=Sh.forkA h hi hc2
  have hj:X.P.length<(forkA X i).P.length:=by simp[forkA]
  have hiA:i<(forkA X i).P.length:=by omega
  have a2:Sh 0 (forkA X i) (forkB X i):=Sh.cloneI a1.gx hj (a1.gx.pg i hiA).2
  have kl1:Kl (forkA X i) (forkB X i):=cloneI_Kl
  have hjB:=lL hj a2.P
  have a3:Sh 0 (forkB X i) (forkC (forkB X i) X.P.length):=Sh.sharesX a2.gx (a2.gx.fd _ hjB).2
  have kl2:Kl (forkB X i) (forkC (forkB X i) X.P.length):=sharesX_Kl
  have h3:=(a1.trans a2).trans a3
  have el:(forkC (forkB X i) X.P.length).l=X.l:=kl2.1.trans kl1.1
  have epr:(forkC (forkB X i) X.P.length).procs=X.procs:=kl2.2.1.trans kl1.2.1
  generalize forkC (forkB X i) X.P.length=V at h3 el epr a3⊢
  have hjV:=lL hjB a3.P
  have a4:Sh 0 V (forkD V X.P.length):=Sh.set_p h3.gx ((h3.gx.px hjV).w rfl rfl (.inl rfl) (.inl rfl))
  have g5:GX (forkE (forkD V X.P.length) X.P.length):=a4.gx.set_l (by
   show((V.l++ [X.P.length]).length:Int)<=V.procs
   rw[el,epr,aL]
   show((X.l.length+1:Nat):Int)<=_
   omega)
  have a5:Sh 0 (forkD V X.P.length) (forkE (forkD V X.P.length) X.P.length):=⟨lR' _,lR' _,lR' _,lR' _,lR' _,lR' _,lR' _,g5⟩
  have h5:=(h3.trans a4).trans a5
  exact(Sx.of h5).trans (Sx.answer h5.gx (lL hi h5.P))
theorem Sx.wait(h:GX X)(hi:i<X.P.length){a:BitVec 32}:Sx 0 1 X (waitX X i a):=by
 unfold waitX
 split
 ·exact Sx.code h hi
 split
 ·exact Sx.up (Sx.set_p (i:=i) (r:={X.p i with wait:=1}) h ((h.px hi).w rfl rfl (.inl rfl) (.inl rfl))) (by omega) (by omega)
 have key:∀W:St×Int,Sx 0 0 X W.1->∀k,Sx 0 1 X (waitB W i k):=λW hW k=>by
  unfold waitB
  split
  ·have g1:GX {W.1 with l:=W.1.l.take k++W.1.l.drop (k+1)}:=hW.sh.gx.set_l (by
    have:=hW.sh.gx.lp
    rw[aL,List.length_take,List.length_drop]
    omega)
   have a1:Sx 0 0 W.1 {W.1 with l:=W.1.l.take k++W.1.l.drop (k+1)}:=⟨⟨lR' _,lR' _,lR' _,lR' _,lR' _,lR' _,lR' _,g1⟩,lR' _⟩
   exact(hW.trans a1).trans (Sx.answer g1 (lL hi hW.sh.P))
  ·exact hW.trans (Sx.code hW.sh.gx (lL hi hW.sh.P))
 split
 ·exact key _ (Sx.refl h) _
 ·exact key _ (.of (Sh.write h hi)) _
theorem Sx.pipe(h:GX X)(hi:i<X.P.length){a:BitVec 32}{F:List Nat}:Sx 0 1 X (pipeC X i a F):=by
 unfold pipeC
 split
 ·exact Sx.code h hi
 split
 ·exact Sx.code h hi
 have hW:Sx 0 0 X (writeX X i a (pipeW F)).1:= .of (Sh.write h hi)
 have hiW:=lL hi hW.sh.P
 unfold pipeB
 split
 ·have a1:Sx 0 0 _ (pipeA (writeX X i a (pipeW F)).1 i (F.getD 0 0) (F.getD 1 0)):= .of (Sh.pipeA hW.sh.gx hiW)
  exact(hW.trans a1).trans (Sx.answer a1.sh.gx (lL hiW a1.sh.P))
 ·exact hW.trans (Sx.code hW.sh.gx hiW)
theorem Sx.wakes(h:GX X)(hl:Lk X){q:Nat}{b:List (BitVec 8)}{w:Int}(hb:(b.length:Int)<=X.cap):Sx 0 0 X (wakeX {X with I:=X.I.set q {X.i q with b:=b}} w q)∧Kk X (wakeX {X with I:=X.I.set q {X.i q with b:=b}} w q):=by
 have g1:GX {X with I:=X.I.set q {X.i q with b:=b}}:=h.set_i hb
 have a1:Sx 0 0 X {X with I:=X.I.set q {X.i q with b:=b}}:=⟨⟨lR' _,lR' _,by simp,lR' _,lR' _,lR' _,lR' _,g1⟩,lR' _⟩
 exact⟨a1.trans (.of (Sh.wake g1 hl)),Kk.wake⟩
theorem Sx.readP(h:GX X)(hi:i<X.P.length)(hl:Lk X){q:Nat}(hq:q<X.I.length){a n:BitVec 32}:Sx 0 1 X (readPX X i q a n):=by
 unfold readPX
 split
 ·exact Sx.code h hi
 split
 ·have hp:=h.px hi
  exact Sx.up (Sx.set_p (i:=i) (r:={X.p i with wait:=2,pipe:=some q}) h ⟨hp.pg,hp.fd,λq' hq'=>by cases hq';exact hq,hp.fc,hp.fp⟩) (by omega) (by omega)
 have hW:Sx 0 0 X (writeX X i a ((X.i q).b.take (rdK X q n))).1:= .of (Sh.write h hi)
 have hI:(writeX X i a ((X.i q).b.take (rdK X q n))).1.I=X.I:=writeX_I
 have kW:Kk X (writeX X i a ((X.i q).b.take (rdK X q n))).1:=Kk.write
 generalize writeX X i a ((X.i q).b.take (rdK X q n))=W at hW hI kW⊢
 have hiW:=lL hi hW.sh.P
 unfold readZ
 split
 ·unfold readY
  split
  ·obtain⟨a1,k1⟩:=Sx.wakes (q:=q) (b:=(W.1.i q).b.drop (rdK X q n)) (w:=3) hW.sh.gx (hl.kk kW) (by
    have:=hW.sh.gx.ib q (by rw[hI];exact hq)
    rw[List.length_drop];omega)
   exact(hW.trans a1).trans (Sx.answer a1.sh.gx (lL hiW a1.sh.P))
  ·exact hW.trans (Sx.answer hW.sh.gx hiW)
 ·exact hW.trans (Sx.code hW.sh.gx hiW)
theorem Sx.writeP(h:GX X)(hi:i<X.P.length)(hl:Lk X){q:Nat}(hq:q<X.I.length){a n:BitVec 32}:Sx 0 1 X (writePX X i q a n):=by
 unfold writePX
 split
 ·exact Sx.code h hi
 split
 ·exact Sx.code h hi
 split
 ·have hp:=h.px hi
  exact Sx.up (Sx.set_p (i:=i) (r:={X.p i with wait:=3,pipe:=some q}) h ⟨hp.pg,hp.fd,λq' hq'=>by cases hq';exact hq,hp.fc,hp.fp⟩) (by omega) (by omega)
 cases hr:readX X i a (min n.toNat (wrR X q)) with
 |none=>exact Sx.code h hi
 |some l=>
  have hlen:=readX_len hr
  show Sx 0 1 X (answerX (wrY X q l) i _)
  unfold wrY
  split
  ·obtain⟨a1,k1⟩:=Sx.wakes (q:=q) (b:=(X.i q).b++l) (w:=2) h hl (by
    have:=h.ib q hq
    rw[aL]
    unfold wrR at hlen
    omega)
   exact a1.trans (Sx.answer a1.sh.gx (lL hi a1.sh.P))
  ·exact Sx.answer h hi
theorem Sx.files(h:GX X)(hi:i<X.P.length)(hl:Lk X){n:Int}{a0 a1 a2:BitVec 32}:Sx 0 1 X (filesX X i n a0 a1 a2):=by
 unfold filesX filesF
 split
 ·exact Sx.pipe h hi
 split
 ·exact Sx.code h hi
 ·rename_i x hx
  obtain⟨h8,hgx,hxl⟩:=endX_lt h hi hx
  have hq:=h.xp x hxl
  split
  ·exact Sx.readP h hi hl hq
  split
  ·exact Sx.writeP h hi hl hq
  split
  ·unfold closeF
   have b1:Sx 0 0 X (fdS X i a0.toNat none):=Sx.set_p h ((h.px hi).s_fds (λx e=>by cases e))
   have b2:=Sx.answer (v:=0#32) b1.sh.gx (lL hi b1.sh.P)
   have b3:Sx 0 0 _ (dropX (answerX (fdS X i a0.toNat none) i 0#32) x):= .of (Sh.drop b2.sh.gx (lL hxl (lT b1.sh.F b2.sh.F)) (hl.kk (Kk.set_p.trans Kk.answer)))
   exact(b1.trans b2).trans b3
  split
  ·exact Sx.code h hi
  split
  ·exact Sx.code h hi
  ·unfold dupX
   have g1:GX (refX X x):=h.set_x hq
   have b1:Sx 0 0 X (refX X x):=⟨⟨lR' _,by simp[refX],lR' _,lR' _,lR' _,lR' _,lR' _,g1⟩,lR' _⟩
   have b2:Sx 0 0 (refX X x) (fdS (refX X x) i ((freeN (X.p i).fds 8).getD 0 0) (some x)):=Sx.set_p g1 ((g1.px hi).s_fds (λy e=>by cases e;simpa [refX] using hxl))
   exact(b1.trans b2).trans (Sx.answer b2.sh.gx (lL hi b2.sh.P))
theorem Sx.stepC(h:GX X)(hi:i<X.P.length):Sx 0 0 X (stepC X i):=Sx.set_p h ((h.px hi).w rfl rfl (.inl rfl) (.inl rfl))
theorem Sx.others(h:GX X)(hi:i<X.P.length)(hl:Lk X){n:Int}{a0 a1 a2:BitVec 32}:Sx 0 2 X (othersX X i n a0 a1 a2):=by
 have up1:∀{Y:St},Sx 0 1 X Y->Sx 0 2 X Y:=λg=>g.up (by omega) (by omega)
 have up0:∀{Y:St},Sx 0 0 X Y->Sx 0 2 X Y:=λg=>g.up (by omega) (by omega)
 unfold othersX
 split
 ·exact Sx.exit h hi hl
 split
 ·exact up1 (Sx.fork h hi)
 split
 ·exact up1 (Sx.wait h hi)
 split
 ·exact up1 (Sx.answer h hi)
 split
 ·exact up1 (Sx.answer h hi)
 split
 ·split
  ·exact up1 (Sx.answer h hi)
  ·exact up0 (Sx.set_p h ((h.px hi).w rfl rfl (.inl rfl) (.inl rfl)))
 split
 ·exact up1 (Sx.answer h hi)
 split
 ·have b1:Sx 0 0 X (mapPagesX X i a0 a1 a2).1:= .of (Sh.mapPages h hi)
  exact up1 (b1.trans (Sx.code b1.sh.gx (lL hi b1.sh.P)))
 split
 ·have b1:Sx 0 0 X (unmapPagesX X i a0.toNat a1.toNat).1:= .of (Sh.unmapPages h hi)
  exact up1 (b1.trans (Sx.code b1.sh.gx (lL hi b1.sh.P)))
 split
 ·unfold affX
  split
  ·exact up1 (Sx.code h hi)
  ·have b1:Sx 0 0 X {X with P:=X.P.set i {X.p i with aff:=a0}}:=Sx.set_p h ((h.px hi).w rfl rfl (.inl rfl) (.inl rfl))
   exact up1 (b1.trans (Sx.answer b1.sh.gx (lL hi b1.sh.P)))
 split
 ·unfold printX
  have b1:=Sx.see (i:=i) (a:=2) (b:=0) (v:=a0) h
  exact up1 (b1.trans (Sx.stepC b1.sh.gx (lL hi b1.sh.P)))
 ·exact up0 (Sx.refl h)
theorem Sx.call(h:GX X)(hi:i<X.P.length)(hl:Lk X)(hf:∀j∈X.fut,j<X.P.length):Sx 1 (X.fut.length+2) X (callX X i):=by
 unfold callX
 split
 ·unfold callB
  split
  ·exact(Sx.files h hi hl).up (by omega) (by omega)
  split
  ·exact(Sx.sigs h hi hl).up (by omega) (by omega)
  split
  ·exact(Sx.futex h hi hf).up (by omega) (by omega)
  ·exact(Sx.others h hi hl).up (by omega) (by omega)
 ·exact(Sx.code h hi).up (by omega) (by omega)
theorem writeX_fut{a:BitVec 32}{l:List (BitVec 8)}:(writeX X i a l).1.fut=X.fut:=by
 unfold writeX
 split
 ·rfl
 ·split
  ·rfl
  ·exact putsX_P.2.1
theorem coreX_kk:Kk X (coreX X i).X∧(coreX X i).X.fut=X.fut:=by
 unfold coreX
 split
 ·unfold coreE
  simp only
  repeat' split
  all_goals first|exact⟨Kk.refl,rfl⟩|exact⟨Kk.write,writeX_fut⟩
 ·exact⟨Kk.refl,rfl⟩
theorem Sx.step(h:GX X)(hi:i<X.P.length)(hl:Lk X)(hf:∀j∈X.fut,j<X.P.length):Sx 1 (X.fut.length+2) X (stepX X i):=by
 unfold stepX stepB
 have b1:Sx 0 0 X (sigS X i (nextSg (X.p i).sig).2.2):=Sx.set_p h ((h.px hi).w rfl rfl (.inl rfl) (.inl rfl))
 have hi1:=lL hi b1.sh.P
 have hl1:Lk (sigS X i (nextSg (X.p i).sig).2.2):=hl.kk Kk.set_p
 split
 ·exact(b1.trans (Sx.exit b1.sh.gx hi1 hl1)).up (by omega) (by omega)
 split
 ·have b2:Sx 0 0 X (handX X i (nextSg (X.p i).sig).2.2 (nextSg (X.p i).sig).1):=Sx.set_p h ((h.px hi).w rfl rfl (.inl rfl) (.inl rfl))
  exact(b2.trans (Sx.see b2.sh.gx)).up (by omega) (by omega)
 ·have b3:=b1.trans (Sx.core (i:=i) b1.sh.gx hi1)
  obtain⟨k3,f3⟩:=coreX_kk (X:=sigS X i (nextSg (X.p i).sig).2.2) (i:=i)
  have hi3:=lL hi b3.sh.P
  have hl3:=hl1.kk k3
  have hf3:∀j∈(coreX (sigS X i (nextSg (X.p i).sig).2.2) i).X.fut,j<(coreX (sigS X i (nextSg (X.p i).sig).2.2) i).X.P.length:=λj hj=>by
   rw[f3] at hj
   exact lL (hf j hj) b3.sh.P
  have hfl:=b3.fl
  generalize coreX (sigS X i (nextSg (X.p i).sig).2.2) i=Z at b3 hi3 hl3 hf3 hfl⊢
  unfold coreS
  split
  ·exact(b3.trans (Sx.call b3.sh.gx hi3 hl3 hf3)).up (by omega) (by omega)
  split
  ·exact(b3.trans (Sx.exit b3.sh.gx hi3 hl3)).up (by omega) (by omega)
  split
  ·exact(b3.trans (Sx.exit b3.sh.gx hi3 hl3)).up (by omega) (by omega)
  ·exact(b3.trans (Sx.set_p (i:=i) (r:={Z.X.p i with cpu:=Z.c}) b3.sh.gx ((b3.sh.gx.px hi3).w rfl rfl (.inl rfl) (.inl rfl)))).up (by omega) (by omega)
end
structure OpR where
 kind:Int
 core:Int
 n:Int
 pid:Int
 sig:Int
 mask:BitVec 32
 name:ByteArray
def opL(o:OpR):List Value:=[In o.kind,In o.core,In o.n,In o.pid,In o.sig,Um o.mask, .string o.name]
def OpsAt(m:Mem)(v:Value)(l:List OpR):Prop:=∃a C,v= .slice a l.length C∧(l=[]∨∃b cs ww z,a=some ⟨b,0,none⟩∧m.get b=some (.cells cs ww z)∧∀i o,l[i]? =some o->cs.sub (i*7) 7=some (opL o))
def pickOp(o:OpR)(R:List Int):Int:=if o.kind=1 then if R=[] then 0 else R.getD (((o.n.tmod R.length+R.length).tmod R.length).toNat) 0 else o.pid
section
variable{m m' M mr:Mem}{n:Nat}{L L' L1 L2:Loc}{X X' X1 X2 Y W:St}{v:Value}{fl:List Value}{pid:Int}
theorem pickOp_ok{o:OpR}{R:List Int}(hv:SlV m 1 v R.length (il R))(hR:R.length<1000):Con EE.P 31 [.agg (opL o).toArray,v] m (In (pickOp o R)) m:=by
 refine Con.of EE_ok fn31 (bA rfl) Grow.rfl λhm=>?_
 have hlen:∀M,lenA EE.P 41 v M=some (In R.length):=λM=>hv.lenA und_41
 by_cases hk:o.kind=1
 ·have d1:=decide_eq_true hk
  cases R with
  |nil=>
   have hlen:∀M,lenA EE.P 41 v M=some (In 0):=hlen
   have e:pickOp o []=0:=by unfold pickOp;rw[if_pos hk,if_pos rfl]
   rw[e]
   simp only[XX,XY,F31,yA,yB,yC,opL,d1,hlen]
   exact tP rfl λy hy=>gA
  |cons a R=>
   replace hlen:∀M,lenA EE.P 41 v M=some (In ((R.length+1:Nat):Int)):=hlen
   have z0:decide (((R.length+1:Nat):Int)=0)=false:=decide_eq_false (by omega)
   have e:pickOp o (a::R)=(a::R).getD (((o.n.tmod (R.length+1:Nat)+(R.length+1:Nat)).tmod (R.length+1:Nat)).toNat) 0:=by unfold pickOp;rw[if_pos hk,if_neg (by simp)];rfl
   have hl1:R.length+1<1000:=hR
   rw[e]
   have hk0:((R.length+1:Nat):Int)≠0:=by omega
   have b1:=Int.tmod_lt_of_pos o.n (show(0:Int)<((R.length+1:Nat):Int) by omega)
   have b2:=Int.lt_tmod_of_pos o.n (show(0:Int)<((R.length+1:Nat):Int) by omega)
   have hr1:∀ty (x:Int),binV EE.P .rem ty (In x) (In ((R.length+1:Nat):Int))=some (In (x.tmod ((R.length+1:Nat):Int))):=λty x=>bin_rem hk0
   have hw:IntKind.i64.wrap (o.n.tmod ((R.length+1:Nat):Int)+((R.length+1:Nat):Int))=o.n.tmod ((R.length+1:Nat):Int)+((R.length+1:Nat):Int):=wrap_i64 (by omega) (by omega)
   have c1:=Int.tmod_lt_of_pos (o.n.tmod ((R.length+1:Nat):Int)+((R.length+1:Nat):Int)) (show(0:Int)<((R.length+1:Nat):Int) by omega)
   have c2:=Int.tmod_nonneg ((R.length+1:Nat):Int) (show 0<=o.n.tmod ((R.length+1:Nat):Int)+((R.length+1:Nat):Int) by omega)
   have hr2:=hr1 3 (o.n.tmod ((R.length+1:Nat):Int)+((R.length+1:Nat):Int))
   have hr3:=hr1 3 o.n
   generalize(o.n.tmod ((R.length+1:Nat):Int)+((R.length+1:Nat):Int)).tmod ((R.length+1:Nat):Int)=q at c1 c2 hr2⊢
   obtain⟨b,c,cs,rfl,k1,k2,k3,k4⟩:=hv.cons (by simp)
   have hq:cs.nth q.toNat=some (In ((a::R).getD q.toNat 0)):=by
    have hql:q.toNat<(a::R).length:=by rw[List.length_cons];omega
    rw[nth_lt (by omega),k4 q.toNat (by rw[lM];exact hql),gD',gM',gD',gE' hql];rfl
   have nb:¬b=m.next:=by have:=hm.lt k1;omega
   simp only[XX,XY,F31,yA,yB,yC,opL,d1,z0,hr2,hr3,hw,c1,c2,k1,hq,nb]
   exact tP rfl λy hy=>gA
 ·have d1:=decide_eq_false hk
  have e:pickOp o R=o.pid:=by unfold pickOp;rw[if_neg hk]
  rw[e]
  simp only[XX,XY,F31,yA,yB,yC,opL,d1]
  exact tP rfl λy hy=>gA
def opX(X:St)(o:OpR):St:=if o.kind=1∨o.kind=2 then(runR X (pickOp o (pidsX X (rdyB X)))).X else if o.kind=3 then(tickR X).X else if o.kind=5 then(sigR X o.pid o.sig).X else X
def opsX(X:St)(l:List OpR):St:=l.foldl opX X
structure Ox(k:Nat)(X:St):Prop where
 gx:GX X
 sn:X.seen=[]
 fl:X.fut.length<=k
theorem Ox.up{a b:Nat}(h:Ox a X)(e:a<=b):Ox b X:=⟨h.gx,h.sn,by have:=h.fl;omega⟩
theorem Ox.told{k b:Nat}(h:Ox k X)(g:Sx 1 b X Y):Ox (k+1) (toldX Y):=⟨g.sh.gx.told,rfl,by show Y.fut.length<=_;have:=g.fl;have:=h.fl;omega⟩
theorem Ox.run{k:Nat}(h:Ox k X)(hl:Lk X)(hf:∀j∈X.fut,j<X.P.length):Ox (k+1) (runR X pid).X:=by
 unfold runR
 split
 ·exact h.up (by omega)
 ·cases e:liveX X pid with
  |none=>exact h.up (by omega)
  |some i=>
   rw[runB_1]
   split
   ·exact h.told (Sx.step h.gx (hl i (live_mem e)) hl hf)
   ·exact h.up (by omega)
theorem Ox.tick{k:Nat}(h:Ox k X)(hl:Lk X):Ox (k+1) (tickR X).X:=by
 unfold tickR
 split
 ·exact h.up (by omega)
 ·exact h.told ((Sx.tickI h.gx hl).1.up (by omega) (lR' _))
theorem Ox.sig{k:Nat}(h:Ox k X)(hl:Lk X){g:Int}:Ox (k+1) (sigR X pid g).X:=by
 unfold sigR
 split
 ·exact h.up (by omega)
 ·split
  ·exact h.up (by omega)
  ·exact h.told ((Sx.post h.gx hl).up (by omega) (lR' _))
theorem Ox.op{k:Nat}(h:Ox k X)(hl:Lk X)(hf:∀j∈X.fut,j<X.P.length){o:OpR}:Ox (k+1) (opX X o):=by
 unfold opX
 split
 ·exact h.run hl hf
 split
 ·exact h.tick hl
 split
 ·exact h.sig hl
 ·exact h.up (by omega)
theorem opsX_succ{l:List OpR}{k:Nat}{o:OpR}(ho:l[k]? =some o):opsX X (l.take (k+1))=opX (opsX X (l.take k)) o:=by
 unfold opsX
 rw[List.take_add_one,ho,List.foldl_append];rfl
theorem eqv_op{o:OpR}:EE.eqv (.agg (opL o).toArray) (.agg (opL o).toArray)=true:=eqvA λv hv=>by
 unfold opL at hv
 simp only[List.mem_cons,List.not_mem_nil,or_false] at hv
 rcases hv with rfl|rfl|rfl|rfl|rfl|rfl|rfl
 all_goals (try simp[vEqL,vEq,vEqN];done)
 show(o.name==o.name)=true
 generalize o.name=s
 obtain⟨d⟩:=s
 show(d==d)=true
 simp
theorem turned_ok(h:FAt m L X)(hm:Fresh m)(ht:Tb m)(hg:Ox 0 X){l:List OpR}(hl:l.length<=1000)(ho:OpsAt m v l)(hD:l=[]∨∀y,slB v=some y->¬L.D y):∃u m',Con EE.P 20 [PT L.f,v] m u m'∧Be m L (opsX X l) m'∧Ox l.length (opsX X l):=by
 refine Con.raw EE_ok fn20 (bA rfl) _ ?_
 obtain⟨a,C,rfl,ho⟩:=ho
 simp only[XX,XY,F20,yA,yB,yC]
 refine WX.loop_of (λkk tt M=>∃k:Nat,k<=l.length∧kk=l.length-k∧tt=T 46 [(7,In k),(6,In l.length),(0,PT L.f),(1, .slice a l.length C)]∧Be m L (opsX X (l.take k)) M∧Ox k (opsX X (l.take k))) ?_ (k:=l.length) (t1:=T 46 [(7,In (0:Nat)),(6,In l.length),(0,PT L.f),(1, .slice a l.length C)]) (vT ⟨rfl,rfl,rfl,rfl,trivial⟩) ⟨0,by omega,rfl,rfl,Be.same h hm _,hg⟩
 rintro kk tt M ⟨k,hk,rfl,rfl,hB,hX⟩
 have nx:=hB.next
 by_cases hk2:k<l.length
 ·obtain⟨o,hok⟩:∃o,l[k]? =some o:=⟨_,gE' hk2⟩
  have eN:=opsX_succ (X:=X) hok
  rcases ho with rfl|⟨b,cs,ww,z,rfl,hb,hsub⟩
  ·simp at hk2
  have hbl:=hm.lt hb
  have hbM:M.get b=some (.cells cs ww z):=(hB.old hbl (hD.resolve_left (λe=>by rw[e] at hk2;cases hk2) b rfl)).trans hb
  have hs:=hsub k o hok
  have nj:∀j,j<7->cs.nth (k*7+j)=(opL o)[j]? :=λj hj=>sub_nth hs hj
  have s0:cs.nth (k*7)=some (In o.kind):=nj 0 (by decide)
  have s3:cs.nth (k*7+3)=some (In o.pid):=nj 3 (by decide)
  have s4:cs.nth (k*7+4)=some (In o.sig):=nj 4 (by decide)
  have g1:(k:Int)<(l.length:Int):=by omega
  have g2:(0:Int)<=k:=by omega
  have hw:IntKind.i64.wrap ((k:Int)+1)=((k+1:Nat):Int):=by rw[wrap_i64 (by omega) (by omega)];omega
  generalize opsX X (l.take k)=Y at hB hX eN
  obtain⟨L1,a1,x1,f1⟩:=id hB
  have ef:L1.f=L.f:=x1.f
  have hsn:=hX.sn
  have hfl:=hX.fl
  have hOx:=hX.op (o:=o) a1.pi a1.pf
  have hsf:Y.seen.length+Y.fut.length<99000:=by rw[hsn];simp;omega
  by_cases c1:o.kind=1
  ·have d1:=decide_eq_true c1
   simp only[XX,XY,F20,yA,yB,yC,g1,g2,nx,hbM,s0,d1,lA]
   have eo:opX Y o=(runR Y (pickOp o (pidsX Y (rdyB Y)))).X:=by unfold opX;rw[if_pos (.inl c1)]
   refine cX (by rw[<-ef];exact Ready_ok (a1.bump _) f1.fresh.bump hX.gx) λu M2 hN2=>?_
   have hN2:=hN2.of_bump
   have n2:=hN2.nx.next
   have nm2:m.next<=M2.next:=by omega
   have hbM2:=hN2.nx.keep f1.fresh hbM
   have eqO:= @eqv_op o
   have oo:=show(opL o).all oneCell=true from rfl
   have ol:=show(opL o).length=7 from rfl
   simp only[XX,XY,F20,yA,yB,g1,g2,hbM,hbM2,hs,eqO]
   refine CallI.con (pickOp_ok hN2.sl (by have:=hX.gx.ln;show(List.map _ (List.filter _ _)).length<1000;rw[lM];have:=List.length_filter_le (rdyB Y) Y.l;omega)) (by simp) ?_
   simp only[XX,XY,F20,yA,yB]
   refine CallI.ex2L (by rw[<-ef];exact fRun_ok (pid:=pickOp o (pidsX Y (rdyB Y))) (a1.nx hN2.nx) hN2.nx.fresh ((hB.tb h hm ht).nx f1.fresh hN2.nx) hX.gx hsf) (by simp) λu M9 hT=>?_
   obtain⟨hB9,_⟩:=hT
   have n9:=hB9.next
   have n10:m.next<=M9.next:=by omega
   rw[eo] at eN hOx
   simp only[XX,XY,F20,yA,yB,yC,n10,hw,roundQ_normal]
   exact⟨l.length-(k+1),_,_,by omega,vT (l':=[(7,In ((k+1:Nat):Int)),(6,In l.length),(0,PT L.f),(1, .slice (some ⟨b,0,none⟩) l.length C)]) ⟨rfl,rfl,rfl,rfl,trivial⟩,k+1,by omega,rfl,rfl,by rw[eN];exact(bE x1 f1 (bE Lx.refl (Fd.of_nx hN2.nx) hB9)).bump _,by rw[eN];exact hOx⟩
  have d1:=decide_eq_false c1
  by_cases c2:o.kind=2
  ·have d2:=decide_eq_true c2
   simp only[XX,XY,F20,yA,yB,yC,g1,g2,nx,hbM,s0,d1,d2,lA]
   have eo:opX Y o=(runR Y (pickOp o (pidsX Y (rdyB Y)))).X:=by unfold opX;rw[if_pos (.inr c2)]
   refine cX (by rw[<-ef];exact Ready_ok (a1.bump _) f1.fresh.bump hX.gx) λu M2 hN2=>?_
   have hN2:=hN2.of_bump
   have n2:=hN2.nx.next
   have nm2:m.next<=M2.next:=by omega
   have hbM2:=hN2.nx.keep f1.fresh hbM
   have eqO:= @eqv_op o
   have oo:=show(opL o).all oneCell=true from rfl
   have ol:=show(opL o).length=7 from rfl
   simp only[XX,XY,F20,yA,yB,g1,g2,hbM,hbM2,hs,eqO]
   refine CallI.con (pickOp_ok hN2.sl (by have:=hX.gx.ln;show(List.map _ (List.filter _ _)).length<1000;rw[lM];have:=List.length_filter_le (rdyB Y) Y.l;omega)) (by simp) ?_
   simp only[XX,XY,F20,yA,yB]
   refine CallI.ex2L (by rw[<-ef];exact fRun_ok (pid:=pickOp o (pidsX Y (rdyB Y))) (a1.nx hN2.nx) hN2.nx.fresh ((hB.tb h hm ht).nx f1.fresh hN2.nx) hX.gx hsf) (by simp) λu M9 hT=>?_
   obtain⟨hB9,_⟩:=hT
   have n9:=hB9.next
   have n10:m.next<=M9.next:=by omega
   rw[eo] at eN hOx
   simp only[XX,XY,F20,yA,yB,yC,n10,hw,roundQ_normal]
   exact⟨l.length-(k+1),_,_,by omega,vT (l':=[(7,In ((k+1:Nat):Int)),(6,In l.length),(0,PT L.f),(1, .slice (some ⟨b,0,none⟩) l.length C)]) ⟨rfl,rfl,rfl,rfl,trivial⟩,k+1,by omega,rfl,rfl,by rw[eN];exact(bE x1 f1 (bE Lx.refl (Fd.of_nx hN2.nx) hB9)).bump _,by rw[eN];exact hOx⟩
  have d2:=decide_eq_false c2
  by_cases c3:o.kind=3
  ·have d3:=decide_eq_true c3
   simp only[XX,XY,F20,yA,yB,yC,g1,g2,nx,hbM,s0,d1,d2,d3,lA]
   have eo:opX Y o=(tickR Y).X:=by unfold opX;rw[if_neg (λe=>e.elim c1 c2),if_pos c3]
   refine cX (by rw[<-ef];exact fTick_ok (a1.bump _) f1.fresh.bump ((hB.tb h hm ht).bump _) hX.gx hsf) λu M9 hT=>?_
   obtain⟨hB9,_⟩:=hT
   have hB9:=hB9.of_bump
   have n9:=hB9.next
   have n10:m.next<=M9.next:=by omega
   rw[eo] at eN hOx
   simp only[XX,XY,F20,yA,yB,yC,n10,hw,roundQ_normal]
   exact⟨l.length-(k+1),_,_,by omega,vT (l':=[(7,In ((k+1:Nat):Int)),(6,In l.length),(0,PT L.f),(1, .slice (some ⟨b,0,none⟩) l.length C)]) ⟨rfl,rfl,rfl,rfl,trivial⟩,k+1,by omega,rfl,rfl,by rw[eN];exact(bE x1 f1 hB9).bump _,by rw[eN];exact hOx⟩
  have d3:=decide_eq_false c3
  by_cases c5:o.kind=5
  ·have d5:=decide_eq_true c5
   simp only[XX,XY,F20,yA,yB,yC,g1,g2,nx,hbM,s0,s3,s4,d1,d2,d3,d5,lA]
   have eo:opX Y o=(sigR Y o.pid o.sig).X:=by unfold opX;rw[if_neg (λe=>e.elim c1 c2),if_neg c3,if_pos c5]
   refine cX (by rw[<-ef];exact fSig_ok (pid:=o.pid) (g:=o.sig) (a1.bump _) f1.fresh.bump ((hB.tb h hm ht).bump _) hX.gx hsf) λu M9 hT=>?_
   obtain⟨hB9,_⟩:=hT
   have hB9:=hB9.of_bump
   have n9:=hB9.next
   have n10:m.next<=M9.next:=by omega
   rw[eo] at eN hOx
   simp only[XX,XY,F20,yA,yB,yC,n10,hw,roundQ_normal]
   exact⟨l.length-(k+1),_,_,by omega,vT (l':=[(7,In ((k+1:Nat):Int)),(6,In l.length),(0,PT L.f),(1, .slice (some ⟨b,0,none⟩) l.length C)]) ⟨rfl,rfl,rfl,rfl,trivial⟩,k+1,by omega,rfl,rfl,by rw[eN];exact(bE x1 f1 hB9).bump _,by rw[eN];exact hOx⟩
  have d5:=decide_eq_false c5
  have eo:opX Y o=Y:=by unfold opX;rw[if_neg (λe=>e.elim c1 c2),if_neg c3,if_neg c5]
  rw[eo] at eN hOx
  simp only[XX,XY,F20,yA,yB,yC,g1,g2,nx,hbM,s0,d1,d2,d3,d5,hw,roundQ_normal,lA]
  exact⟨l.length-(k+1),_,_,by omega,vT (l':=[(7,In ((k+1:Nat):Int)),(6,In l.length),(0,PT L.f),(1, .slice (some ⟨b,0,none⟩) l.length C)]) ⟨rfl,rfl,rfl,rfl,trivial⟩,k+1,by omega,rfl,rfl,by rw[eN];exact hB.bump _,by rw[eN];exact hOx⟩
 ·obtain rfl:k=l.length:=by omega
  have g1:¬(l.length:Int)<(l.length:Int):=by omega
  rw[List.take_length] at hB hX
  simp only[XX,XY,F20,yA,yB,g1,nx,roundQ_exit]
  exact⟨(hB.bump _).grow,hB.bump _,hX⟩
end
structure BootR where
 cores:Int
 frames:Int
 procs:Int
 cap:Int
 prog:List (BitVec 32)
def bootL(b:BootR)(pv:Value):List Value:=[In b.cores,In b.frames,In b.procs,In b.cap,pv]
def ProgAt(m:Mem)(v:Value)(l:List (BitVec 32)):Prop:=∃a C,v= .slice a l.length C∧(l=[]∨∃b cs ww z,a=some ⟨b,0,none⟩∧m.get b=some (.cells cs ww z)∧∀i w,l[i]? =some w->cs.nth i=some (Um w))
section
variable{m m' M mr:Mem}{n:Nat}{L L' L1 L2:Loc}{X X' X1 X2 Y W:St}{v w:Value}{fl:List Value}{pid:Int}{b:BootR}
def greatB(b:BootR)(k:Nat)(most:Int):Bool:=decide (most<(k:Int))||(decide (64<b.frames)||(decide (8<b.procs)||decide (512<(b.prog.length:Int))))
theorem great_ok{l:List OpR}(hv:OpsAt m w l)(hp:ProgAt m v b.prog){most:Int}:Con EE.P 7 [.agg (bootL b v).toArray,w,In most] m (In (if greatB b l.length most then 1 else 0)) m:=by
 refine Con.of EE_ok fn7 (bA rfl) Grow.rfl λhm=>?_
 obtain⟨a,C,rfl,_⟩:=hv
 obtain⟨a2,C2,rfl,_⟩:=hp
 unfold greatB
 cases d1:decide (most<(l.length:Int)) with
 |true=>
  simp only[XX,XY,F7,yA,yB,yC,bootL,d1,Bool.true_or]
  exact tP rfl λy hy=>gA
 |false=>
  cases d2:decide (64<b.frames) with
  |true=>
   simp only[XX,XY,F7,yA,yB,yC,bootL,d1,d2,Bool.true_or,Bool.false_or]
   exact tP rfl λy hy=>gA
  |false=>
   cases d3:decide (8<b.procs) with
   |true=>
    simp only[XX,XY,F7,yA,yB,yC,bootL,d1,d2,d3,Bool.true_or,Bool.false_or]
    exact tP rfl λy hy=>gA
   |false=>
    cases d4:decide (512<(b.prog.length:Int)) with
    |true=>
     simp only[XX,XY,F7,yA,yB,yC,bootL,d1,d2,d3,d4,Bool.false_or]
     exact tP rfl λy hy=>gA
    |false=>
     simp only[XX,XY,F7,yA,yB,yC,bootL,d1,d2,d3,d4,Bool.false_or]
     exact tP rfl λy hy=>gA
theorem same_ok{A:List Int}(hv:SlV m 1 v A.length (il A))(hw:SlV m 1 w A.length (il A))(hA:A.length<100000):Con EE.P 25 [v,w] m (.bool true) m:=by
 refine Con.of EE_ok fn25 (bA rfl) Grow.rfl λhm=>?_
 have l1:∀M,lenA EE.P 41 v M=some (In A.length):=λM=>hv.lenA und_41
 have l2:∀M,lenA EE.P 41 w M=some (In A.length):=λM=>hw.lenA und_41
 have q1:= @eqvI
 simp only[XX,XY,F25,yA,yB,yC,l1,l2]
 refine WX.loop_of (λkk tt M=>∃k j:Nat,k<=A.length∧kk=A.length-k∧tt=T 26 [(5,In k),(0,v),(1,w)]∧M=m.bump j) ?_ (k:=A.length) (t1:=T 26 [(5,In (0:Nat)),(0,v),(1,w)]) (vT ⟨rfl,rfl,rfl,trivial⟩) ⟨0,_,by omega,rfl,rfl,rfl⟩
 rintro kk tt M ⟨k,j,hk,rfl,rfl,rfl⟩
 by_cases hk2:k<A.length
 ·have g1:=decide_eq_true (show(k:Int)<(A.length:Int) by omega)
  have g2:(0:Int)<=k:=by omega
  have g3:(k:Int)<(A.length:Int):=by omega
  have hw1:IntKind.i64.wrap ((k:Int)+1)=((k+1:Nat):Int):=by rw[wrap_i64 (by omega) (by omega)];omega
  obtain⟨b1,c1,cs1,rfl,x1,x2,x3,x4⟩:=hv.cons (by omega)
  obtain⟨b2,c2,cs2,rfl,y1,y2,y3,y4⟩:=hw.cons (by omega)
  have e1:(il A).getD k undef=In (A.getD k 0):=by rw[gD',gM',gD',gE' hk2];rfl
  have z1:cs1.nth k=some (In (A.getD k 0)):=by rw[nth_lt (by omega),x4 k (by rw[lM];exact hk2),e1]
  have z2:cs2.nth k=some (In (A.getD k 0)):=by rw[nth_lt (by omega),y4 k (by rw[lM];exact hk2),e1]
  simp only[XX,XY,F25,yA,yB,yC,l1,g2,g3,x1,y1,z1,z2,hw1,roundQ_normal]
  exact⟨A.length-(k+1),_,_,by omega,vT (l':=[(5,In ((k+1:Nat):Int)),(0, .slice (some ⟨b1,0,none⟩) A.length c1),(1, .slice (some ⟨b2,0,none⟩) A.length c2)]) ⟨rfl,rfl,rfl,trivial⟩,k+1,_,by omega,rfl,rfl,rfl⟩
 ·obtain rfl:k=A.length:=by omega
  have g1:=decide_eq_false (show¬(A.length:Int)<(A.length:Int) by omega)
  simp only[XX,XY,F25,yA,yB,yC,l1,g1,roundQ_exit]
  exact tP rfl λy hy=>gA
end
section
variable{m m' M mr:Mem}{n:Nat}{L L' L1 L2:Loc}{X X' X1 X2 Y W:St}{v w:Value}{fl:List Value}{pid:Int}{b:BootR}
def pgsN(k:Nat):Nat:=(k*4+63)/64
def mayB(b:BootR):Prop:=((1<=b.cores∧b.cores<=8)∧(1<=b.frames∧b.frames<=256)∧(1<=b.procs∧b.procs<=32)∧(1<=b.cap∧b.cap<=64))∧1<=b.prog.length∧b.prog.length<=512∧(pgsN b.prog.length:Int)<=b.frames
def affB(b:BootR):BitVec 32:=(1#32<<<b.cores.toNat)-1#32
def first0(b:BootR):Proc:={proc0 with pid:=1,state:=1,aff:=affB b}
def new0(b:BootR):St:=⟨b.cores,b.frames,b.procs,b.cap,[],[],0,0,0,2,false,[],[first0 b],[],[],[],[]⟩
def wrds(X:St)(l:List (BitVec 32))(k:Nat):St:=(List.range k).foldl (λY i=>(writeX Y 0 (BitVec.ofNat 32 (i*4)) (wordB (l.getD i 0#32))).1) X
def newX(b:BootR):St:={wrds (mapPagesX (new0 b) 0 0#32 (BitVec.ofNat 32 (pgsN b.prog.length)) 1#32).1 b.prog b.prog.length with l:=[0]}
def flatL(b:BootR)(pv:Value):List Value:=bootL b pv++ [.slice none 0 0, .slice none 0 0,In 0,In 0,In 0,In 2, .bool false, .slice none 0 0]
abbrev firstL(f:Nat)(a:BitVec 32):List Value:=procL f 1 0 cpu0 cpu0 sg0 (List.replicate 8 (.pointer none)) a
def loc0(fb pb:Nat)(pv:Value):Loc:=⟨fb,[pb],[],[],[],[], .slice none 0 0, .slice none 0 0, .slice none 0 0,pv,[],λy=>y=fb∨y=pb⟩
theorem build69{pv:Value}:buildA EE.P 69 [(0, .agg (bootL b pv).toArray),(6,In 2)]=some (.agg (flatL b pv).toArray):=by
 obtain⟨c,f,p,q,l⟩:=b
 kernel_rfl
theorem build83f{f:Nat}{a:BitVec 32}:buildA EE.P 83 [(0,PT f),(1,In 1),(3,In 1),(13,Um a)]=some (.agg (firstL f a).toArray):=kr
theorem first_PC(hL:L.f=n):PC L (first0 b) (ofL (firstL n (affB b))):=by
 subst hL
 generalize ha:affB b=a
 have hr:first0 b={proc0 with pid:=1,state:=1,aff:=a}:=by unfold first0;rw[ha]
 rw[hr]
 generalize hf:L.f=f
 refine⟨rfl,?_,?_,?_,?_,?_,?_,?_,?_,?_,?_,?_,?_,?_,?_,?_,cpu0_ok,cpu0_ok,rfl⟩
 ·rw[hf];kernel_rfl
 all_goals kernel_rfl
theorem FAt.new0{fb pb:Nat}(h1:m.get fb=some (.cells (ofL (flatL b v)) true 0))(h2:m.get pb=some (.cells (ofL (firstL fb (affB b))) true 0))(hne:fb≠pb)(hl:fb<m.next∧pb<m.next)(h64:64<=fb∧64<=pb):FAt m (loc0 fb pb v) (new0 b):=by
 refine⟨⟨_,h1,?_⟩,λk hk=>?_,λk hk=>?_,λk hk=>?_,λk hk=>?_,λk hk=>?_,rfl,rfl,rfl,rfl,rfl,rfl,?_,?_,SlV.nil,SlV.nil,SlV.nil,λk hk=>?_,λy hy=>?_,λy hy=>?_,λy hy=>?_,λk y hk=>?_,λy hy=>?_,?_,?_,λj hj=>?_,λj hj=>?_⟩
 ·obtain⟨c,f,p,q,l⟩:=b
  exact⟨rfl,rfl,rfl,rfl,rfl,rfl,rfl,rfl,rfl,rfl,rfl,rfl,rfl,rfl⟩
 ·obtain rfl:k=0:=by simp[Go.Ab.new0] at hk;omega
  exact⟨_,h2,first_PC rfl⟩
 ·exact absurd hk (Nat.not_lt_zero _)
 ·exact absurd hk (Nat.not_lt_zero _)
 ·exact absurd hk (Nat.not_lt_zero _)
 ·exact absurd hk (Nat.not_lt_zero _)
 ·show [fb,pb].Nodup
  simp[hne]
 ·intro y hy
  have:y∈ [fb,pb]:=hy
  show y=fb∨y=pb
  simpa using this
 ·exact absurd hk (Nat.not_lt_zero _)
 ·cases hy
 ·cases hy
 ·cases hy
 ·exact absurd hk (Nat.not_lt_zero _)
 ·cases hy
 ·intro y hy
  rcases hy with rfl|rfl
  ·exact hl.1
  ·exact hl.2
 ·intro y hy
  rcases hy with rfl|rfl
  ·exact h64.1
  ·exact h64.2
 ·cases hj
 ·cases hj
theorem GX.new0(hb:mayB b):GX (new0 b):=by
 obtain⟨⟨a1,a2,a3,a4⟩,_⟩:=hb
 have key:∀i,i<(Go.Ab.new0 b).P.length->(Go.Ab.new0 b).p i=first0 b:=λi hi=>by
  obtain rfl:i=0:=by simp[Go.Ab.new0] at hi;omega
  rfl
 refine⟨by show((0:Nat):Int)<=b.procs;omega,a3,a2,a4,a1,⟨by show(2:Int)<=2;decide,by show(2:Int)<=65536;decide⟩,λi hi=>?_,λi hi=>?_,λi hi q hq=>?_,λi hi q hq=>?_,λi hi q hq=>?_,λg hg=>absurd hg (Nat.not_lt_zero _),λg hg=>absurd hg (Nat.not_lt_zero _),λg hg=>absurd hg (Nat.not_lt_zero _),λg hg=>absurd hg (Nat.not_lt_zero _)⟩
 ·rw[key i hi]
  refine⟨rfl,λk g hk=>?_⟩
  have hk:(List.replicate 64 (none:Option Nat)).getD k none=some g:=hk
  rw[gD',List.getElem?_replicate] at hk
  split at hk<;>cases hk
 ·rw[key i hi]
  refine⟨rfl,λk g hk=>?_⟩
  have hk:(List.replicate 8 (none:Option Nat)).getD k none=some g:=hk
  rw[gD',List.getElem?_replicate] at hk
  split at hk<;>cases hk
 ·rw[key i hi] at hq;cases hq
 ·rw[key i hi] at hq;cases hq
 ·rw[key i hi] at hq;cases hq
theorem Sh.wrds(h:GX X)(hi:0<X.P.length){l:List (BitVec 32)}:∀{k:Nat},Sh 0 X (wrds X l k)∧Kk X (wrds X l k)
 |0=>⟨Sh.refl h,Kk.refl⟩
 |k+1=>by
  obtain⟨a,c⟩:=Sh.wrds h hi (l:=l) (k:=k)
  have e:Go.Ab.wrds X l (k+1)=(writeX (Go.Ab.wrds X l k) 0 (BitVec.ofNat 32 (k*4)) (wordB (l.getD k 0#32))).1:=by
   unfold Go.Ab.wrds
   rw[List.range_succ,List.foldl_append];rfl
  rw[e]
  exact⟨a.trans (Sh.write a.gx (lL hi a.P)),c.trans Kk.write⟩
theorem FAt.set_gv(h:FAt m L X){cf:Cells}{v':Value}(f1:m.get L.f=some (.cells cf true 0)):FAt (m.put L.f (.cells (cf.write 4 [v']) true 0)) {L with gv:=v'} X:=by
 obtain⟨c,a1,f2⟩:=h.fl
 rw[f1] at a1
 cases a1
 refine⟨⟨_,by rw[gP,if_pos rfl],⟨by rw[write_n,f2.n],nwl f2.cores,nwl f2.frames,nwl f2.procs,nwl f2.cap,nth_write_same (by rw[f2.n];decide),nwr f2.lv,nwr f2.fv,nwr f2.contents,nwr f2.files,nwr f2.pipes,nwr f2.next,nwr f2.halted,nwr f2.sv⟩⟩,λk hk=>?_,λk hk=>?_,λk hk=>?_,λk hk=>?_,λk hk=>?_,h.lP,h.lG,h.lC,h.lI,h.lF,h.lb,h.nd,h.dm,h.ls.put0 (by decide) f1,h.fs.put0 (by decide) f1,h.ss.put0 (by decide) f1,λk hk=>(h.bs k hk).put0 (by decide) f1,h.dl,h.df,h.ds,h.db,h.sep,h.lt,h.d64,h.pi,h.pf⟩
 ·obtain⟨c,e1,e2⟩:=h.pr k hk
  exact⟨c,by rw[gP,if_neg (λe=>h.f_p hk e.symm)];exact e1,e2.move rfl (λ_ _=>rfl) (λ_ _ _=>rfl) (λ_ _ _=>rfl) (λ_ _=>rfl) (λ_ _=>rfl)⟩
 ·obtain⟨c,e1,e2⟩:=h.pg k hk
  exact⟨c,by rw[gP,if_neg (λe=>h.f_g hk e.symm)];exact e1,e2.move rfl⟩
 ·obtain⟨c,e1,e2⟩:=h.ct k hk
  exact⟨c,by rw[gP,if_neg (λe=>h.f_c hk e.symm)];exact e1,e2.move⟩
 ·obtain⟨c,e1,e2⟩:=h.ip k hk
  exact⟨c,by rw[gP,if_neg (λe=>h.f_i hk e.symm)];exact e1,e2⟩
 ·obtain⟨c,e1,e2⟩:=h.xs k hk
  exact⟨c,by rw[gP,if_neg (λe=>h.f_x hk e.symm)];exact e1,e2.move rfl⟩
theorem wrds_succ{l:List (BitVec 32)}{k:Nat}:wrds X l (k+1)=(writeX (wrds X l k) 0 (BitVec.ofNat 32 (k*4)) (wordB (l.getD k 0#32))).1:=by
 unfold Go.Ab.wrds
 rw[List.range_succ,List.foldl_append];rfl
theorem quo_pgs{k:Nat}(hk:k<=512){ty:Nat}:binV EE.P .quo ty (In ((k*4+63:Nat):Int)) (.int .i64 64)=some (In (pgsN k)):=by
 show runV EE.P (Op.intDiv .quo .i64 ((k*4+63:Nat):Int) 64)=_
 unfold Op.intDiv
 rw[if_neg (by decide)]
 have h1:IntKind.i64.wrap (((k*4+63:Nat):Int).tdiv 64)=((pgsN k:Nat):Int):=by
  rw[Int.tdiv_eq_ediv_of_nonneg (by omega),wrap_i64 (by omega) (by omega)]
  unfold pgsN;omega
 rw[<-h1];rfl
theorem new_ok(hp:ProgAt m v b.prog)(hm:Fresh m)(hb:mayB b):∃u m',Con EE.P 8 [.agg (bootL b v).toArray] m u m'∧∃L,u= .tuple [PT L.f,In 0].toArray∧FAt m' L (newX b)∧Nx m m'∧(∀y,L.D y->m.next<=y)∧GX (newX b):=by
 refine Con.raw EE_ok fn8 (bA rfl) _ ?_
 have hp0:=hp
 obtain⟨a,C,rfl,hp⟩:=hp
 have hb0:=hb
 obtain⟨⟨⟨a1,a2⟩,⟨a3,a4⟩,⟨a5,a6⟩,⟨a7,a8⟩⟩,b1,b2,b3⟩:=hb
 have h64:=hm.n64
 have w1:IntKind.i64.wrap ((b.prog.length:Int)*4)=(b.prog.length:Int)*4:=wrap_i64 (by omega) (by omega)
 have w2:IntKind.i64.wrap ((b.prog.length:Int)*4+64)=(b.prog.length:Int)*4+64:=wrap_i64 (by omega) (by omega)
 have w3:IntKind.i64.wrap ((b.prog.length:Int)*4+64-1)=((b.prog.length*4+63:Nat):Int):=by rw[wrap_i64 (by omega) (by omega)];omega
 have hq:= @quo_pgs b.prog.length b2
 have c1:=decide_eq_true a1
 have c2:=decide_eq_true a2
 have c3:=decide_eq_true a3
 have c4:=decide_eq_true a4
 have c5:=decide_eq_true a5
 have c6:=decide_eq_true a6
 have c7:=decide_eq_true a7
 have c8:=decide_eq_true a8
 have d1:=decide_eq_false (show¬(b.prog.length:Int)<1 by omega)
 have d2:=decide_eq_false (show¬(512:Int)<(b.prog.length:Int) by omega)
 have d3:=decide_eq_false (show¬b.frames<(pgsN b.prog.length:Int) by omega)
 have hb69:buildA EE.P 69 [(0, .agg #[In b.cores,In b.frames,In b.procs,In b.cap, .slice a b.prog.length C]),(6,In 2)]=some (.agg (flatL b (.slice a b.prog.length C)).toArray):=build69
 have hfl:(flatL b (.slice a b.prog.length C)).length=13:=rfl
 have hfo:(flatL b (.slice a b.prog.length C)).all oneCell=true:=by cases a<;>rfl
 have b83:= @build83f
 have hpl:∀f w,(firstL f w).length=125:=λf w=>procL_len cpu0_ok cpu0_ok rfl rfl
 have hpo:∀f w,(firstL f w).all oneCell=true:=λf w=>procL_one rfl
 have hsh:=shl_1 (P:=EE.P) (ty:=36) (k:=b.cores) (by omega)
 have cvp:∀M,convV EE.P 3 36 (In (pgsN b.prog.length:Nat)) M=some (Um (BitVec.ofNat 32 (pgsN b.prog.length))):=λM=>conv_iu' (by unfold pgsN;omega)
 simp only[XX,XY,F8,yA,yB,yC,bootL,w1,w2,w3,hq,c1,c2,c3,c4,c5,c6,c7,c8,d1,d2,d3,hb69,b83,hsh,sub1u,cvp]
 refine CallI.gen (λM=>Nx m M∧FAt M (loc0 (m.next+70) (m.next+78) (.slice a b.prog.length C)) (new0 b)∧M.get m.next=some (.cells (ofL (bootL b (.slice a b.prog.length C))) true 0)∧m.next+79<=M.next) ⟨(nX hm),FAt.new0 gA (by(simp only[gB,gP];repeat(first|rw[if_neg (by omega)]|rw[if_pos trivial]|rw[if_pos (by omega)]));rfl) (by omega) nO (by omega),by(simp only[gB,gP];repeat(first|rw[if_neg (by omega)]|rw[if_pos trivial]|rw[if_pos (by omega)]));rfl,nO⟩ λM0 hM=>?_
 obtain⟨hN0,hA0,hbx,hn0⟩:=hM
 have hG0:=GX.new0 hb0
 generalize hL0:loc0 (m.next+70) (m.next+78) (.slice a b.prog.length C)=L0 at hA0
 have e0f:L0.f=m.next+70:=by rw[<-hL0];rfl
 have e0p:L0.p 0=m.next+78:=by rw[<-hL0];rfl
 have hD0:∀y,L0.D y->m.next<y:=λy hy=>by
  rw[<-hL0] at hy
  rcases hy with rfl|rfl<;>omega
 have hP0:0<(new0 b).P.length:=by show 0<1;decide
 refine cX (by rw[<-e0p];exact mapPages_ok (a:=0#32) (n:=BitVec.ofNat 32 (pgsN b.prog.length)) (f:=1#32) hA0 hN0.fresh hG0 hP0) λu M1 hM1=>?_
 obtain⟨rfl,hB1⟩:=hM1
 have S1:=Sh.mapPages (a:=0#32) (n:=BitVec.ofNat 32 (pgsN b.prog.length)) (f:=1#32) hG0 hP0
 have nn0:=hN0.next
 have n1:=hB1.next
 have nm1:m.next<=M1.next:=by omega
 have hbx1:M1.get m.next=some (.cells (ofL (bootL b (.slice a b.prog.length C))) true 0):=(hB1.old (by omega) (λe=>by have:=hD0 _ e;omega)).trans hbx
 have hbl4:(ofL (bootL b (.slice a b.prog.length C))).nth 4=some (.slice a b.prog.length C):=rfl
 simp only[XX,XY,F8,yA,yB,yC,nm1,hbx1,hbl4]
 generalize hZ:(mapPagesX (new0 b) 0 0#32 (BitVec.ofNat 32 (pgsN b.prog.length)) 1#32).1=Z at hB1 S1
 have hPZ:0<Z.P.length:=lL hP0 S1.P
 refine WX.loop_of (λkk tt M=>∃k:Nat,k<=b.prog.length∧kk=b.prog.length-k∧tt=T 112 [(90,In k),(89,In b.prog.length),(88, .slice a b.prog.length C),(8,PT (m.next+78)),(7,PT (m.next+70))]∧Be M0 L0 (wrds Z b.prog k) M) ?_ (k:=b.prog.length) (t1:=T 112 [(90,In (0:Nat)),(89,In b.prog.length),(88, .slice a b.prog.length C),(8,PT (m.next+78)),(7,PT (m.next+70))]) (vT ⟨rfl,rfl,rfl,rfl,rfl,trivial⟩) ⟨0,by omega,rfl,rfl,hB1.bump _⟩
 rintro kk tt M ⟨k,hk,rfl,rfl,hB⟩
 have nx:=hB.next
 have nmx:m.next<=M.next:=by omega
 obtain⟨S2,K2⟩:=Sh.wrds S1.gx hPZ (l:=b.prog) (k:=k)
 by_cases hk2:k<b.prog.length
 ·have eW:=wrds_succ (X:=Z) (l:=b.prog) (k:=k)
  generalize wrds Z b.prog k=Y at hB S2 K2 eW
  obtain⟨L1,x1,x2,x3⟩:=id hB
  have e1p:L1.p 0=m.next+78:=(x2.p (by rw[hA0.lP];exact hP0)).trans e0p
  have hPY:0<Y.P.length:=lL hPZ S2.P
  rcases hp with hp|⟨bq,cs,ww,z,rfl,hq1,hq2⟩
  ·rw[hp] at hk2;cases hk2
  have hbq:M.get bq=some (.cells cs ww z):=(hB.old (by have:=hm.lt hq1;omega) (λe=>by have:=hD0 _ e;have:=hm.lt hq1;omega)).trans ((hN0.old _ (hm.lt hq1)).trans hq1)
  have hw0:=hq2 k (b.prog.getD k 0#32) (by rw[gD',gE' hk2];rfl)
  have g1:(k:Int)<(b.prog.length:Int):=by omega
  have g2:(0:Int)<=k:=by omega
  have hw1:IntKind.i64.wrap ((k:Int)+1)=((k+1:Nat):Int):=by rw[wrap_i64 (by omega) (by omega)];omega
  have hw4:IntKind.i64.wrap ((k:Int)*4)=((k*4:Nat):Int):=by rw[wrap_i64 (by omega) (by omega)];omega
  have cv4:∀M,convV EE.P 3 36 (In (k*4:Nat)) M=some (Um (BitVec.ofNat 32 (k*4))):=λM=>conv_iu' (by omega)
  simp only[XX,XY,F8,yA,yB,yC,g1,g2,nmx,hbq,hw0,hw4,cv4,lA]
  refine cX (by rw[<-e1p];exact setWord_ok (a:=BitVec.ofNat 32 (k*4)) (w:=b.prog.getD k 0#32) (x1.bump _) x3.fresh.bump S2.gx hPY) λu M9 hM9=>?_
  obtain⟨rfl,hB9⟩:=hM9
  have hB9:=hB9.of_bump
  have n9:=hB9.next
  have n10:m.next<=M9.next:=by omega
  simp only[XX,XY,F8,yA,yB,yC,n10,hw1,roundQ_normal]
  exact⟨b.prog.length-(k+1),_,_,by omega,vT (l':=[(90,In ((k+1:Nat):Int)),(89,In b.prog.length),(88, .slice (some ⟨bq,0,none⟩) b.prog.length C),(8,PT (m.next+78)),(7,PT (m.next+70))]) ⟨rfl,rfl,rfl,rfl,rfl,trivial⟩,k+1,by omega,rfl,rfl,by rw[eW];exact(bE x2 x3 hB9).bump _⟩
 ·obtain rfl:k=b.prog.length:=by omega
  have g1:¬(b.prog.length:Int)<(b.prog.length:Int):=by omega
  obtain⟨L1,x1,x2,x3⟩:=id hB
  have e1p:L1.p 0=m.next+78:=(x2.p (by rw[hA0.lP];exact hP0)).trans e0p
  have e1f:L1.f=m.next+70:=x2.f.trans e0f
  obtain⟨cf,y1,y2⟩:=x1.fl
  have y1':=y1
  rw[e1f] at y1
  have k4:4+1<=cf.n:=by rw[y2.n];decide
  have k5:5+1<=cf.n:=by rw[y2.n];decide
  have n62:¬m.next+62=M.next:=by omega
  simp only[XX,XY,F8,yA,yB,yC,g1,nmx,y1,k4,k5,bs67,n62,roundQ_exit,lA]
  have hA1:=x1.set_gv (v':= .slice none 0 0) y1'
  obtain⟨c9,z1,z2⟩:=hA1.fl
  have z1':(M.put L1.f (.cells (cf.write 4 [.slice none 0 0]) true 0)).get L1.f=some (.cells c9 true 0):=z1
  rw[gP,if_pos rfl] at z1'
  cases z1'
  have hFM:=hB.fresh
  have hP1:0<(wrds Z b.prog b.prog.length).P.length:=lL hPZ S2.P
  have hres:=hA1.set_lv (M:=((M.put L1.f (.cells (cf.write 4 [.slice none 0 0]) true 0)).put (M.next+8) (.cells (ofL [PT (m.next+78)]) true 1)).bump 15) (v':= .slice (some ⟨M.next+8,0,none⟩) 1 1) (id:=M.next+8) (S:=[0]) z1 z2 nO nO (by have:=hFM.n64;simp only[nP];omega) (λy hy _=>by simp only[nP] at hy;rw[gB,gP,if_neg (by omega)]) (by
   show SlV _ 1 _ 1 [PT (L1.p 0)]
   rw[e1p]
   exact SlV.one rfl) (λj hj=>by rw[List.mem_singleton.1 hj];exact hP1) (.inr (.inl rfl))
  have hres:FAt ((((M.put L1.f (.cells (cf.write 4 [.slice none 0 0]) true 0)).put (M.next+8) (.cells (ofL [PT (m.next+78)]) true 1)).put L1.f (.cells ((cf.write 4 [.slice none 0 0]).write 5 [.slice (some ⟨M.next+8,0,none⟩) 1 1]) true 0)).bump 15) _ _:=hres
  have hold:∀y,y<m.next->M.get y=m.get y:=λy hy=>(hB.old (by omega) (λe=>by have:=hD0 _ e;omega)).trans (hN0.old y hy)
  have hN:Nx m ((((M.put L1.f (.cells (cf.write 4 [.slice none 0 0]) true 0)).put (M.next+8) (.cells (ofL [PT (m.next+78)]) true 1)).put L1.f (.cells ((cf.write 4 [.slice none 0 0]).write 5 [.slice (some ⟨M.next+8,0,none⟩) 1 1]) true 0)).bump 15):=by
   refine⟨nO,Fresh.of_low (by have:=hFM.n64;simp only[bN,nP];omega) (λy hy=>?_),λy hy=>?_⟩
   ·simp only[bN,nP] at hy
    rw[gB,gP,if_neg (by omega),gP,if_neg (by omega),gP,if_neg (by omega)]
    exact hFM.none y (by omega)
   ·rw[gB,gP,if_neg (by omega),gP,if_neg (by omega),gP,if_neg (by omega)]
    exact hold y hy
  have eX:newX b={wrds Z b.prog b.prog.length with l:=[0]}:=by unfold newX;rw[hZ]
  rw[e1f] at hres hN
  rw[eX]
  refine⟨Nx.grow' hN,_,?_,hres,hN,λy hy=>?_,S2.gx.set_l (by have:=S2.gx.pr;show((1:Nat):Int)<=_;omega)⟩
  ·rfl
  ·rcases hy with hy|hy
   ·rcases x2.D y hy with e|e
    ·have:=hD0 y e;omega
    ·omega
   ·omega
end
end
end Go.Ab
