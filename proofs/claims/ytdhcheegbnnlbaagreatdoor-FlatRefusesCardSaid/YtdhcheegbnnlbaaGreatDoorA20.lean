/- Part. -/
import Derived.Test.YtdhcheegbnnlbaaGreatDoorA19
import Derived.Laws.StructEq
import Derived.ChangeKeysEq
import Derived.WalkKit
import Derived.ProofKit
import Derived.OpenShut
import Derived.ChangeOld
import Derived.Carry
set_option linter.all false
open Go.Ab.Mem renaming next_bump → bN, next_put → nP, get_bump → gB, get_put → gP
open Nat renaming le_of_ble_eq_true → bA, le_add_right_of_le → lA, lt_of_lt_of_le → lL, le_refl → lR', le_trans → lT
open List renaming getD_eq_getElem?_getD → gD', getElem?_eq_getElem → gE', append_assoc → aA, getElem?_map → gM', length_map → lM
open Option.some renaming injEq → sI
open Prod.mk renaming injEq → pI
open Bool renaming and_eq_true → bT
open Go.Ab.CallI renaming ex2 → cX, con0 → cZ
open Go.Ab.TidyE renaming pure → tP
open Go.Ab.Cells renaming ofList → ofL
open Go.Ab.View renaming temps → vT
open Nat renaming reduceLT → yA, reduceEqDiff → yB, reduceAdd → yC, reduceMul → yD, reduceSub → yE, reducePow → yF, reduceLeDiff → yG
open Int renaming reduceEq → yH, reduceLT → yI, reduceLE → yJ
namespace Go.Ab
open Go.Proofs
noncomputable section
set_option maxHeartbeats 4000000
set_option maxRecDepth 10000
section
variable{m m' M mr:Mem}{v w:Value}{b:BootR}
theorem new_no(hp:ProgAt m v b.prog)(hb:¬mayB b)(hlen:b.prog.length<=512):Con EE.P 8 [.agg (bootL b v).toArray] m (.tuple [.pointer none,In 2].toArray) m:=by
 refine Con.of EE_ok fn8 (bA rfl) Grow.rfl λhm=>?_
 obtain⟨a,C,rfl,hp⟩:=hp
 have w1:IntKind.i64.wrap ((b.prog.length:Int)*4)=(b.prog.length:Int)*4:=wrap_i64 (by omega) (by omega)
 have w2:IntKind.i64.wrap ((b.prog.length:Int)*4+64)=(b.prog.length:Int)*4+64:=wrap_i64 (by omega) (by omega)
 have w3:IntKind.i64.wrap ((b.prog.length:Int)*4+64-1)=((b.prog.length*4+63:Nat):Int):=by rw[wrap_i64 (by omega) (by omega)];omega
 have hq:= @quo_pgs b.prog.length hlen
 have d2:=decide_eq_false (show¬(512:Int)<(b.prog.length:Int) by omega)
 by_cases ec1:1<=b.cores
 case neg=>
  have c1:=decide_eq_false ec1
  simp only[XX,XY,F8,yA,yB,yC,bootL,w1,w2,w3,hq,c1]
  exact tP rfl λy hy=>gA
 have c1:=decide_eq_true ec1
 by_cases ec2:b.cores<=8
 case neg=>
  have c2:=decide_eq_false ec2
  simp only[XX,XY,F8,yA,yB,yC,bootL,w1,w2,w3,hq,c1,c2]
  exact tP rfl λy hy=>gA
 have c2:=decide_eq_true ec2
 by_cases ec3:1<=b.frames
 case neg=>
  have c3:=decide_eq_false ec3
  simp only[XX,XY,F8,yA,yB,yC,bootL,w1,w2,w3,hq,c1,c2,c3]
  exact tP rfl λy hy=>gA
 have c3:=decide_eq_true ec3
 by_cases ec4:b.frames<=256
 case neg=>
  have c4:=decide_eq_false ec4
  simp only[XX,XY,F8,yA,yB,yC,bootL,w1,w2,w3,hq,c1,c2,c3,c4]
  exact tP rfl λy hy=>gA
 have c4:=decide_eq_true ec4
 by_cases ec5:1<=b.procs
 case neg=>
  have c5:=decide_eq_false ec5
  simp only[XX,XY,F8,yA,yB,yC,bootL,w1,w2,w3,hq,c1,c2,c3,c4,c5]
  exact tP rfl λy hy=>gA
 have c5:=decide_eq_true ec5
 by_cases ec6:b.procs<=32
 case neg=>
  have c6:=decide_eq_false ec6
  simp only[XX,XY,F8,yA,yB,yC,bootL,w1,w2,w3,hq,c1,c2,c3,c4,c5,c6]
  exact tP rfl λy hy=>gA
 have c6:=decide_eq_true ec6
 by_cases ec7:1<=b.cap
 case neg=>
  have c7:=decide_eq_false ec7
  simp only[XX,XY,F8,yA,yB,yC,bootL,w1,w2,w3,hq,c1,c2,c3,c4,c5,c6,c7]
  exact tP rfl λy hy=>gA
 have c7:=decide_eq_true ec7
 by_cases ec8:b.cap<=64
 case neg=>
  have c8:=decide_eq_false ec8
  simp only[XX,XY,F8,yA,yB,yC,bootL,w1,w2,w3,hq,c1,c2,c3,c4,c5,c6,c7,c8]
  exact tP rfl λy hy=>gA
 have c8:=decide_eq_true ec8
 by_cases ed1:(b.prog.length:Int)<1
 ·have d1:=decide_eq_true ed1
  simp only[XX,XY,F8,yA,yB,yC,bootL,w1,w2,w3,hq,c1,c2,c3,c4,c5,c6,c7,c8,d1]
  exact tP rfl λy hy=>gA
 have d1:=decide_eq_false ed1
 by_cases ed3:b.frames<(pgsN b.prog.length:Int)
 ·have d3:=decide_eq_true ed3
  simp only[XX,XY,F8,yA,yB,yC,bootL,w1,w2,w3,hq,c1,c2,c3,c4,c5,c6,c7,c8,d1,d2,d3]
  exact tP rfl λy hy=>gA
 have d3:=decide_eq_false ed3
 exact absurd ⟨⟨⟨ec1,ec2⟩,⟨ec3,ec4⟩,⟨ec5,ec6⟩,⟨ec7,ec8⟩⟩,by omega,hlen,by omega⟩ hb
end
section
variable{P:Program}
def smpD:Value->Bool
 | .bool _| .int _ _| .string _| .complex _ _ _=>true
 |_=>false
def smpW:Value->Bool
 | .agg xs=>xs.all smpD
 |v=>smpD v
theorem part_smpW{t:TypeId}{cs:Array Value}{off:Nat}{v:Value}(hc:cs.all smpD=true)(h:runP P (part t cs off)=some v):smpW v=true:=by
 have hm:∀x∈cs.toList,smpD x=true:=λx hx=>by
  rw[<-Array.all_toList] at hc
  exact List.all_eq_true.1 hc x hx
 unfold part at h
 obtain⟨b,_,h⟩:=runP_of_bind h
 split at h
 ·obtain⟨n,_,h⟩:=runP_of_bind h
  simp only[runP,pure,sI] at h
  subst h
  show(cs.extract off (off+n)).all smpD=true
  rw[<-Array.all_toList,List.all_eq_true]
  intro x hx
  rw[Array.toList_extract,List.extract] at hx
  exact hm x (List.mem_of_mem_drop (List.mem_of_mem_take hx))
 ·split at h
  ·rename_i x hx
   simp only[runP,pure,sI] at h
   subst h
   have:=hm x (Array.mem_toList_iff.2 (Array.mem_of_getElem? hx))
   cases x<;>first|exact this|cases this
  ·cases h
theorem smpW_cases{v:Value}(h:smpW v=true):(∃b,v= .bool b)∨(∃k n,v= .int k n)∨(∃s,v= .string s)∨(∃k a b,v= .complex k a b)∨∃xs,v= .agg xs∧xs.all smpD=true:=by
 cases v<;>first|exact .inl ⟨_,rfl⟩|exact .inr (.inl ⟨_,_,rfl⟩)|exact .inr (.inr (.inl ⟨_,rfl⟩))|exact .inr (.inr (.inr (.inl ⟨_,_,_,rfl⟩)))|exact .inr (.inr (.inr (.inr ⟨_,rfl,h⟩)))|cases h
theorem light_equalW:∀(d:Nat) (t:TypeId) (x y:Value),smpW x=true->smpW y=true->Light P (Op.equalIn d t x y)
 |0,_,_,_,_,_=>trivial
 |d+1,t,x,y,hx,hy=>by
  unfold Op.equalIn
  refine Light.bind light_und λk _=>?_
  rcases smpW_cases hx with⟨a,rfl⟩|⟨q,a,rfl⟩|⟨a,rfl⟩|⟨q,a,a',rfl⟩|⟨xs,rfl,hxs⟩<;>rcases smpW_cases hy with⟨b,rfl⟩|⟨q',b,rfl⟩|⟨b,rfl⟩|⟨q',b,b',rfl⟩|⟨ys,rfl,hys⟩<;>cases k<;>first|trivial|skip
  ·simp only
   split<;>trivial
  ·simp only
   split<;>trivial
  ·refine Light.bind light_size λn _=>?_
   simp only[Std.Legacy.Range.forIn_eq_forIn_range']
   refine Light.bind (Light.forL λi s=>?_) λs _=>by obtain⟨_|_,_⟩:=s<;>trivial
   refine Light.bind light_part λa ha=>Light.bind light_part λb hb=>Light.bind (light_equalW d _ a b (part_smpW hxs ha) (part_smpW hys hb)) λr _=>?_
   cases r<;>trivial
  ·refine Light.bind (s:=program) trivial λp _=>?_
   split
   ·trivial
   ·refine Light.bind (Light.forA λf s=>?_) λs _=>by obtain⟨_|_,_⟩:=s<;>trivial
    split
    ·refine Light.bind light_part λa ha=>Light.bind light_part λb hb=>Light.bind (light_equalW d _ a b (part_smpW hxs ha) (part_smpW hys hb)) λr _=>?_
     cases r<;>trivial
    ·trivial
theorem eqA_aggW{t:TypeId}{xs ys:Array Value}{w:World}{r:Bool}{op:BinOp}{xo yo:Operand}{m:Mem}(hop:op= .eql∨op= .neq)(hp:plain (.agg xs)=true)(hq:plain (.agg ys)=true)(hx:xs.all smpD=true)(hy:ys.all smpD=true)(hg:P.eqGuardType P.depth t=false)
  (h:(Op.equal t (.agg xs) (.agg ys)).run P w= .ok r w):eqA P op t xo yo (.agg xs) (.agg ys) m=some (.bool (match op with| .eql=>r|_=>!r)):=by
 have h1:runP P (Op.equal t (.agg xs) (.agg ys))=some r:=(light_equalW _ t (.agg xs) (.agg ys) (by exact hx) (by exact hy)).runP h
 have h2:runP P (eqGuard op t xo yo (.agg xs) (.agg ys))=some ():=by
  unfold eqGuard
  rcases hop with rfl|rfl
  all_goals
   show runP P (if(!P.eqGuardType P.depth t)=true then _ else _)=_
   rw[hg]
   rfl
 unfold eqA
 rw[if_pos (by rw[hp,hq];rfl)]
 unfold runV
 rw[runP_bind _ _ h2]
 rcases hop with rfl|rfl
 ·have:runP P (binOp .eql t (.agg xs) (.agg ys))=some (.bool r):=by
   show runP P (do pure (Value.bool (<-Op.equal t (.agg xs) (.agg ys))):Sem Value)=_
   rw[runP_bind _ _ h1];rfl
  rw[this]
  cases r<;>rfl
 ·have:runP P (binOp .neq t (.agg xs) (.agg ys))=some (.bool !r):=by
   show runP P (do pure (Value.bool (!(<-Op.equal t (.agg xs) (.agg ys)))):Sem Value)=_
   rw[runP_bind _ _ h1];rfl
  rw[this]
  cases r<;>rfl
theorem eqItems_refl{d:Nat}{e:TypeId}{c:Nat}{xs:Array Value}{w:World}:∀(is:List Nat),(∀j∈is,∃x,(part e xs (j*c)).run P w= .ok x w∧(Op.equalIn d e x x).run P w= .ok true w)->(Op.eqItems d e c xs xs is).run P w= .ok true w
 |[],_=>rfl
 |j::is,h=>by
  obtain⟨x,h1,h2⟩:=h j List.mem_cons_self
  have h3:=eqItems_refl is λk hk=>h k (List.mem_cons_of_mem _ hk)
  unfold Op.eqItems
  simp[h1,h2,h3]
theorem eqFields_refl{d:Nat}{xs:Array Value}{w:World}:∀(fs:List Field),(∀f∈fs,∃x,(part f.type xs f.offset).run P w= .ok x w∧(Op.equalIn d f.type x x).run P w= .ok true w)->(Op.eqFields d xs xs fs).run P w= .ok true w
 |[],_=>rfl
 |f::fs,h=>by
  obtain⟨x,h1,h2⟩:=h f List.mem_cons_self
  have h3:=eqFields_refl fs λk hk=>h k (List.mem_cons_of_mem _ hk)
  unfold Op.eqFields
  split
  ·simp[h1,h2,h3]
  ·exact h3
end
section
variable{c:Cpu}{w:World}{m:Mem}
theorem part_one{P:Program}{t:TypeId}{d:TypeDesc}{xs:Array Value}{off:Nat}{x:Value}(hu:P.underlying t=some d)(ha:aggB d=false)(hx:xs[off]? =some x):(part t xs off).run P w= .ok x w:=part1 hu ha hx
theorem part_agg{P:Program}{t:TypeId}{d:TypeDesc}{xs:Array Value}{off n:Nat}(hu:P.underlying t=some d)(ha:aggB d=true)(hs:szOf P t=some n):(part t xs off).run P w= .ok (.agg (xs.extract off (off+n))) w:=by
 unfold part
 simp[isAgg_run hu,ha,sz_run hs]
theorem fl47:(EE.P.fieldsOf 47).toList.map (λf=>(f.type,f.offset))=[(43,0),(45,8),(36,10)]:=kr
theorem u47:EE.P.underlying 47=some (.struct (EE.P.fieldsOf 47)):=kr
theorem u45:EE.P.underlying 45=some (.array 2 44):=kr
theorem u43:EE.P.underlying 43=some (.array 8 36):=kr
theorem eq_z(d:Nat){z:Int×Int}(h:Zin z):(Op.equalIn (d+1) 44 (zV z) (zV z)).run EE.P w= .ok true w:=by
 have hu:EE.P.underlying 44=some (.complex .f64):=kr
 have o1:=h.w1.order h.w1
 have o2:=h.w2.order h.w2
 have c1:compare z.1 z.1= .eq:=by simp[compare,compareOfLessAndEq]
 have c2:compare z.2 z.2= .eq:=by simp[compare,compareOfLessAndEq]
 rw[c1] at o1
 rw[c2] at o2
 have f1:Op.floatEq .f64 (fbits z.1) (fbits z.1)=true:=by
  show(Ieee.double.order _ _==some .eq)=true
  rw[o1];rfl
 have f2:Op.floatEq .f64 (fbits z.2) (fbits z.2)=true:=by
  show(Ieee.double.order _ _==some .eq)=true
  rw[o2];rfl
 simp[Op.equalIn,und_run hu,zV,f1,f2]
theorem eq_u(d:Nat){x:BitVec 32}:(Op.equalIn (d+1) 36 (Um x) (Um x)).run EE.P w= .ok true w:=by
 simp[Op.equalIn,und_run und_36]
theorem info_ex{P:Program}{t:TypeId}(h:(P.info? t).isSome=true):∃i,P.info? t=some i:=Option.isSome_iff_exists.1 h
theorem arr_refl(d:Nat){t e n:Nat}{l:List Value}{dd:TypeDesc}(hu:EE.P.underlying t=some (.array n e))(he:(EE.P.info? e).isSome=true)(hue:EE.P.underlying e=some dd)(ha:aggB dd=false)(hc:EE.P.cellsOf e=1)(hl:l.length=n)(h:∀x∈l,(Op.equalIn d e x x).run EE.P w= .ok true w):(Op.equalIn (d+1) t (.agg l.toArray) (.agg l.toArray)).run EE.P w= .ok true w:=by
 obtain⟨i,hi⟩:=info_ex he
 rw[run_equalIn_array w d _ _ hu hi,hc]
 refine eqItems_refl _ λj hj=>?_
 have hj:j<l.length:=by rw[hl];exact List.mem_range.1 hj
 exact⟨l[j],part_one hue ha (by simp[hj]),h _ (List.getElem_mem hj)⟩
theorem eq_cpu0(d:Nat)(h:c.ok):(Op.equalIn (d+1+1+1) 47 (.agg (cpuL c).toArray) (.agg (cpuL c).toArray)).run EE.P w= .ok true w:=by
 rw[run_equalIn_struct w _ _ _ _ u47 kr]
 refine eqFields_refl _ λf hf=>?_
 have hm:=List.mem_map_of_mem (f:=λf:Field=>(f.type,f.offset)) hf
 rw[fl47] at hm
 have h8:=h.1
 have h2:=h.2.1
 have e1:(cpuL c).toArray.extract 0 (0+8)=(c.r.map Um).toArray:=by
  apply Array.ext'
  rw[Array.toList_extract]
  show((cpuL c).drop 0).take 8=c.r.map Um
  unfold cpuL
  rw[List.drop_zero,aA,List.take_append_of_le_length (by simp[h8]),List.take_of_length_le (by simp[h8])]
 have e2:(cpuL c).toArray.extract 8 (8+2)=(c.z.map zV).toArray:=by
  apply Array.ext'
  rw[Array.toList_extract]
  show((cpuL c).drop 8).take 2=c.z.map zV
  unfold cpuL
  rw[aA,List.drop_append,List.drop_eq_nil_of_le (by simp[h8]),List.nil_append,lM,h8,Nat.sub_self,List.drop_zero,List.take_append_of_le_length (by simp[h2]),List.take_of_length_le (by simp[h2])]
 have e3:(cpuL c).toArray[10]? =some (Um c.pc):=by
  rw[List.getElem?_toArray]
  exact cpuL_pc h
 simp only[List.mem_cons,pI,List.not_mem_nil,or_false] at hm
 rcases hm with⟨a,b⟩|⟨a,b⟩|⟨a,b⟩
 ·rw[a,b]
  refine⟨_,part_agg u43 rfl (show szOf EE.P 43=some 8 by kernel_rfl),?_⟩
  rw[e1]
  exact arr_refl _ u43 kr und_36 rfl ce36 (by simp[h8]) λx hx=>by
   obtain⟨y,_,rfl⟩:=List.mem_map.1 hx
   exact eq_u _
 ·rw[a,b]
  refine⟨_,part_agg u45 rfl (show szOf EE.P 45=some 2 by kernel_rfl),?_⟩
  rw[e2]
  exact arr_refl _ u45 kr (show EE.P.underlying 44=some (.complex .f64) by kernel_rfl) rfl kr (by simp[h2]) λx hx=>by
   obtain⟨y,hy,rfl⟩:=List.mem_map.1 hx
   obtain⟨k,hk,rfl⟩:=List.getElem_of_mem hy
   have:=h.2.2 k (by omega)
   rw[gD',gE' hk] at this
   exact eq_z _ this
 ·rw[a,b]
  exact⟨_,part_one und_36 rfl e3,eq_u _⟩
theorem cpuL_smp:(cpuL c).toArray.all smpD=true:=by
 rw[<-Array.all_toList]
 unfold cpuL
 rw[List.all_append,List.all_append,List.all_map,List.all_map,bT,bT]
 exact⟨⟨List.all_eq_true.2 λx _=>rfl,List.all_eq_true.2 λx _=>rfl⟩,rfl⟩
theorem eq_cpu(h:c.ok){xo yo:Operand}:eqA EE.P .eql 47 xo yo (.agg (cpuL c).toArray) (.agg (cpuL c).toArray) m=some (.bool true):=
 eqA_aggW (r:=true) (w:=default) (.inl rfl) (cpuL_pl (k:=5)) (cpuL_pl (k:=5)) cpuL_smp cpuL_smp kr (eq_cpu0 (w:=default) 9997 h)
theorem eq_i(d:Nat){t:Nat}(hu:EE.P.underlying t=some (.int .i64)){x:Int}:(Op.equalIn (d+1) t (In x) (In x)).run EE.P w= .ok true w:=by
 simp[Op.equalIn,und_run hu]
theorem fl58:(EE.P.fieldsOf 58).toList.map (λf=>(f.type,f.offset))=[(3,0),(3,1),(3,2),(3,3)]:=kr
theorem u58:EE.P.underlying 58=some (.struct (EE.P.fieldsOf 58)):=kr
theorem eq_room{a0 a1 a2 a3:Int}{xo yo:Operand}:eqA EE.P .eql 58 xo yo (.agg #[In a0,In a1,In a2,In a3]) (.agg #[In a0,In a1,In a2,In a3]) m=some (.bool true):=by
 refine eqA_aggW (r:=true) (w:=default) (.inl rfl) rfl rfl (by rw[<-Array.all_toList];rfl) (by rw[<-Array.all_toList];rfl) kr ?_
 show(Op.equalIn (9998+1+1) 58 _ _).run EE.P default=_
 rw[run_equalIn_struct default _ _ _ _ u58 kr]
 refine eqFields_refl _ λf hf=>?_
 have hm:=List.mem_map_of_mem (f:=λf:Field=>(f.type,f.offset)) hf
 rw[fl58] at hm
 have u3:EE.P.underlying 3=some (.int .i64):=kr
 simp only[List.mem_cons,pI,List.not_mem_nil,or_false] at hm
 rcases hm with⟨a,b⟩|⟨a,b⟩|⟨a,b⟩|⟨a,b⟩
 ·rw[a,b];exact⟨In a0,part_one u3 rfl rfl,eq_i 9998 u3⟩
 ·rw[a,b];exact⟨In a1,part_one u3 rfl rfl,eq_i 9998 u3⟩
 ·rw[a,b];exact⟨In a2,part_one u3 rfl rfl,eq_i 9998 u3⟩
 ·rw[a,b];exact⟨In a3,part_one u3 rfl rfl,eq_i 9998 u3⟩
end
section
variable{m m' M mr:Mem}{n:Nat}{L L' L1 L2:Loc}{X X' X1 X2 Y W:St}{v w:Value}{fl:List Value}{pid:Int}{b:BootR}{l:List OpR}
theorem rdy_mem{i:Nat}(hl:liveX X pid=some i)(hst:(X.p i).state=1)(hpid:(X.p i).pid=pid)(hw:(X.p i).wait=0):pid∈pidsX X (rdyB X):=by
 unfold pidsX
 refine List.mem_map.2 ⟨i,List.mem_filter.2 ⟨live_mem hl,?_⟩,hpid⟩
 show(decide ((X.p i).state=1)&&decide ((X.p i).wait=0))=true
 rw[decide_eq_true hst,decide_eq_true hw];rfl
theorem live_inv{i:Nat}(hl:liveX X pid=some i):(X.p i).state=1∧(X.p i).pid=pid:=by
 unfold liveX at hl
 split at hl
 ·rename_i j hj
  split at hl
  ·rename_i hs
   cases hl
   have:=List.find?_some hj
   exact⟨hs,of_decide_eq_true this⟩
  ·cases hl
 ·cases hl
theorem run_refused(hh:X.halted=false)(hr:pid∉pidsX X (rdyB X)):runR X pid=⟨X,[],290⟩:=by
 unfold runR
 rw[hh,if_neg (by simp)]
 cases hl:liveX X pid with
 |none=>rfl
 |some i=>
  obtain⟨h1,h2⟩:=live_inv hl
  rw[runB_1,if_neg λe=>hr (rdy_mem hl h1 h2 e)]
theorem sig_refused(hh:X.halted=false){g:Int}(hg:liveX X pid=none∨g<1∨15<g):sigR X pid g=⟨X,[],290⟩:=by
 unfold sigR
 rw[hh,if_neg (by simp),if_pos hg]
theorem state_live(h:(stateX X pid).1≠1):liveX X pid=none:=by
 unfold stateX at h
 unfold liveX
 cases hf:findX X pid with
 |none=>rfl
 |some i=>
  rw[hf] at h
  simp only at h⊢
  rw[if_neg h]
theorem ProgAt.nx{l:List (BitVec 32)}(h:ProgAt m v l)(hm:Fresh m)(hN:Nx m M):ProgAt M v l:=by
 obtain⟨a,C,rfl,h⟩:=h
 exact⟨a,C,rfl,h.imp id λ⟨b,cs,ww,z,e,h1,h2⟩=>⟨b,cs,ww,z,e,hN.keep hm h1,h2⟩⟩
theorem OpsAt.nx(h:OpsAt m v l)(hm:Fresh m)(hN:Nx m M):OpsAt M v l:=by
 obtain⟨a,C,rfl,h⟩:=h
 exact⟨a,C,rfl,h.imp id λ⟨b,cs,ww,z,e,h1,h2⟩=>⟨b,cs,ww,z,e,hN.keep hm h1,h2⟩⟩
theorem OpsAt.blk(h:OpsAt m v l)(hm:Fresh m):l=[]∨∀y,slB v=some y->y<m.next:=by
 obtain⟨a,C,rfl,h⟩:=h
 exact h.imp id λ⟨b,cs,ww,z,e,h1,h2⟩ y hy=>by subst e;cases hy;exact hm.lt h1
theorem Ox.new(hb:mayB b):Ox 0 (newX b):=by
 have hG0:=GX.new0 hb
 have hP0:0<(new0 b).P.length:=by show 0<1;decide
 have S1:=Sh.mapPages (a:=0#32) (n:=BitVec.ofNat 32 (pgsN b.prog.length)) (f:=1#32) hG0 hP0
 have S2:=(Sh.wrds S1.gx (lL hP0 S1.P) (l:=b.prog) (k:=b.prog.length)).1
 have S:=S1.trans S2
 refine⟨S.gx.set_l (by have:=S.gx.pr;show((1:Nat):Int)<=_;omega),List.length_eq_zero_iff.1 (Nat.le_zero.1 S.sn),S.fut⟩
theorem Grow.tr{m1 m2 m3:Mem}(h:Grow m1 m2)(g:Grow m2 m3):Grow m1 m3:=⟨lT h.1 g.1,λy hy e=>g.2 y (lL hy h.1) (h.2 y hy e)⟩
theorem in_succ{R:List Int}{k:Nat}(hk:k<R.length):decide (pid∈R.take (k+1))=(decide (pid∈R.take k)||decide (R.getD k 0=pid)):=by
 rw[List.take_add_one,gE' hk,gD',gE' hk,Bool.eq_iff_iff]
 show decide (pid∈R.take k++ [R[k]])=true↔(decide (pid∈R.take k)||decide (R[k]=pid))=true
 rw[Bool.or_eq_true,decide_eq_true_eq,decide_eq_true_eq,decide_eq_true_eq,List.mem_append,List.mem_singleton]
 exact⟨λh=>h.imp _root_.id Eq.symm,λh=>h.imp _root_.id Eq.symm⟩
theorem eqv_room{a b c d:Int}:EE.eqv (.agg #[In a,In b,In c,In d]) (.agg #[In a,In b,In c,In d])=true:=eqvA (l:=[In a,In b,In c,In d]) λv hv=>by
 simp only[List.mem_cons,List.not_mem_nil,or_false] at hv
 rcases hv with rfl|rfl|rfl|rfl<;>simp[vEqL,vEq,vEqN]
theorem SlV.out{A:List Int}(h:SlV m 1 v A.length (il A)){y:Nat}(hy:slB v=some y):∃o,m.get y=some o:=by
 rcases h.at_ with⟨_,rfl⟩|⟨b,c,cs,rfl,h2,_⟩
 ·cases hy
 ·cases hy;exact⟨_,h2⟩
structure Ks(m0:Mem)(f:Nat)(Y:St)(pv rv:Value)(B:List (Nat×Cells))(M:Mem):Prop where
 ex:∃L4,FAt M L4 Y∧L4.f=f∧(∀p∈B,¬L4.D p.1)∧(∀y,slB pv=some y->¬L4.D y)∧∀y,slB rv=some y->¬L4.D y
 g:∀p∈B,M.get p.1=some (.cells p.2 true 0)
 pv:SlV M 1 pv (pidsX Y λ_=>true).length (il (pidsX Y λ_=>true))
 rv:SlV M 1 rv (pidsX Y (rdyB Y)).length (il (pidsX Y (rdyB Y)))
 fr:Fresh M
 tb:Tb M
 gr:Grow m0 M
theorem Ks.nx{f:Nat}{pv rv:Value}{B:List (Nat×Cells)}(h:Ks m f Y pv rv B M)(hN:Nx M m'):Ks m f Y pv rv B m':=by
 obtain⟨L4,a,e,d1,d2,d3⟩:=h.ex
 exact⟨⟨L4,a.nx hN,e,d1,d2,d3⟩,λp hp=>hN.keep h.fr (h.g p hp),h.pv.nx h.fr hN,h.rv.nx h.fr hN,hN.fresh,h.tb.nx h.fr hN,Grow.tr h.gr (Nx.grow' hN)⟩
theorem Nx.new2(hM:Fresh M){b1 k:Nat}{o o1:AObj}(h1:M.next<=b1)(h2:b1<M.next+k):Nx M (((M.put b1 o).put b1 o1).bump k):=(((Nx.refl hM).bump k).putN h1 (by rw[bN];exact h2)).putN h1 (by rw[nP,bN];exact h2)
theorem Ks.add{f:Nat}{pv rv:Value}{B:List (Nat×Cells)}(h:Ks m f Y pv rv B M)(hN:Nx M m'){b1:Nat}{c:Cells}(hb:M.next<=b1)(hg:m'.get b1=some (.cells c true 0)):Ks m f Y pv rv ((b1,c)::B) m':=by
 have hk:=h.nx hN
 obtain⟨L4,a,e,d1,d2,d3⟩:=h.ex
 refine⟨⟨L4,a.nx hN,e,λp hp=>?_,d2,d3⟩,λp hp=>?_,hk.pv,hk.rv,hk.fr,hk.tb,hk.gr⟩
 ·rcases List.mem_cons.1 hp with rfl|hp
  ·exact λe=>by have:=a.lt _ e;omega
  ·exact d1 p hp
 ·rcases List.mem_cons.1 hp with rfl|hp
  ·exact hg
  ·exact hk.g p hp
theorem Ks.go{f:Nat}{pv rv:Value}{B:List (Nat×Cells)}(h:Ks m f Y pv rv B M){g:FuncId}{args:List Value}(hc:∀L4,FAt M L4 Y->L4.f=f->∃u m',Con EE.P g args M u m'∧Tl M L4 ⟨Y,[],290⟩ u m'):∃u m',Con EE.P g args M u m'∧∃v,u= .tuple [v,In 290].toArray∧(∀M',lenA EE.P 53 v M'=some (In 0))∧Ks m f Y pv rv B m':=by
 obtain⟨L4,a,e,d1,d2,d3⟩:=h.ex
 obtain⟨u,m',c,hB,v,hu,hv,_⟩:=hc L4 a e
 have hg:=hB.grow
 have hfr:=hB.fresh
 have htb:=hB.tb a h.fr h.tb
 have hk:∀y o,M.get y=some o->¬L4.D y->m'.get y=some o:=λy o hy hD=>(hB.old (h.fr.lt hy) hD).trans hy
 obtain⟨L5,a5,x5,f5⟩:=hB
 have hd:∀y o,M.get y=some o->¬L4.D y->¬L5.D y:=λy o hy hD e=>(x5.D _ e).elim hD λe=>by have:=h.fr.lt hy;omega
 refine⟨u,m',c,v,hu,λM'=>hv.lenA und_53,⟨L5,a5,x5.f.trans e,λp hp=>hd _ _ (h.g p hp) (d1 p hp),λy hy=>?_,λy hy=>?_⟩,λp hp=>hk _ _ (h.g p hp) (d1 p hp),h.pv.keep λy o hy e=>hk _ _ e (d2 y hy),h.rv.keep λy o hy e=>hk _ _ e (d3 y hy),hfr,htb,Grow.tr h.gr hg⟩
 ·obtain⟨o,ho⟩:=h.pv.out hy
  exact hd _ _ ho (d2 y hy)
 ·obtain⟨o,ho⟩:=h.rv.out hy
  exact hd _ _ ho (d3 y hy)
theorem refuses_ok(hm:Fresh m)(ht:Tb m)(hal:∀M,Nx m M->∃u M',Con EE.P 13 [] M u M'∧u= .bool true∧Nx M M')(hp:ProgAt m v b.prog)(ho:OpsAt m w l):∃m',Con EE.P 6 [.agg (bootL b v).toArray,w,In pid] m (.bool true) m':=by
 refine Con.raw1 EE_ok fn6 (bA rfl) ?_
 have h64:=hm.n64
 have hv1:[v].all oneCell=true:=by obtain⟨a,C,rfl,_⟩:=hp;rfl
 have bo:(bootL b v).all oneCell=true:=by unfold bootL;simpa [oneCell] using hv1
 have bl:(bootL b v).length=5:=rfl
 have hN1:∀(o1:AObj) (k:Nat),1<=k->Nx m ((m.put m.next o1).bump k):=λo1 k hk=>⟨by(try simp only[bN,nP]);omega,Fresh.of_low (by have:=hm.n64;(try simp only[bN,nP]);omega) (by repeat(first|exact Low.of hm nO|refine Low.put ?_ nO|refine Low.bump ?_)),λy hy=>by simp only[gB,gP,ne_new0 hy,if_false]⟩
 simp only[XX,XY,F6,yA,yB,yC]
 refine cX (hal _ (hN1 _ _ (by omega))) λu M1 hM1=>?_
 obtain⟨rfl,hN⟩:=hM1
 have hN1M:=(hN1 _ _ (by omega)).trans hN
 have hb1:M1.get m.next=some (.cells (ofL (bootL b v)) true 0):=hN.keep (hN1 _ _ (by omega)).fresh gA
 have n1:=hN1M.next
 have bs:(ofL (bootL b v)).sub 0 5=some (bootL b v):=rfl
 have hp1:=hp.nx hm (hN1M.bump 8)
 have ho1:=ho.nx hm (hN1M.bump 8)
 simp only[XX,XY,F6,yA,yB,yC,n1,hb1,bs]
 refine cZ (great_ok ho1 hp1) ?_
 cases hgr:greatB b l.length 200 with
 |true=>
  simp only[XX,XY,F6,yA,yB,yC,yI,n1,lA]
  exact⟨Nx.grow' (hN1M.bump _),rfl⟩
 |false=>
  have hlen:b.prog.length<=512∧l.length<=200:=by
   unfold greatB at hgr
   simp only[Bool.or_eq_false_iff,decide_eq_false_iff_not] at hgr
   omega
  by_cases hmay:mayB b
  ·simp only[XX,XY,F6,yA,yB,yC,yI,n1,hb1,bs,lA]
   refine cX (new_ok (hp.nx hm (hN1M.bump _)) (hN1M.bump _).fresh hmay) λu M2 hM2=>?_
   obtain⟨L,rfl,hA2,hN2,hD2,hG2⟩:=hM2
   have hN2m:=(hN1M.bump _).trans hN2
   have n2:=hN2m.next
   have n21:=hN2.next
   have hL2:∀y,L.D y->m.next<=y:=λy hy=>by have:=hD2 y hy;rw[bN] at this;omega
   simp only[XX,XY,F6,yA,yB,yC,n2,lA]
   refine cX (turned_ok (hA2.bump _) hN2.fresh.bump ((ht.nx hm hN2m).bump _) (Ox.new hmay) (by omega) (ho.nx hm (hN2m.bump _)) ((ho.blk hm).imp id λh y hy e=>by have:=h y hy;have:=hL2 y e;omega)) λu M3 hM3=>?_
   obtain⟨hB3,hX3⟩:=hM3
   have hB3:=hB3.of_bump
   generalize opsX (newX b) l=Y at hB3 hX3
   obtain⟨L3,a3,x3,f3⟩:=id hB3
   have ef3:L3.f=L.f:=x3.f
   have n3:=f3.next
   have nm3:m.next<=M3.next:=by omega
   have htM3:=hB3.tb hA2 hN2.fresh (ht.nx hm hN2m)
   have hln:=hX3.gx.ln
   simp only[XX,XY,F6,yA,yB,yC,nm3]
   refine cX (by rw[<-ef3];exact Pids_ok (a3.bump _) f3.fresh.bump hX3.gx) λpv M4 hN4=>?_
   have l4:=hN4.nx.next
   simp only[bN] at l4
   have p4:∀y,slB pv=some y->M3.next+7<=y:=λy hy=>by have:=hN4.new y hy;simp only[bN] at this;omega
   have hN4:=hN4.of_bump
   have n4:=hN4.nx.next
   have nm4:m.next<=M4.next:=by omega
   simp only[XX,XY,F6,yA,yB]
   refine CallI.ex2L (by rw[<-ef3];exact Ready_ok (a3.nx hN4.nx) hN4.nx.fresh hX3.gx) (by simp) λrv M5 hN5=>?_
   have n5:=hN5.nx.next
   have nm5:m.next<=M5.next:=by omega
   have hN35:=hN4.nx.trans hN5.nx
   simp only[XX,XY,F6,yA,yB]
   refine CallI.con (by rw[<-ef3];exact room_ok (a3.nx hN35) hX3.gx) (by simp) ?_
   have hR:(pidsX Y (rdyB Y)).length<=32:=by unfold pidsX;rw[lM];have:=List.length_filter_le (rdyB Y) Y.l;omega
   have hP:(pidsX Y λ_=>true).length<=32:=by unfold pidsX;rw[lM];have:=List.length_filter_le (λ_=>true) Y.l;omega
   have hlR:∀M,lenA EE.P 41 rv M=some (In (pidsX Y (rdyB Y)).length):=λM=>hN5.sl.lenA und_41
   simp only[XX,XY,F6,yA,yB,yC,nm5,roomX,hlR,lA]
   have hw4:∀c:Cells,c.n=4->(c.write 0 ((roomX Y).map In)).sub 0 4=some ((roomX Y).map In):=λc hc=>sub_write_same rfl (by rw[hc];decide)
   have nb:M3.next+6<M5.next:=by omega
   refine WX.loop_of (λkk tt M=>∃k:Nat,k<=(pidsX Y (rdyB Y)).length∧kk=(pidsX Y (rdyB Y)).length-k∧tt=T 197 [(62,In k),(61,In (pidsX Y (rdyB Y)).length),(60,rv),(13, .bool (decide (pid∈(pidsX Y (rdyB Y)).take k))),(11,rv),(10,pv),(12,PT (M3.next+6)),(8,PT L.f),(7, .bool true),(2,In pid)]∧(Nx M3 M∧SlV M 1 pv (pidsX Y λ_=>true).length (il (pidsX Y λ_=>true))∧SlV M 1 rv (pidsX Y (rdyB Y)).length (il (pidsX Y (rdyB Y)))∧(∀y,slB pv=some y->M3.next<=y)∧(∀y,slB rv=some y->M3.next<=y)∧∃c12,M.get (M3.next+6)=some (.cells c12 true 0)∧c12.sub 0 4=some ((roomX Y).map In))) ?_ (k:=(pidsX Y (rdyB Y)).length) (t1:=T 197 [(62,In (0:Nat)),(61,In (pidsX Y (rdyB Y)).length),(60,rv),(13, .bool false),(11,rv),(10,pv),(12,PT (M3.next+6)),(8,PT L.f),(7, .bool true),(2,In pid)]) (vT ⟨rfl,rfl,rfl,rfl,rfl,rfl,rfl,rfl,rfl,rfl,trivial⟩) ⟨0,by omega,rfl,by simp,?i1,?i2,?i3,λy hy=>hN4.new y hy,λy hy=>by have:=hN5.new y hy;omega,(ofL [In 0,In 0,In 0,In 0]).write 0 ((roomX Y).map In),by((simp only[gB,gP];repeat(first|rw[if_neg (by omega)]|rw[if_pos trivial]|rw[if_pos (by omega)]));rfl),hw4 _ rfl⟩
   case i1=>exact((hN35.putN (by omega) nb).putN (by omega) (by rw[nP];exact nb)).bump _
   case i2=>
    exact hN4.sl.keep λy o hy e=>by
     have:=p4 y hy
     rw[gB,gP,if_neg (by omega),gP,if_neg (by omega)];exact(hN5.nx.old y (hN4.nx.fresh.lt e)).trans e
   case i3=>
    exact hN5.sl.keep λy o hy e=>by
     have:=hN5.new y hy
     rw[gB,gP,if_neg (by omega),gP,if_neg (by omega)];exact e
   rintro kk tt M ⟨k,hk,rfl,rfl,hNM,hpv,hrv,hpn,hrn,c12,hc12,hs12⟩
   have nM:=hNM.next
   have nmM:m.next<=M.next:=by omega
   have hlR:∀M,lenA EE.P 41 rv M=some (In (pidsX Y (rdyB Y)).length):=λM=>hrv.lenA und_41
   by_cases hk2:k<(pidsX Y (rdyB Y)).length
   ·have e1:=in_succ (pid:=pid) hk2
    generalize hRR:pidsX Y (rdyB Y)=R at*
    have g1:(k:Int)<(R.length:Int):=by omega
    have g2:(0:Int)<=k:=by omega
    have hwk:IntKind.i64.wrap ((k:Int)+1)=((k+1:Nat):Int):=by rw[wrap_i64 (by omega) (by omega)];omega
    obtain⟨bq,cq,csq,efv,z1,z2,z3,z4⟩:=hrv.cons (by omega)
    have hq:csq.nth k=some (In (R.getD k 0)):=by
     rw[nth_lt (by omega),z4 k (by rw[lM];exact hk2),gD',gM',gD',gE' hk2];rfl
    cases hd:decide (pid∈R.take k) with
    |true=>
     rw[hd,Bool.true_or] at e1
     subst efv
     simp only[XX,XY,F6,yA,yB,yC,g1,g2,nmM,z1,hq,hwk,roundQ_normal,lA]
     exact⟨R.length-(k+1),_,_,by omega,vT (l':=[(62,In ((k+1:Nat):Int)),(61,In R.length),(60, .slice (some ⟨bq,0,none⟩) R.length cq),(13, .bool (true)),(11, .slice (some ⟨bq,0,none⟩) R.length cq),(10,pv),(12,PT (M3.next+6)),(8,PT L.f),(7, .bool true),(2,In pid)]) ⟨rfl,rfl,rfl,rfl,rfl,rfl,rfl,rfl,rfl,rfl,trivial⟩,k+1,by omega,rfl,by rw[e1],hNM.bump _,hpv.bump _,hrv.bump _,hpn,hrn,c12,hc12,hs12⟩
    |false=>
     rw[hd,Bool.false_or] at e1
     subst efv
     simp only[XX,XY,F6,yA,yB,yC,g1,g2,nmM,z1,hq,hwk,roundQ_normal,lA]
     exact⟨R.length-(k+1),_,_,by omega,vT (l':=[(62,In ((k+1:Nat):Int)),(61,In R.length),(60, .slice (some ⟨bq,0,none⟩) R.length cq),(13, .bool (decide (R.getD k 0=pid))),(11, .slice (some ⟨bq,0,none⟩) R.length cq),(10,pv),(12,PT (M3.next+6)),(8,PT L.f),(7, .bool true),(2,In pid)]) ⟨rfl,rfl,rfl,rfl,rfl,rfl,rfl,rfl,rfl,rfl,trivial⟩,k+1,by omega,rfl,by rw[e1],hNM.bump _,hpv.bump _,hrv.bump _,hpn,hrn,c12,hc12,hs12⟩
   ·obtain rfl:k=(pidsX Y (rdyB Y)).length:=by omega
    have g1:¬((pidsX Y (rdyB Y)).length:Int)<((pidsX Y (rdyB Y)).length:Int):=by omega
    rw[List.take_length]
    obtain⟨inb,hinb⟩:∃x,x=decide (pid∈pidsX Y (rdyB Y)):=⟨_,rfl⟩
    rw[<-hinb]
    simp only[XX,XY,F6,yA,yB,yC,g1,nmM,roundQ_exit,lA]
    have hgM:Grow m M:=Grow.tr (Nx.grow' hN2m) (Grow.tr hB3.grow (Nx.grow' hNM))
    have aM:∀M',Nx M3 M'->FAt M' L3 Y:=λM' hN=>a3.nx hN
    refine cZ (by rw[<-ef3];exact halted_ok (aM _ (hNM.bump _)) hX3.gx) ?_
    cases hh:Y.halted with
    |true=>
     simp only[XX,XY,F6,yA,yB,yC,nmM,lA]
     exact⟨Grow.tr hgM (Nx.grow' ((Nx.refl hNM.fresh).bump _)),rfl⟩
    |false=>
     cases inb with
     |true=>
      simp only[XX,XY,F6,yA,yB,yC,nmM,lA]
      exact⟨Grow.tr hgM (Nx.grow' ((Nx.refl hNM.fresh).bump _)),rfl⟩
     |false=>
      have hnin:pid∉pidsX Y (rdyB Y):=λe=>by rw[decide_eq_true e] at hinb;cases hinb
      simp only[XX,XY,F6,yA,yB,yC,nmM,lA]
      refine cZ (by rw[<-ef3];exact cpu_ok (aM _ (hNM.bump _)) hX3.gx) ?_
      have hcok:(cpuX Y pid).ok:=by
       unfold cpuX
       cases hl:liveX Y pid with
       |none=>exact cpu0_ok
       |some i=>obtain⟨cs,h1,h2⟩:=a3.pr i (a3.pi i (live_mem hl));exact h2.okc
      have l11:=cpuL_len hcok
      have o11:= @cpuL_one
      have hwc:∀c:Cells,c.n=11->(c.write 0 (cpuL (cpuX Y pid))).sub 0 11=some (cpuL (cpuX Y pid)):=λc hc=>sub_write_same l11 (by rw[hc];decide)
      simp only[XX,XY,F6,yA,yB,yC,nmM,l11,o11,lA]
      have hs9:Y.seen.length+Y.fut.length<99000:=by have:=hX3.fl;rw[hX3.sn,List.length_nil];omega
      have K0:Ks m L.f Y pv rv [(M3.next+6,c12)] M:=⟨⟨L3,aM _ hNM,ef3,λp hp e=>by rw[List.mem_singleton.1 hp] at e;have:=a3.lt _ e;simp only at this;omega,λy hy e=>by have:=a3.lt _ e;have:=hpn y hy;omega,λy hy e=>by have:=a3.lt _ e;have:=hrn y hy;omega⟩,λp hp=>by rw[List.mem_singleton.1 hp];exact hc12,hpv,hrv,hNM.fresh,htM3.nx f3.fresh hNM,hgM⟩
      refine CallI.gen (Ks m L.f Y pv rv [(M.next+12,(ofL [Um 0,Um 0,Um 0,Um 0,Um 0,Um 0,Um 0,Um 0, .complex .f64 0 0, .complex .f64 0 0,Um 0]).write 0 (cpuL (cpuX Y pid))),(M3.next+6,c12)]) (K0.add (Nx.new2 K0.fr (by omega) (by omega)) (by omega) (by((simp only[gB,gP];repeat(first|rw[if_neg (by omega)]|rw[if_pos trivial]|rw[if_pos (by omega)]));rfl))) λM6 K6=>?_
      clear K0
      obtain⟨L6,a6,e6,_⟩:=id K6.ex
      have nm6:=K6.gr.1
      refine cZ (by rw[<-e6];exact state_ok a6 hX3.gx) ?_
      simp only[XX,XY,F6,yA,yB,yC,nm6]
      refine cX ((K6.nx ((Nx.refl K6.fr).bump _)).go λL4 a e=>by rw[<-e,<-run_refused hh hnin];exact fRun_ok a (K6.fr.bump) (K6.tb.bump _) hX3.gx hs9) λu M7 h7=>?_
      obtain⟨v7,rfl,l7,K7⟩:=h7
      have nm7:=K7.gr.1
      simp only[XX,XY,F6,yA,yB,yC,nm7]
      refine cX ((K7.nx ((Nx.refl K7.fr).bump _)).go λL4 a e=>by rw[<-e,<-sig_refused (pid:=pid) (g:=0) hh (.inr (.inl (by decide)))];exact fSig_ok a (K7.fr.bump) (K7.tb.bump _) hX3.gx hs9) λu M8 h8=>?_
      obtain⟨v8,rfl,l8,K8⟩:=h8
      have nm8:=K8.gr.1
      simp only[XX,XY,F6,yA,yB,yC,nm8]
      refine cX ((K8.nx ((Nx.refl K8.fr).bump _)).go λL4 a e=>by rw[<-e,<-sig_refused (pid:=pid) (g:=16) hh (.inr (.inr (by decide)))];exact fSig_ok a (K8.fr.bump) (K8.tb.bump _) hX3.gx hs9) λu M9 h9=>?_
      obtain⟨v9,rfl,l9,K9⟩:=h9
      have nm9:=K9.gr.1
      have w0:IntKind.i64.wrap (0+0)=0:=rfl
      have w1:IntKind.i64.wrap 0=0:=rfl
      by_cases hst:(stateX Y pid).1=1
      case' pos=>
       simp only[XX,XY,F6,yA,yB,yC,nm9,l7,l8,l9,w0,hst,lA]
      case' neg=>
       simp only[XX,XY,F6,yA,yB,yC,nm9,l7,l8,l9,w0,hst,lA]
       refine cX ((K9.nx ((Nx.refl K9.fr).bump _)).go λL4 a e=>by rw[<-e,<-sig_refused (pid:=pid) (g:=1) hh (.inl (state_live hst))];exact fSig_ok a (K9.fr.bump) (K9.tb.bump _) hX3.gx hs9) λu M9 h9=>?_
       obtain⟨v10,rfl,l10,K9⟩:=h9
       have nm9:=K9.gr.1
       simp only[XX,XY,F6,yA,yB,yC,nm9,l10,lA]
      all_goals
       obtain⟨L10,a10,e10,_⟩:=id K9.ex
       refine cZ (by rw[<-e10];exact cpu_ok (a10.bump _) hX3.gx) ?_
       simp only[XX,XY,F6,yA,yB,yC,nm9,l11,o11,lA]
       first
       |refine CallI.gen (Ks m L.f Y pv rv ((M9.next+17,(ofL [Um 0,Um 0,Um 0,Um 0,Um 0,Um 0,Um 0,Um 0, .complex .f64 0 0, .complex .f64 0 0,Um 0]).write 0 (cpuL (cpuX Y pid)))::[(M.next+12,(ofL [Um 0,Um 0,Um 0,Um 0,Um 0,Um 0,Um 0,Um 0, .complex .f64 0 0, .complex .f64 0 0,Um 0]).write 0 (cpuL (cpuX Y pid))),(M3.next+6,c12)])) (K9.add (Nx.new2 K9.fr (by omega) (by omega)) (by omega) (by((simp only[gB,gP];repeat(first|rw[if_neg (by omega)]|rw[if_pos trivial]|rw[if_pos (by omega)]));rfl))) λM11 K11=>?_
       |refine CallI.gen (Ks m L.f Y pv rv ((M9.next+30,(ofL [Um 0,Um 0,Um 0,Um 0,Um 0,Um 0,Um 0,Um 0, .complex .f64 0 0, .complex .f64 0 0,Um 0]).write 0 (cpuL (cpuX Y pid)))::[(M.next+12,(ofL [Um 0,Um 0,Um 0,Um 0,Um 0,Um 0,Um 0,Um 0, .complex .f64 0 0, .complex .f64 0 0,Um 0]).write 0 (cpuL (cpuX Y pid))),(M3.next+6,c12)])) (K9.add (Nx.new2 K9.fr (by omega) (by omega)) (by omega) (by((simp only[gB,gP];repeat(first|rw[if_neg (by omega)]|rw[if_pos trivial]|rw[if_pos (by omega)]));rfl))) λM11 K11=>?_
       obtain⟨L11,a11,e11,_⟩:=id K11.ex
       have nm11:=K11.gr.1
       have g11:=K11.g _ (.head _)
       have g16:=K11.g _ (.tail _ (.head _))
       dsimp only at g11 g16
       have s11:=hwc (ofL [Um 0,Um 0,Um 0,Um 0,Um 0,Um 0,Um 0,Um 0, .complex .f64 0 0, .complex .f64 0 0,Um 0]) rfl
       have q1:=λxo yo m=> @eq_cpu _ m hcok xo yo
       refine cZ (by rw[<-e11];exact state_ok a11 hX3.gx) ?_
       have g12:=K11.g _ (.tail _ (.tail _ (.head _)))
       dsimp only at g12
       have q2:=λa0 a1 a2 a3 xo yo m=> @eq_room m a0 a1 a2 a3 xo yo
       simp only[XX,XY,F6,yA,yB,nm11,g11,g16,s11,q1,hst]
       refine cX (by rw[<-e11];exact Pids_ok (a11.bump _) K11.fr.bump hX3.gx) λpv2 M12 h12=>?_
       have N12:=h12.of_bump.nx
       have K12:=K11.nx N12
       have nm12:=K12.gr.1
       simp only[XX,XY,F6,yA,yB]
       refine CallI.con (same_ok h12.sl K12.pv (by omega)) (by simp) ?_
       simp only[XX,XY,F6,yA,yB]
       refine CallI.ex2L (by rw[<-e11];exact Ready_ok (a11.nx N12) K12.fr hX3.gx) (by simp) λrv2 M13 h13=>?_
       have K13:=K12.nx h13.nx
       have nm13:=K13.gr.1
       simp only[XX,XY,F6,yA,yB]
       refine CallI.con (same_ok h13.sl K13.rv (by omega)) (λc hc e1 e2=>?_) ?_
       ·simp only[List.mem_cons,List.not_mem_nil,or_false] at hc
        rcases hc with rfl|rfl|rfl
        ·cases e1
        ·exact⟨rfl,e2⟩
        ·cases e1
       have k16:=K13.g _ (.tail _ (.tail _ (.head _)))
       dsimp only at k16
       simp only[XX,XY,F6,yA,yB]
       refine CallI.con (by rw[<-e11];exact room_ok ((a11.nx N12).nx h13.nx) hX3.gx) (by simp) ?_
       unfold roomX at hs12⊢
       simp only[XX,XY,F6,yA,yB,k16,hs12,q2,@eqv_room]
       exact⟨K13.gr,rfl⟩
  ·simp only[XX,XY,F6,yA,yB,yC,yI,n1,hb1,bs,lA]
   refine cZ (new_no (hp.nx hm (hN1M.bump _)) hmay hlen.1) ?_
   simp only[XX,XY,F6,yA,yB,yC,yH,n1,lA]
   exact⟨Nx.grow' (hN1M.bump _),rfl⟩
end
end
end Go.Ab
namespace Go.Ab
open Go.RowKit Go.ChangeShapes
section
variable{H:Type}{enc:TypeId×Value->H}{P:Program}{w:World}{base:Nat}{spare:Nat->Bool}{held:Bool}
theorem cell_of{w:World}{a:Addr}{v:Value}(h:w.cell? a=some v):∃cs t fz,w.heap[a.block]? =some (.cells cs t fz)∧a.spot=none∧cs[a.off]? =some v:=by
 unfold World.cell? at h
 split at h
 ·rename_i cs t fz hh
  split at h
  ·cases h
  ·rename_i hs
   exact⟨cs,t,fz,hh,by simpa using hs,h⟩
 ·cases h
theorem add_block(a:Addr)(n:Nat):(a.add n).block=a.block:=by unfold Addr.add;split<;>rfl
theorem add_off(a:Addr)(n:Nat):(a.add n).off=a.off+n:=by unfold Addr.add;split<;>simp_all
theorem trod_cells{t e:TypeId}{sz:Nat}{a:Option Addr}{len cap:Nat}{d:DataW H}{ps:List MemPlace}(ht:P.underlying t=some (.slice e))(hc:P.cellsOf e=sz)(hsz:0<sz)(h:DataW.Trod enc P w base spare held t (.slice a len cap) d ps):
  (len=0)∨∃k off cs tt fz,a=some ⟨k,off,none⟩∧w.heap[k]? =some (.cells cs tt fz)∧off+len*sz<=cs.size∧
   ∀i,i<len->∃n y,DataW.trod enc P w base spare held n e ((List.range sz).map λj=>cs.getD (off+(i*sz+j)) undef)=some y:=by
 obtain⟨fuel,h⟩:=h
 rcases DataW.trod_slice ht h with⟨h1,_⟩|⟨a',len',cap',elems,rest,n,rfl,h1,_,_,_,_,hl,hel,_⟩
 ·simp only[Value.cells,List.cons.injEq,and_true,Value.slice.injEq] at h1
  exact .inl h1.2.1
 ·simp only[Value.cells,List.cons.injEq,and_true,Value.slice.injEq] at h1
  obtain⟨rfl,rfl,rfl⟩:=h1
  rcases Nat.eq_zero_or_pos len with h0|hpos
  ·exact .inl h0
  right
  rw[hc] at hel
  have key:∀i,i<len->∃y l,w.cells? base (a'.add (i*sz)) sz=some l∧DataW.trod enc P w base spare held n e l=some y∧l.length=sz∧∀j,j<sz->w.cell? ((a'.add (i*sz)).add j)=l[j]? :=by
   intro i hi
   have h2:=hel i hi
   rw[gE' (by omega),Option.bind_eq_some_iff] at h2
   obtain⟨l,h3,h4⟩:=h2
   have h5:=h3
   unfold World.cells? at h5
   split at h5
   ·refine⟨_,l,h3,h4,by simpa using mapM_some_length h5,λj hj=>?_⟩
    exact mapM_some_get h5 j j (by simp[hj])
   ·cases h5
  obtain⟨y,l,_,_,hl0,hc0⟩:=key 0 hpos
  have hz:=hc0 0 hsz
  rw[gE' (by omega)] at hz
  obtain⟨cs,tt,fz,g1,g2,_⟩:=cell_of hz
  have hb:((a'.add (0*sz)).add 0).block=a'.block:=by rw[add_block,add_block]
  rw[hb] at g1
  have hspot:a'.spot=none:=by simpa [Addr.add] using g2
  have hcell:∀i,i<len->∃y l,DataW.trod enc P w base spare held n e l=some y∧l.length=sz∧∀j,j<sz->cs[a'.off+(i*sz+j)]? =l[j]? :=by
   intro i hi
   obtain⟨y,l,_,h4,hl1,hj⟩:=key i hi
   refine⟨y,l,h4,hl1,λj hj'=>?_⟩
   have hc:=hj j hj'
   rw[gE' (by omega)] at hc
   obtain⟨cs',_,_,k1,_,k3⟩:=cell_of hc
   rw[add_block,add_block,g1] at k1
   cases k1
   rw[add_off,add_off] at k3
   rw[gE' (by omega),<-k3,Nat.add_assoc]
  refine⟨a'.block,a'.off,cs,tt,fz,by cases a';simp_all,g1,?_,λi hi=>?_⟩
  ·obtain⟨_,l,_,hl1,hj⟩:=hcell (len-1) (by omega)
   have:=hj (sz-1) (by omega)
   rw[gE' (by omega)] at this
   have hlt:=(Array.getElem?_eq_some_iff.1 this).1
   have e1:(len-1)*sz+sz=len*sz:=by rw[<-Nat.succ_mul];congr 1;omega
   omega
  ·obtain⟨y,l,h4,hl1,hj⟩:=hcell i hi
   have e:((List.range sz).map λj=>cs.getD (a'.off+(i*sz+j)) undef)=l:=by
    apply List.ext_getElem
    ·simp[hl1]
    ·intro j h1 h2
     have hj':j<sz:=by simpa using h1
     have:=hj j hj'
     rw[gE' (by omega)] at this
     simp only[List.getElem_map,List.getElem_range]
     rw[Array.getD_eq_getD_getElem?,this]
     rfl
   exact⟨n,y,by rw[e];exact h4⟩
end
noncomputable section
theorem Con.calls{P:Program}{f:FuncId}{args:List Value}{args':Array Value}{m m':Mem}{b:Bool}{ρ:Rho}{w:World}(h:Con P f args m (.bool b) m')(hs:Sealed m)(hR:Rel Sig.none ρ m w)(ha:LRel Sig.none ρ args args'.toList):
  CallsIn Fence.wide 0 P f args' w λe w'=>e= .returned (.bool b)∧RowKit.Below w.heap.size w w':=by
 refine(h.1 ρ w args' hR ha).mono ?_
 rintro e w' ⟨v',ρ',rfl,hr,hp,_⟩
 cases hr
 exact⟨rfl,hp.below hs⟩
end
end Go.Ab
namespace Go.Ab
noncomputable section
def getR{α:Type}(t:Tr α):Pa->Option α:=
 Tr.rec (motive:=λ_=>Pa->Option α) (λ_=>none) (λv _ _ gl gr p=>Pa.rec (motive:=λ_=>Option α) v (λp' _=>gl p') (λp' _=>gr p') p) t
def putR{α:Type}(v:Option α)(p:Pa):Tr α->Tr α:=
 Pa.rec (motive:=λ_=>Tr α->Tr α)
  (λt=>Tr.rec (motive:=λ_=>Tr α) (.node v .leaf .leaf) (λ_ l r _ _=> .node v l r) t)
  (λ_ ih t=>Tr.rec (motive:=λ_=>Tr α) (.node none (ih .leaf) .leaf) (λw l r _ _=> .node w (ih l) r) t)
  (λ_ ih t=>Tr.rec (motive:=λ_=>Tr α) (.node none .leaf (ih .leaf)) (λw l r _ _=> .node w l (ih r)) t) p
theorem getR_eq{α:Type}(t:Tr α)(p:Pa):getR t p=getP t p:=by
 induction t generalizing p with
 |leaf=>rw[getP_leaf];rfl
 |node v l r h1 h2=>cases p with
  |e=>rfl
  |o p=>exact h1 p
  |i p=>exact h2 p
theorem putR_eq{α:Type}(v:Option α)(p:Pa)(t:Tr α):putR v p t=putP v p t:=by
 induction p generalizing t with
 |e=>cases t<;>rfl
 |o p ih=>cases t with
  |leaf=>show Tr.node none (putR v p .leaf) .leaf=_;rw[ih];rfl
  |node w l r=>show Tr.node w (putR v p l) r=_;rw[ih];rfl
 |i p ih=>cases t with
  |leaf=>show Tr.node none .leaf (putR v p .leaf)=_;rw[ih];rfl
  |node w l r=>show Tr.node w l (putR v p r)=_;rw[ih];rfl
structure TW where
 n:Nat
 tr:Tr Value
def TW.get(t:TW)(k:Nat):Value:=
 TW.rec (motive:=λ_=>Value) (λ_ tr=>Option.rec (motive:=λ_=>Value) undef (λv=>v) (getR tr (pa k k))) t
def TW.put(t:TW)(k:Nat)(v:Value):TW:=
 TW.rec (motive:=λ_=>TW) (λn tr=>Bool.rec (motive:=λ_=>TW) ⟨n,tr⟩ ⟨n,putR (some v) (pa k k) tr⟩ (Nat.ble (Nat.succ k) n)) t
def TW.put?(d:Option Tmp)(v:Value)(t:TW):TW:=Option.rec (motive:=λ_=>TW) t (λk=>TW.put t k v) d
def TW.load:List Value->Nat->TW->TW
 |[],_,t=>t
 |v::l,k,t=>TW.load l (Nat.succ k) (t.put k v)
def TW.ofArgs(n:Nat)(args:List Value):TW:=TW.load args 0 ⟨Nat.max n args.length, .leaf⟩
def TW.toList(t:TW):List Value:=(List.range t.n).map t.get
def TL(t:TW)(l:List Value):Prop:=t.n=l.length∧∀k,t.get k=l.getD k undef
theorem get_mkW(n:Nat)(tr:Tr Value)(k:Nat):TW.get ⟨n,tr⟩ k=(getP tr (pa k k)).getD undef:=by
 show Option.rec (motive:=λ_=>Value) undef (λv=>v) (getR tr (pa k k))=_
 rw[getR_eq]
 cases getP tr (pa k k)<;>rfl
theorem TL.toList{t:TW}{l:List Value}(h:TL t l):t.toList=l:=by
 apply list_ext_getD
 ·simp[TW.toList,h.1]
 ·intro i hi
  have hi':i<t.n:=by simpa [TW.toList] using hi
  rw[<-h.2 i]
  simp[TW.toList,gD',gM',List.getElem?_range hi']
theorem TL.put{t:TW}{l:List Value}(h:TL t l)(k:Nat)(v:Value):TL (t.put k v) (l.set k v):=by
 obtain⟨n,tr⟩:=t
 have h1:n=l.length:=h.1
 show TL (Bool.rec (motive:=λ_=>TW) ⟨n,tr⟩ ⟨n,putR (some v) (pa k k) tr⟩ (Nat.ble (Nat.succ k) n)) _
 cases hb:Nat.ble (Nat.succ k) n with
 |true=>
  have hk:k<n:=bA hb
  refine⟨by simp[h1],λj=>?_⟩
  simp only[get_mkW,putR_eq,getP_putP]
  by_cases e:j=k
  ·subst e
   have:j<l.length:=by rw[<-h1];exact hk
   simp[gD',this]
  ·rw[if_neg λe'=>e (pa_inj _ _ _ _ (lR' _) (lR' _) e')]
   have:=h.2 j
   simp only[get_mkW] at this
   rw[this,gD',gD',List.getElem?_set_ne (λe'=>e e'.symm)]
 |false=>
  have hk:¬k<n:=λhk=>by rw[Nat.ble_eq_true_of_le hk] at hb;cases hb
  show TL ⟨n,tr⟩ _
  rw[List.set_eq_of_length_le (by omega)]
  exact h
theorem TL.put? {t:TW}{l:List Value}(h:TL t l)(d:Option Tmp)(v:Value):TL (TW.put? d v t) (putT d v l):=by
 cases d with
 |none=>exact h
 |some k=>exact h.put k v
theorem load_list:∀(a:List Value) (k:Nat) (t:TW) (l:List Value),TL t l->k+a.length<=l.length->TL (TW.load a k t) (l.take k++a++l.drop (k+a.length))
 |[],k,t,l,h,_=>by simpa [TW.load] using h
 |v::a,k,t,l,h,hk=>by
  simp only[List.length_cons] at hk
  have:=load_list a (k+1) (t.put k v) (l.set k v) (h.put k v) (by simp;omega)
  simp only[TW.load]
  have e:(l.set k v).take (k+1)++a++(l.set k v).drop (k+1+a.length)=l.take k++v::a++l.drop (k+(v::a).length):=by
   rw[List.take_set,List.drop_set_of_lt (by omega)]
   have hlt:k<l.length:=by omega
   rw[List.take_succ_eq_append_getElem hlt,List.set_append_right _ _ (by rw[List.length_take];omega)]
   simp[Nat.min_eq_left (Nat.le_of_lt hlt),Nat.add_assoc,Nat.add_comm 1]
  rw[e] at this
  exact this
theorem ofArgs_list(n:Nat)(args:List Value):TL (TW.ofArgs n args) (args++List.replicate (n-args.length) undef):=by
 have h0:TL ⟨Nat.max n args.length, .leaf⟩ (List.replicate (Nat.max n args.length) undef):=by
  refine⟨by simp,λk=>?_⟩
  have:TW.get ⟨Nat.max n args.length, .leaf⟩ k=undef:=by simp[get_mkW,getP_leaf]
  rw[this,gD',List.getElem?_replicate]
  split<;>rfl
 have:=load_list args 0 _ _ h0 (by simp;exact Nat.le_max_right _ _)
 simp only[List.take_zero,List.nil_append,Nat.zero_add,List.drop_replicate] at this
 have e:Nat.max n args.length-args.length=n-args.length:=by
  show max n args.length-args.length=_
  omega
 rw[e] at this
 exact this
def evF(x:Operand)(t:TW):Value:=
 Operand.rec (motive:=λ_=>Value) (λk=>TW.get t k) (λv=>v) (λg=>ptr g 0) (λf=> .func (.func f) #[] #[]) x
theorem evF_eq{t:TW}{l:List Value}(h:TL t l):(λx=>evF x t)=λx=>ev x l:=by
 funext x
 cases x<;>first|rfl|exact h.2 _
def gV(b:Bool)(v:Value):Option Bool:=match v with
 | .bool c=>some (c==b)
 | .func (.method _) _ _=>none
 | .chan _=>none
 |_=>some false
def gF(g:Option (Tmp×Bool))(t:TW):Option Bool:=
 Option.rec (motive:=λ_=>Option Bool) (some true) (λp=>Prod.rec (motive:=λ_=>Option Bool) (λk b=>gV b (TW.get t k)) p) g
theorem gF_eq{t:TW}{l:List Value}(h:TL t l)(g:Option (Tmp×Bool)):gF g t=if gOk g l=false then none else some (wanted g l):=by
 cases g with
 |none=>rfl
 |some p=>
  obtain⟨k,b⟩:=p
  show gV b (TW.get t k)=_
  rw[h.2 k]
  have key:∀v,l.getD k undef=v->gV b v=if gOk (some (k,b)) l=false then none else some (wanted (some (k,b)) l):=by
   intro v hv
   unfold gOk wanted gV
   simp only[hv]
   cases v with
   |func fn _ _=>cases fn<;>rfl
   |_=>rfl
  exact key _ rfl
def pPick(r:Operand->Value)(c a b:Operand):Option Value:=match r c with
 | .bool t=>some (if t then r a else r b)
 |_=>none
def pNil(P:Program)(v:Value):Option Value:=match v with
 | .pointer (some a)=>some (.pointer (some a))
 | .func (.func f) a c=>some (.func (.func f) a c)
 | .func (.yield l) a c=>some (.func (.yield l) a c)
 | .func (.methodOf ty nm) a c=>if(methodA P ty nm).isSome then some (.func (.methodOf ty nm) a c) else none
 |_=>none
def pUn(P:Program)(op:UnOp)(v:Value):Option Value:=if plain v then runV P (Op.unary op v) else none
def pBin(P:Program)(op:BinOp)(t:TypeId)(v w:Value):Option Value:=if plain v&&plain w then runV P (binOp op t v w) else none
def pIface(P:Program)(t:TypeId)(v:Value):Option Value:=match P.underlying t with
 |some (.interface _)=>none
 |some _=>some (.iface t v)
 |none=>none
def pFunc(fn:Fn)(a b:Array Value):Option Value:=match fn with
 | .yield _=>none
 | .method nm=>methV nm a.toList b.toList
 |_=>some (.func fn a b)
def pFieldAddr(P:Program)(s:TypeId)(v:Value)(f:Nat):Option Value:=match P.underlying s,v with
 |some (.struct fs), .pointer (some ⟨b,o,none⟩)=>match fs[f]? with
  |some fl=>match szOf P fl.type with
   |some (_+1)=>some (ptr b (o+fl.offset))
   |_=>none
  |none=>none
 |_,_=>none
def pField(P:Program)(t:TypeId)(v:Value)(f:Nat):Option Value:=match P.underlying t,v with
 |some (.struct fs), .agg cs=>match fs[f]? with
  |some fl=>partA P fl.type cs fl.offset
  |none=>none
 |_,_=>none
def pIndex(P:Program)(t:TypeId)(v w:Value):Option Value:=match P.underlying t,v,w with
 |some (.array len e), .agg cs, .int _ n=>if 0<=n∧n<len then match szOf P e with
   |some s=>partA P e cs (n.toNat*s)
   |none=>none
  else none
 |some .string, .string s, .int _ n=>if 0<=n then match s[n.toNat]? with
   |some b=>some (.int .u8 b.toNat)
   |none=>none
  else none
 |_,_,_=>none
def pIndexAddr(P:Program)(t:TypeId)(v w:Value):Option Value:=match P.underlying t,v,w with
 |some (.array len e), .pointer (some ⟨b,o,none⟩), .int _ n=>if 0<=n∧n<len then match szOf P e with
   |some s=>some (ptr b (o+n.toNat*s))
   |none=>none
  else none
 |some (.slice e), .slice (some ⟨b,o,none⟩) len _, .int _ n=>if 0<=n∧n<len then match szOf P e with
   |some s=>some (ptr b (o+n.toNat*s))
   |none=>none
  else none
 |_,_,_=>none
def pSlice(P:Program)(t:TypeId)(r:Operand->Value)(x:Operand)(lo hi mx:Option Operand):Option Value:=match mx,hi with
 |some y,some z=>slice3A P t (r x) (lo.map r) (r z) (r y)
 |some _,none=>none
 |none,_=>sliceA P t (r x) (lo.map r) (hi.map r)
def pExtract(v:Value)(i:Nat):Option Value:=match v with
 | .tuple vs=>vs[i]?
 |_=>none
def pCall(P:Program)(ty:TypeId)(r:Operand->Value)(c:Call):Option Value:=match c.callee with
 | .builtin b=>if(c.args.map r).toList.all plain then match b with
   | .min=>runV P (Builtin.min_ c.argTypes ty (c.args.map r))
   | .max=>runV P (Builtin.max_ c.argTypes ty (c.args.map r))
   | .real=>runV P (Builtin.real_ c.argTypes ty (c.args.map r))
   | .imag=>runV P (Builtin.imag_ c.argTypes ty (c.args.map r))
   | .complex=>runV P (Builtin.complex_ c.argTypes ty (c.args.map r))
   |_=>none
   else none
 |_=>none
def rConv(P:Program)(s d:TypeId)(v:Value)(m:Mem):Option Value:=
 if plain v then match P.underlying d with
   |some (.slice _)=>none
   |_=>runV P (convert s d v)
  else match P.underlying s,P.underlying d,v with
   |some (.slice e),some .string, .slice (some ⟨b,o,none⟩) n _=>match P.underlying e,m.get b with
    |some (.int .u8),some (.cells cs _ _)=>match cs.sub o n with
     |some l=>(bytesOf l .empty).map .string
     |none=>none
    |_,_=>none
   |_,_,_=>none
def rCall(P:Program)(r:Operand->Value)(c:Call)(m:Mem):Option Value:=match c.callee,c.argTypes[0]?,c.args[0]? with
 | .builtin .len,some t,some x=>lenA P t (r x) m
 |_,_,_=>none
def mAlloc(P:Program)(t:TypeId):Option (AObj×(Nat->Value)):=match zeroOf P t with
 |some z=>if plain z then some (.cells (.ofList z.cells.toList) true 0,λid=>ptr id 0) else none
 |none=>none
def mBuild(P:Program)(t:TypeId)(len:Nat)(r:Operand->Value)(parts:Array (Nat×Operand)):Option (AObj×(Nat->Value)):=match P.underlying t with
 |some (.slice e)=>match szOf P e,zeroOf P e with
  |some s,some z=>if plain z&&decide (len*s<=2 ^ 24)&&z.cells.size==s&&decide (0<s) then
    (fillA (λi=>some (i*s,s)) (zeros z.cells.toList (len*s)) (partsOf r parts)).map λcs=>(.cells (.ofList cs) true s,λid=> .slice (some ⟨id,0,none⟩) len len)
   else none
  |_,_=>none
 |_=>none
def mMap(P:Program)(t:TypeId)(h:Option Operand)(r:Operand->Value):Option (AObj×(Nat->Value)):=match h with
 |none=>some (.map [] true,λid=> .map (some id))
 |some x=>match P.underlying t,r x with
  |some (.map _ _), .int _ _=>some (.map [] true,λid=> .map (some id))
  |_,_=>none
def mSlice(P:Program)(t:TypeId)(l c:Value):Option (AObj×(Nat->Value)):=match P.underlying t,l,c with
 |some (.slice e), .int .i64 n, .int .i64 k=>match P.info? e,zeroOf P e with
  |some i,some z=>if plain z&&decide (0<=n)&&decide (n<=k)&&decide (k<=2 ^ 40)&&decide (i.bytes*k<=2 ^ 48)&&z.cells.size==i.size&&decide (0<i.size) then
    some (.cells (.fill z.cells.toList (k.toNat*i.size)) true i.size,λid=> .slice (some ⟨id,0,none⟩) n.toNat k.toNat)
   else none
  |_,_=>none
 |_,_,_=>none
def mRange(P:Program)(t:TypeId)(v:Value):Option (AObj×(Nat->Value)):=match P.underlying t,v with
 |some .string, .string s=>some (.strIter s 0,λid=>ptr id 0)
 |_,_=>none
def eMap(x:Option Mem)(v:Value):Option (Req×Mem):=x.map λm'=>(.val v,m')
def eVal(x:Option (Value×Mem)):Option (Req×Mem):=x.map λq=>(.val q.1,q.2)
def eApp(P:Program)(id:Nat)(r:Operand->Value)(c:Call)(m:Mem):Option (Req×Mem):=match c.args[0]?,c.args[1]? with
 |some s,some x=>eVal (appendA P id c.argTypes (r s) (r x) m)
 |_,_=>none
def eCopy(P:Program)(r:Operand->Value)(c:Call)(m:Mem):Option (Req×Mem):=match c.args[0]?,c.args[1]? with
 |some s,some x=>eVal (copyA P c.argTypes (r s) (r x) m)
 |_,_=>none
def eClear(P:Program)(r:Operand->Value)(c:Call)(m:Mem):Option (Req×Mem):=match c.args[0]? with
 |some x=>eMap (clearA P c.argTypes (r x) m) (.tuple #[])
 |none=>none
def eDel(P:Program)(r:Operand->Value)(c:Call)(m:Mem):Option (Req×Mem):=match c.args[0]?,c.args[1]? with
 |some s,some x=>eMap (deleteA P c.argTypes (r s) (r x) m) (.tuple #[])
 |_,_=>none
def eFun(P:Program)(v:Value)(args:List Value)(m:Mem):Option (Req×Mem):=match v with
 | .func (.func g) first cap=>if callable P g then some (.call g (first.toList++args++cap.toList),m) else match externA P g (first.toList++args++cap.toList) with
   |some v=>some (.val v,m)
   |none=>none
 | .func (.yield l) first _=>some (.round l (first.toList++args),m)
 |_=>none
def eInv(P:Program)(v:Value)(name:String)(args:List Value)(m:Mem):Option (Req×Mem):=match v with
 | .iface t v=>match methodA P t name with
   |some f=>if callable P f then some (.call f (v::args),m) else none
   |none=>none
 |_=>none
def eCall(P:Program)(id:Nat)(r:Operand->Value)(c:Call)(m:Mem):Option (Req×Mem):=match c.callee with
 | .builtin .append=>eApp P id r c m
 | .builtin .copy=>eCopy P r c m
 | .builtin .clear=>eClear P r c m
 | .builtin .delete=>eDel P r c m
 | .value f=>eFun P (r f) (c.args.map r).toList m
 | .invoke x name=>eInv P (r x) name (c.args.map r).toList m
 |_=>none
inductive TaskF where
 |code (rd:Option Nat) (c:SCode) (t:TW)
 |call (f:FuncId) (args:List Value)
 |round (l:Nat) (args:List Value)
inductive OutF where
 |exit (x:Exit) (t:TW)
 |val (v:Value)
abbrev SelfF:=TaskF->Mem->Option (OutF×Mem)
def oVal(x:Option (OutF×Mem)):Option (Value×Mem):=match x with
 |some (.val v,m)=>some (v,m)
 |_=>none
def oPure(x:Option Value)(m:Mem):Option (Value×Mem):=match x with
 |some v=>some (v,m)
 |none=>none
def oMake(x:Option (AObj×(Nat->Value)))(id:Nat)(m:Mem):Option (Value×Mem):=match x with
 |some (ob,mk)=>some (mk id,m.put id ob)
 |none=>none
def oEff(self:SelfF)(x:Option (Req×Mem)):Option (Value×Mem):=match x with
 |some (.val v,m')=>some (v,m')
 |some (.call f args,m')=>oVal (self (.call f args) m')
 |some (.round l args,m')=>oVal (self (.round l args) m')
 |none=>none
def oStore(x:Option Mem):Option (Value×Mem):=match x with
 |some m=>some (undef,m)
 |none=>none
def bEq:List UInt8->List UInt8->Bool
 |[],[]=>true
 |a::l,b::k=>bif Nat.beq a.toNat b.toNat then bEq l k else false
 |_,_=>false
theorem bEq_iff:∀l k:List UInt8,bEq l k=true↔l=k
 |[],[]=>by simp[bEq]
 |[],_::_=>by simp[bEq]
 |_::_,[]=>by simp[bEq]
 |a::l,b::k=>by
  simp only[bEq]
  cases h:Nat.beq a.toNat b.toNat with
  |true=>
   have hab:a=b:=UInt8.toNat_inj.1 (Nat.eq_of_beq_eq_true h)
   simp[bEq_iff l k,hab]
  |false=>
   have hab:a≠b:=λe=>by subst e;rw[Nat.beq_refl] at h;cases h
   simp[hab]
theorem bEq_eq(a b:ByteArray):bEq a.data.toList b.data.toList=(a.toList==b.toList):=by
 rw[ByteArray.toList_eq,ByteArray.toList_eq,Bool.eq_iff_iff,bEq_iff,beq_iff_eq]
def oStr(op:BinOp)(a b:ByteArray)(m:Mem):Option (Value×Mem):=match op with
 | .eql=>some (.bool (bEq a.data.toList b.data.toList),m)
 | .neq=>some (.bool (!bEq a.data.toList b.data.toList),m)
 |_=>none
def oEq(P:Program)(op:BinOp)(t:TypeId)(xo yo:Operand)(x y:Value)(m:Mem):Option (Value×Mem):=match x,y with
 | .string a, .string b=>oStr op a b m
 |x,y=>oPure (eqA P op t xo yo x y m) m
theorem oEq_eq(P:Program){op:BinOp}(h:op= .eql∨op= .neq)(t:TypeId)(xo yo:Operand)(x y:Value)(m:Mem):oEq P op t xo yo x y m=oPure (eqA P op t xo yo x y m) m:=by
 unfold oEq
 split
 ·rename_i a b
  rcases h with rfl|rfl
  ·show some (Value.bool (bEq a.data.toList b.data.toList),m)=_
   rw[bEq_eq]
   have hp:∀c:ByteArray,plain (.string c)=true:=λ_=>rfl
   unfold eqA
   simp only[hp,Bool.and_self,if_true]
   rfl
  ·show some (Value.bool (!bEq a.data.toList b.data.toList),m)=_
   rw[bEq_eq]
   have hp:∀c:ByteArray,plain (.string c)=true:=λ_=>rfl
   unfold eqA
   simp only[hp,Bool.and_self,if_true]
   rfl
 ·rfl
def oBin(P:Program)(op:BinOp)(t:TypeId)(xo yo:Operand)(x y:Value)(m:Mem):Option (Value×Mem):=match op with
 | .eql| .neq=>oEq P op t xo yo x y m
 |_=>oPure (pBin P op t x y) m
def oCall(P:Program)(self:SelfF)(id:Nat)(ty:TypeId)(r:Operand->Value)(c:Call)(m:Mem):Option (Value×Mem):=match c.callee with
 | .builtin b=>match b with
   | .len=>oPure (rCall P r c m) m
   | .min| .max| .real| .imag| .complex=>oPure (pCall P ty r c) m
   |_=>oEff self (eCall P id r c m)
 | .value f=>oEff self (eFun P (r f) (c.args.map r).toList m)
 | .invoke x name=>oEff self (eInv P (r x) name (c.args.map r).toList m)
def opF(P:Program)(self:SelfF)(id:Nat)(op:Op)(ty:TypeId)(r:Operand->Value)(m:Mem):Option (Value×Mem):=match op with
 | .move x| .assign x=>some (r x,m)
 | .pick c a b=>oPure (pPick r c a b) m
 | .nilCheck x=>oPure (pNil P (r x)) m
 | .unOp op _ x=>oPure (pUn P op (r x)) m
 | .binOp op t x y _=>oBin P op t x y (r x) (r y) m
 | .makeInterface t x=>oPure (pIface P t (r x)) m
 | .makeFunc fn first cap=>oPure (pFunc fn (first.map r) (cap.map r)) m
 | .fieldAddr s x f=>oPure (pFieldAddr P s (r x) f) m
 | .field t x f=>oPure (pField P t (r x) f) m
 | .index t x i=>oPure (pIndex P t (r x) (r i)) m
 | .indexAddr t x i=>oPure (pIndexAddr P t (r x) (r i)) m
 | .slice t x lo hi mx=>oPure (pSlice P t r x lo hi mx) m
 | .build t parts=>oPure (buildA P t (partsOf r parts)) m
 | .extract x i=>oPure (pExtract (r x) i) m
 | .load t a=>oPure (loadA P t (r a) m) m
 | .lookup t mp k ok=>oPure (lookupA P t (r mp) (r k) ok m) m
 | .convert s d x=>oPure (rConv P s d (r x) m) m
 | .alloc t=>oMake (mAlloc P t) id m
 | .box _ x=>if isJunk (r x) then none else some (ptr id 0,m.put id (.cells (.ofList (r x).cells.toList) true 0))
 | .buildSlice t len parts=>oMake (mBuild P t len r parts) id m
 | .makeMap t h=>oMake (mMap P t h r) id m
 | .makeSlice t l c=>oMake (mSlice P t (r l) (r c)) id m
 | .range t x=>oMake (mRange P t (r x)) id m
 | .next it s=>oEff self (if s then eVal (nextA (r it) m) else none)
 | .store t a x=>oStore (storeA P t (r a) (r x) m)
 | .mapUpdate t mp k x| .insert t mp k x=>oStore (mapSetA P t (r mp) (r k) (r x) m)
 | .call c=>oCall P self id ty r c m
 |_=>none
def seqF(P:Program)(self:SelfF)(ops:List SOp):Nat->TW->Mem->Option (TW×Mem):=
 List.rec (motive:=λ_=>Nat->TW->Mem->Option (TW×Mem)) (λ_ t m=>some (t,m))
  (λo _ ih id t m=>Option.rec (motive:=λ_=>Option (TW×Mem)) none
   (λb=>Bool.rec (motive:=λ_=>Option (TW×Mem))
    (ih (Nat.succ id) (TW.put? o.dst undef t) m)
    (Option.rec (motive:=λ_=>Option (TW×Mem)) none (λq=>Prod.rec (motive:=λ_=>Option (TW×Mem)) (λv m'=>ih (Nat.succ id) (TW.put? o.dst v t) m') q) (opF P self id o.op o.type (λx=>evF x t) m))
    b) (gF o.guard t)) ops
def reF(E:Env)(o:SOp)(r:Operand->Value)(m:Mem)(hist:List (Nat×Mem))(re:List Nat):Bool:=
 re.all λe=>match lookH hist e with
  |some me=>match readE E o r m,readE E o r me with
   |some v,some u=>E.eqv v u
   |_,_=>false
  |none=>false
def drF(E:Env)(self:SelfF)(base:Nat)(ops:List SOp):List (Nat×List Nat)->List (Nat×Mem)->TW->Mem->Option (TW×Mem)
 |[],_,t,m=>some (t,m)
 |(i,re)::rest,hist,t,m=>match ops[i]? with
  |none=>none
  |some o=>match gF o.guard t with
   |some true=>bif reF E o (λx=>evF x t) m hist re then match opF E.P self (base+i) o.op o.type (λx=>evF x t) m with
     |some (v,m')=>drF E self base ops rest ((i,m)::hist) (TW.put? o.dst v t) m'
     |none=>none
    else none
   |some false=>drF E self base ops rest ((i,m)::hist) (TW.put? o.dst undef t) m
   |none=>none
def resF(P:Program)(t:TW)(m:Mem):List ResultVar->Option (List Value)
 |[]=>some []
 | .tmp k::l=>match resF P t m l with
   |some vs=>some (t.get k::vs)
   |none=>none
 | .cell k ty::l=>match loadA P ty (t.get k) m,resF P t m l with
   |some v,some vs=>some (v::vs)
   |_,_=>none
def cSeq(self:SelfF)(rd:Option Nat)(b:SCode)(x:Option (OutF×Mem)):Option (OutF×Mem):=match x with
 |some (.exit .normal t',m')=>self (.code rd b t') m'
 |r=>r
def cCond(self:SelfF)(rd:Option Nat)(v:Value)(a b:SCode)(t:TW)(m:Mem):Option (OutF×Mem):=match v with
 | .bool true=>self (.code rd a t) m
 | .bool false=>self (.code rd b t) m
 |_=>none
def cBlock(id:Nat)(x:Option (OutF×Mem)):Option (OutF×Mem):=match x with
 |some (.exit (.exit k) t',m')=>some (.exit (if k=id then .normal else .exit k) t',m')
 |r=>r
def cScope(self:SelfF)(rd:Option Nat)(b:SCode)(x:Option (OutF×Mem)):Option (OutF×Mem):=match x with
 |some (.exit (.goto l) t',m')=>match sFind b l with
  |some r=>self (.code rd (.again b r) t') m'
  |none=>some (.exit (.goto l) t',m')
 |r=>r
def cReg(x:Option (TW×Mem)):Option (OutF×Mem):=match x with
 |some (t',m')=>some (.exit .normal t',m')
 |none=>none
def cRfn1(l:Nat)(t:TW)(x:Option (OutF×Mem)):Option (OutF×Mem):=match x with
 |some (.val _,m2)=>match m2.get l with
  |some (.loop r)=>if r.state= .busy then none else
   match r.pend with
   |none=>some (.exit .normal t,m2.put l (.loop {r with state:= .exhausted}))
   |some x=>if pendX x then some (.exit x t,m2.put l (.loop {r with state:= .exhausted})) else none
  |_=>none
 |_=>none
def cRfn(P:Program)(self:SelfF)(rd:Option Nat)(v:Value)(ps:List Tmp)(asg bd:SCode)(t:TW)(m:Mem):Option (OutF×Mem):=match v with
 | .func (.func g) first cap=>
   if callable P g&&(match rd with|none=>true|some l0=>isLoop (m.get l0)) then
    cRfn1 m.next t (self (.call g (first.toList++ [.func (.yield m.next) #[] #[]]++cap.toList)) ((m.bump 1).put m.next (.loop {state:= .ready,pend:=none,tmps:=t.toList,ps:=ps,assign:=asg,body:=bd})))
   else none
 |_=>none
def stepCF(E:Env)(self:SelfF)(rd:Option Nat)(c:SCode)(t:TW)(m:Mem):Option (OutF×Mem):=match c with
 | .skip=>some (.exit .normal t,m)
 | .exit id=>some (.exit (.exit id) t,m)
 | .ret=>some (.exit .ret t,m)
 | .seq a b=>cSeq self rd b (self (.code rd a t) m)
 | .cond c a b=>cCond self rd (evF c t) a b t m
 | .block id b=>cBlock id (self (.code rd b t) m)
 | .loop b=>cSeq self rd (.loop b) (self (.code rd b t) m)
 | .label _=>some (.exit .normal t,m)
 | .goto l=>some (.exit (.goto l) t,m)
 | .scope b=>cScope self rd b (self (.code rd b t) m)
 | .again b r=>cScope self rd b (self (.code rd r t) m)
 | .reg ops=>cReg (seqF E.P self ops m.next t (m.bump ops.length))
 | .dreg ops ord=>cReg (drF E self m.next ops ord [] t (m.bump ops.length))
 | .rfn f ps asg bd=>cRfn E.P self rd (evF f t) ps asg bd t m
def fRet(P:Program)(rs:List ResultVar)(x:Option (OutF×Mem)):Option (OutF×Mem):=match x with
 |some (.exit .normal t',m')|some (.exit .ret t',m')=>match resF P t' m' rs with
  |some vs=>some (.val (oneOr vs),m')
  |none=>none
 |_=>none
def fCall(E:Env)(self:SelfF)(f:FuncId)(args:List Value)(m:Mem):Option (OutF×Mem):=match fnOf E.P f with
 |none=>none
 |some s=>fRet E.P s.results (self (.code none s.body (TW.ofArgs s.ntmps args)) m)
def fPrim(x:Option (Value×Mem)):Option (OutF×Mem):=match x with
 |some (v,m')=>some (.val v,m')
 |none=>none
def fRound3(l:Nat)(x:Option (OutF×Mem)):Option (OutF×Mem):=match x with
 |some (.exit x _,m3)=>match m3.get l with
  |some (.loop r3)=>match x with
   | .normal=>some (.val (.bool true),m3.put l (.loop {r3 with state:= .ready,pend:=none}))
   | .ret=>some (.val (.bool false),m3.put l (.loop {r3 with state:= .done,pend:=some .ret}))
   | .exit id=>some (.val (.bool false),m3.put l (.loop {r3 with state:= .done,pend:=some (.exit id)}))
   |_=>none
  |_=>none
 |_=>none
def fRound2(self:SelfF)(l:Nat)(body:SCode)(x:Option (OutF×Mem)):Option (OutF×Mem):=match x with
 |some (.exit .normal t1,m1)=>match m1.get l with
  |some (.loop r1)=>if r1.state= .ready then fRound3 l (self (.code (some l) body t1) (m1.put l (.loop {r1 with state:= .busy}))) else none
  |_=>none
 |_=>none
def fRound(self:SelfF)(l:Nat)(args:List Value)(m:Mem):Option (OutF×Mem):=match m.get l with
 |some (.loop r)=>if r.ps.length=args.length∧r.state= .ready then
   fRound2 self l r.body (self (.code (some l) r.assign (TW.ofArgs 0 (setAll r.ps args r.tmps))) m)
  else none
 |_=>none
def stepF(E:Env)(self:SelfF):TaskF->Mem->Option (OutF×Mem)
 | .code rd c t,m=>stepCF E self rd c t m
 | .call f args,m=>match E.prim f with
   |some p=>fPrim (p args m)
   |none=>fCall E self f args m
 | .round l args,m=>fRound self l args m
def runF(E:Env)(n:Nat):SelfF:=Nat.rec (motive:=λ_=>SelfF) (λ_ _=>none) (λ_ ih=>stepF E ih) n
end
end Go.Ab
namespace Go.Ab
section
theorem oStore_eq(self:SelfF)(x:Option Mem):oStore x=oEff self (x.map λm'=>(.val undef,m')):=by cases x<;>rfl
theorem opF_eq(P:Program)(self:SelfF)(id:Nat)(o:SOp)(r:Operand->Value)(m:Mem):opF P self id o.op o.type r m=(match cls o.op with
  | .pure=>oPure (pureA P o r) m
  | .read=>oPure (readA P o r m) m
  | .make=>oMake (makeA P o r) id m
  | .eff=>oEff self (effA P id o r m)):=by
 obtain⟨d,op,ty,g⟩:=o
 cases op with
 |binOp op t x y g=>
  cases op with
  |eql=>exact oEq_eq P (.inl rfl) t x y (r x) (r y) m
  |neq=>exact oEq_eq P (.inr rfl) t x y (r x) (r y) m
  |_=>rfl
 |store t a x=>exact oStore_eq self _
 |mapUpdate t mp k x=>exact oStore_eq self _
 |insert t mp k x=>exact oStore_eq self _
 |call c=>
  obtain⟨callee,args,at_⟩:=c
  cases callee with
  |builtin b=>cases b<;>rfl
  |_=>rfl
 |box e v=>
  show(if isJunk (r v) then none else some (ptr id 0,m.put id (.cells (.ofList (r v).cells.toList) true 0)))=oMake (if isJunk (r v) then none else some (.cells (.ofList (r v).cells.toList) true 0,λid=>ptr id 0)) id m
  cases isJunk (r v)<;>rfl
 |_=>rfl
structure Sim(sF:SelfF)(s:Self):Prop where
 code:∀{rd c t l m x t' m'},TL t l->sF (.code rd c t) m=some (.exit x t',m')->∃l',TL t' l'∧s (.code rd c l) m=some (.exit x l',m')
 call:∀{f args m v m'},sF (.call f args) m=some (.val v,m')->s (.call f args) m=some (.val v,m')
 round:∀{k args m v m'},sF (.round k args) m=some (.val v,m')->s (.round k args) m=some (.val v,m')
variable{E:Env}{sF:SelfF}{s:Self}
theorem oVal_some{x:Option (OutF×Mem)}{q:Value×Mem}(h:oVal x=some q):x=some (.val q.1,q.2):=by
 unfold oVal at h
 split at h
 ·cases h;rfl
 ·cases h
theorem op_sim(hs:Sim sF s){t:TW}{l:List Value}(ht:TL t l){id:Nat}{o:SOp}{m:Mem}{q:Value×Mem}(h:opF E.P sF id o.op o.type (λx=>evF x t) m=some q):opA E s id o l m=some q:=by
 rw[opF_eq,evF_eq ht] at h
 unfold opA
 cases hc:cls o.op with
 |pure=>
  rw[hc] at h
  simp only at h⊢
  cases hx:pureA E.P o (λx=>ev x l) with
  |none=>rw[hx] at h;cases h
  |some v=>rw[hx] at h;simp only[pureE,hx];exact h
 |read=>
  rw[hc] at h
  simp only at h⊢
  cases hx:readA E.P o (λx=>ev x l) m with
  |none=>rw[hx] at h;cases h
  |some v=>rw[hx] at h;simp only[readE,hx];exact h
 |make=>
  rw[hc] at h
  simp only at h⊢
  cases hx:makeA E.P o (λx=>ev x l) with
  |none=>rw[hx] at h;cases h
  |some v=>rw[hx] at h;exact h
 |eff=>
  rw[hc] at h
  simp only at h⊢
  cases hx:effA E.P id o (λx=>ev x l) m with
  |none=>rw[hx] at h;cases h
  |some v=>
   rw[hx] at h
   obtain⟨rq,m1⟩:=v
   cases rq with
   |val v=>exact h
   |call f args=>
    have h1:=hs.call (oVal_some h)
    simp only[h1]
   |round k args=>
    have h1:=hs.round (oVal_some h)
    simp only[h1]
theorem seqF_cons(P:Program)(self:SelfF)(o:SOp)(ops:List SOp)(id:Nat)(t:TW)(m:Mem):seqF P self (o::ops) id t m=(match gF o.guard t with
  |none=>none
  |some false=>seqF P self ops (id+1) (TW.put? o.dst undef t) m
  |some true=>match opF P self id o.op o.type (λx=>evF x t) m with
   |none=>none
   |some (v,m')=>seqF P self ops (id+1) (TW.put? o.dst v t) m'):=by
 show Option.rec (motive:=λ_=>Option (TW×Mem)) none _ (gF o.guard t)=_
 cases gF o.guard t with
 |none=>rfl
 |some b=>cases b with
  |false=>rfl
  |true=>
   show Option.rec (motive:=λ_=>Option (TW×Mem)) none _ (opF P self id o.op o.type (λx=>evF x t) m)=_
   cases opF P self id o.op o.type (λx=>evF x t) m with
   |none=>rfl
   |some q=>rfl
theorem step_sim(hs:Sim sF s){t:TW}{l:List Value}(ht:TL t l){id:Nat}{o:SOp}{m:Mem}:
  (∀{q:Value×Mem},gF o.guard t=some true->opF E.P sF id o.op o.type (λx=>evF x t) m=some q->stepOp E s id o l m=some (putT o.dst q.1 l,q.2))∧
  (gF o.guard t=some false->stepOp E s id o l m=some (putT o.dst undef l,m)):=by
 rw[gF_eq ht]
 unfold stepOp
 by_cases hg:gOk o.guard l=false
 ·simp[hg]
 ·simp only[hg]
  refine⟨λ{q} h1 h2=>?_,λh1=>?_⟩
  ·have hw:wanted o.guard l=true:=by simpa using h1
   simp only[hw,op_sim hs ht h2]
   rfl
  ·have hw:wanted o.guard l=false:=by simpa using h1
   simp[hw]
theorem seq_sim(hs:Sim sF s):∀{ops:List SOp} {id:Nat} {t t':TW} {l:List Value} {m m':Mem},TL t l->seqF E.P sF ops id t m=some (t',m')->∃l',TL t' l'∧seqOps E s id ops l m=some (l',m')
 |[],id,t,t',l,m,m',ht,h=>by
  have h:some (t,m)=some (t',m'):=h
  cases h
  exact⟨l,ht,rfl⟩
 |o::ops,id,t,t',l,m,m',ht,h=>by
  rw[seqF_cons] at h
  simp only[seqOps]
  cases hg:gF o.guard t with
  |none=>rw[hg] at h;cases h
  |some b=>
   rw[hg] at h
   cases b with
   |false=>
    simp only at h
    rw[(step_sim hs ht).2 hg]
    exact seq_sim hs (ht.put? o.dst undef) h
   |true=>
    simp only at h
    cases ho:opF E.P sF id o.op o.type (λx=>evF x t) m with
    |none=>rw[ho] at h;cases h
    |some q=>
     rw[ho] at h
     rw[(step_sim hs ht).1 hg ho]
     exact seq_sim hs (ht.put? o.dst q.1) h
theorem dr_sim(hs:Sim sF s){base:Nat}{ops:List SOp}:∀{ord:List (Nat×List Nat)} {hist:List (Nat×Mem)} {t t':TW} {l:List Value} {m m':Mem},TL t l->drF E sF base ops ord hist t m=some (t',m')->
  ∃l',TL t' l'∧drOps E s base ops ord hist l m=some (l',m')
 |[],hist,t,t',l,m,m',ht,h=>by
  have h:some (t,m)=some (t',m'):=h
  cases h
  exact⟨l,ht,rfl⟩
 |(i,re)::ord,hist,t,t',l,m,m',ht,h=>by
  simp only[drF] at h
  simp only[drOps]
  cases hi:ops[i]? with
  |none=>rw[hi] at h;cases h
  |some o=>
   rw[hi] at h
   simp only at h⊢
   have hgw:=gF_eq ht o.guard
   cases hg:gF o.guard t with
   |none=>rw[hg] at h;cases h
   |some b=>
    rw[hg] at h hgw
    have hwb:wanted o.guard l=b:=by
     by_cases hok:gOk o.guard l=false
     ·simp[hok] at hgw
     ·simpa [hok] using hgw.symm
    cases b with
    |false=>
     simp only at h
     rw[if_pos (.inl hwb),(step_sim hs ht).2 hg]
     exact dr_sim hs (ht.put? o.dst undef) h
    |true=>
     simp only at h
     cases hre:reF E o (λx=>evF x t) m hist re with
     |false=>rw[hre] at h;cases h
     |true=>
      rw[hre] at h
      simp only[cond_true] at h
      have hre':reOk E o l m hist re=true:=by
       rw[evF_eq ht] at hre
       exact hre
      rw[if_pos (.inr hre')]
      cases ho:opF E.P sF (base+i) o.op o.type (λx=>evF x t) m with
      |none=>rw[ho] at h;cases h
      |some q=>
       rw[ho] at h
       rw[(step_sim hs ht).1 hg ho]
       exact dr_sim hs (ht.put? o.dst q.1) h
theorem res_sim{P:Program}{t:TW}{l:List Value}(ht:TL t l){m:Mem}:∀(rs:List ResultVar),resF P t m rs=resA P l m rs
 |[]=>rfl
 | .tmp k::rs=>by simp only[resF,resA,res_sim ht rs,ht.2 k];rfl
 | .cell k ty::rs=>by simp only[resF,resA,res_sim ht rs,ht.2 k];rfl
theorem stepC_sim(hs:Sim sF s){rd:Option Nat}{c:SCode}{t t':TW}{l:List Value}{m m':Mem}{x:Exit}(ht:TL t l)(h:stepCF E sF rd c t m=some (.exit x t',m')):∃l',TL t' l'∧stepCode E s rd c l m=some (.exit x l',m'):=by
 cases c with
 |skip=>cases h;exact⟨l,ht,rfl⟩
 |exit i=>cases h;exact⟨l,ht,rfl⟩
 |ret=>cases h;exact⟨l,ht,rfl⟩
 |seq a b=>
  simp only[stepCF] at h
  simp only[stepCode]
  unfold cSeq at h
  split at h
  ·rename_i t1 m1 h1
   obtain⟨l1,g1,g2⟩:=hs.code ht h1
   obtain⟨l2,g3,g4⟩:=hs.code g1 h
   exact⟨l2,g3,by rw[g2];exact g4⟩
  ·rename_i hne
   obtain⟨l1,g1,g2⟩:=hs.code ht h
   refine⟨l1,g1,?_⟩
   rw[g2]
   cases x with
   |normal=>exact absurd h (λe=>hne _ _ e)
   |_=>rfl
 |loop b=>
  simp only[stepCF] at h
  simp only[stepCode]
  unfold cSeq at h
  split at h
  ·rename_i t1 m1 h1
   obtain⟨l1,g1,g2⟩:=hs.code ht h1
   obtain⟨l2,g3,g4⟩:=hs.code g1 h
   exact⟨l2,g3,by rw[g2];exact g4⟩
  ·rename_i hne
   obtain⟨l1,g1,g2⟩:=hs.code ht h
   refine⟨l1,g1,?_⟩
   rw[g2]
   cases x with
   |normal=>exact absurd h (λe=>hne _ _ e)
   |_=>rfl
 |cond c a b=>
  simp only[stepCF] at h
  simp only[stepCode]
  have e:evF c t=ev c l:=congrFun (evF_eq ht) c
  rw[e] at h
  unfold cCond at h
  split at h
  ·rename_i hv
   obtain⟨l1,g1,g2⟩:=hs.code ht h
   exact⟨l1,g1,by rw[hv];exact g2⟩
  ·rename_i hv
   obtain⟨l1,g1,g2⟩:=hs.code ht h
   exact⟨l1,g1,by rw[hv];exact g2⟩
  ·cases h
 |block i b=>
  simp only[stepCF] at h
  simp only[stepCode]
  unfold cBlock at h
  split at h
  ·rename_i k t1 m1 h1
   obtain⟨l1,g1,g2⟩:=hs.code ht h1
   simp only[sI,pI,OutF.exit.injEq] at h
   obtain⟨⟨rfl,rfl⟩,rfl⟩:=h
   exact⟨l1,g1,by rw[g2]⟩
  ·rename_i hne
   obtain⟨l1,g1,g2⟩:=hs.code ht h
   refine⟨l1,g1,?_⟩
   rw[g2]
   cases x with
   |exit k=>exact absurd h (λe=>hne _ _ _ e)
   |_=>rfl
 |label i=>cases h;exact⟨l,ht,rfl⟩
 |goto i=>cases h;exact⟨l,ht,rfl⟩
 |scope b=>
  simp only[stepCF] at h
  simp only[stepCode]
  unfold cScope at h
  split at h
  ·rename_i k t1 m1 h1
   obtain⟨l1,g1,g2⟩:=hs.code ht h1
   rw[g2]
   simp only
   cases hf:sFind b k with
   |none=>
    rw[hf] at h
    simp only[sI,pI,OutF.exit.injEq] at h
    obtain⟨⟨rfl,rfl⟩,rfl⟩:=h
    exact⟨l1,g1,rfl⟩
   |some r1=>
    rw[hf] at h
    exact hs.code g1 h
  ·rename_i hne
   obtain⟨l1,g1,g2⟩:=hs.code ht h
   refine⟨l1,g1,?_⟩
   rw[g2]
   cases x with
   |goto k=>exact absurd h (λe=>hne _ _ _ e)
   |_=>rfl
 |again b r=>
  simp only[stepCF] at h
  simp only[stepCode]
  unfold cScope at h
  split at h
  ·rename_i k t1 m1 h1
   obtain⟨l1,g1,g2⟩:=hs.code ht h1
   rw[g2]
   simp only
   cases hf:sFind b k with
   |none=>
    rw[hf] at h
    simp only[sI,pI,OutF.exit.injEq] at h
    obtain⟨⟨rfl,rfl⟩,rfl⟩:=h
    exact⟨l1,g1,rfl⟩
   |some r1=>
    rw[hf] at h
    exact hs.code g1 h
  ·rename_i hne
   obtain⟨l1,g1,g2⟩:=hs.code ht h
   refine⟨l1,g1,?_⟩
   rw[g2]
   cases x with
   |goto k=>exact absurd h (λe=>hne _ _ _ e)
   |_=>rfl
 |reg ops=>
  simp only[stepCF] at h
  simp only[stepCode]
  unfold cReg at h
  split at h
  ·rename_i t1 m1 h1
   cases h
   obtain⟨l1,g1,g2⟩:=seq_sim hs ht h1
   exact⟨l1,g1,by rw[g2]⟩
  ·cases h
 |dreg ops ord=>
  simp only[stepCF] at h
  simp only[stepCode]
  unfold cReg at h
  split at h
  ·rename_i t1 m1 h1
   cases h
   obtain⟨l1,g1,g2⟩:=dr_sim hs ht h1
   exact⟨l1,g1,by rw[g2]⟩
  ·cases h
 |rfn f ps asg bd=>
  simp only[stepCF] at h
  simp only[stepCode]
  have e:evF f t=ev f l:=congrFun (evF_eq ht) f
  rw[e] at h
  unfold cRfn at h
  split at h
  ·rename_i g first cap hv
   rw[hv]
   rw[ht.toList] at h
   have fin:∀b:Bool,(if b=true then cRfn1 m.next t (sF (.call g (first.toList++ [.func (.yield m.next) #[] #[]]++cap.toList)) ((m.bump 1).put m.next (.loop {state:= .ready,pend:=none,tmps:=l,ps:=ps,assign:=asg,body:=bd}))) else none)=some (.exit x t',m')->
     ∃l',TL t' l'∧(if b=true then
      match s (.call g (first.toList++ [.func (.yield m.next) #[] #[]]++cap.toList)) ((m.bump 1).put m.next (.loop {state:= .ready,pend:=none,tmps:=l,ps:=ps,assign:=asg,body:=bd})) with
      |some (.val _,m2)=>match m2.get m.next with
       |some (.loop r)=>if r.state= .busy then none else
        match r.pend with
        |none=>some (Out.exit .normal l,m2.put m.next (.loop {r with state:= .exhausted}))
        |some x=>if pendX x then some (.exit x l,m2.put m.next (.loop {r with state:= .exhausted})) else none
       |_=>none
      |_=>none
      else none)=some (.exit x l',m'):=by
    intro b h
    cases b with
    |false=>cases h
    |true=>
     simp only[if_true] at h⊢
     unfold cRfn1 at h
     split at h
     ·rename_i v m2 h1
      rw[hs.call h1]
      simp only
      split at h
      ·rename_i r hr
       try simp only[hr]
       split at h
       ·cases h
       ·rename_i hb
        rw[if_neg hb]
        split at h
        ·rename_i hp
         cases h
         exact⟨l,ht,by simp only[hp]⟩
        ·rename_i x' hp
         split at h
         ·rename_i hpx
          cases h
          exact⟨l,ht,by simp only[hp,hpx,if_true]⟩
         ·cases h
      ·cases h
     ·cases h
   exact fin _ h
  ·cases h
theorem sim_succ(hs:Sim sF s):Sim (stepF E sF) (step E s):=by
 refine⟨λ{rd c t l m x t' m'} ht h=>stepC_sim hs ht h,λ{f args m v m'} h=>?_,λ{k args m v m'} h=>?_⟩
 ·simp only[stepF] at h
  simp only[step]
  cases hp:E.prim f with
  |some p=>
   rw[hp] at h
   simp only[fPrim] at h
   cases hq:p args m with
   |none=>rw[hq] at h;cases h
   |some q=>rw[hq] at h;cases h;simp only[hq]
  |none=>
   rw[hp] at h
   simp only[fCall] at h
   cases hf:fnOf E.P f with
   |none=>rw[hf] at h;cases h
   |some fn=>
    rw[hf] at h
    simp only at h⊢
    have key:∀{x:Exit} {t':TW} {m2:Mem} {l':List Value},x= .normal∨x= .ret->TL t' l'->s (.code none fn.body (args++List.replicate (fn.ntmps-args.length) undef)) m=some (.exit x l',m2)->
      (match resF E.P t' m2 fn.results with|some vs=>some (OutF.val (oneOr vs),m2)|none=>none)=some (OutF.val v,m')->
      (match s (.code none fn.body (args++List.replicate (fn.ntmps-args.length) undef)) m with
       |some (.exit x t',m')=>if x matches .normal| .ret then
         match resA E.P t' m' fn.results with
         |some vs=>some (Out.val (oneOr vs),m')
         |none=>none
        else none
       |_=>none)=some (Out.val v,m'):=by
     intro x t2 m2 l2 hx hl hrun hr
     rw[hrun]
     rw[res_sim hl] at hr
     rcases hx with rfl|rfl
     ·simp only[if_true]
      cases hv:resA E.P l2 m2 fn.results with
      |none=>rw[hv] at hr;cases hr
      |some vs=>rw[hv] at hr;cases hr;rfl
     ·simp only[if_true]
      cases hv:resA E.P l2 m2 fn.results with
      |none=>rw[hv] at hr;cases hr
      |some vs=>rw[hv] at hr;cases hr;rfl
    unfold fRet at h
    split at h
    ·rename_i t2 m2 h1
     obtain⟨l2,g1,g2⟩:=hs.code (ofArgs_list fn.ntmps args) h1
     exact key (.inl rfl) g1 g2 h
    ·rename_i t2 m2 h1
     obtain⟨l2,g1,g2⟩:=hs.code (ofArgs_list fn.ntmps args) h1
     exact key (.inr rfl) g1 g2 h
    ·cases h
 ·simp only[stepF,fRound] at h
  simp only[step]
  split at h
  ·rename_i r hr
   try simp only[hr]
   split at h
   ·rename_i hc
    rw[if_pos hc]
    unfold fRound2 at h
    split at h
    ·rename_i t1 m1 h1
     have h0:TL (TW.ofArgs 0 (setAll r.ps args r.tmps)) (setAll r.ps args r.tmps):=by
      have:=ofArgs_list 0 (setAll r.ps args r.tmps)
      simpa using this
     obtain⟨l1,g1,g2⟩:=hs.code h0 h1
     rw[g2]
     simp only
     split at h
     ·rename_i r1 hr1
      simp only[hr1]
      split at h
      ·rename_i hc1
       rw[if_pos hc1]
       unfold fRound3 at h
       split at h
       ·rename_i x t3 m3 h3
        obtain⟨l3,g3,g4⟩:=hs.code g1 h3
        rw[g4]
        simp only
        split at h
        ·rename_i r3 hr3
         simp only[hr3]
         cases x<;>first|(cases h;rfl)|(cases h;done)
        ·cases h
       ·cases h
      ·cases h
     ·cases h
    ·cases h
   ·cases h
  ·cases h
theorem runF_sim(E:Env):∀n,Sim (runF E n) (run E n)
 |0=>{code:=λ_ h=>(by cases h),call:=λh=>(by cases h),round:=λh=>(by cases h)}
 |n+1=>sim_succ (runF_sim E n)
theorem runF_call{E:Env}{n:Nat}{f:FuncId}{args:List Value}{m m':Mem}{v:Value}(h:runF E n (.call f args) m=some (.val v,m')):run E n (.call f args) m=some (.val v,m'):=(runF_sim E n).call h
def isTrueF:Option (OutF×Mem)->Bool
 |some (.val (.bool true),_)=>true
 |_=>false
theorem isTrueF_run{E:Env}{n:Nat}{f:FuncId}{m:Mem}(h:isTrueF (runF E n (.call f []) m)=true):∃m',run E n (.call f []) m=some (.val (.bool true),m'):=by
 cases hr:runF E n (.call f []) m with
 |none=>rw[hr] at h;cases h
 |some q=>
  obtain⟨o,m'⟩:=q
  rw[hr] at h
  unfold isTrueF at h
  split at h
  ·rename_i e
   cases e
   exact⟨_,runF_call hr⟩
  ·cases h
end
end Go.Ab
