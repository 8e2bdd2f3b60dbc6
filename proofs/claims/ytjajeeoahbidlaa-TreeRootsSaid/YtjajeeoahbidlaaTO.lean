/- Runs on open terms: rounds of a loop over a function, by what they come to; maps from numbers. -/
import Derived.Test.YtjajeeoahbidlaaTN
namespace Go.Ab
noncomputable section
variable {P : Program} {E : Env}

/-- A round answers v and leaves m'. -/
def RCon (P : Program) (l : Nat) (args : List Value) (m : Mem) (v : Value) (m' : Mem) : Prop := RoundOk Sig.none P l args m v m' ∧ Grow m m'
theorem CallI.rcon {L : List Inst} {l : Nat} {args : List Value} {m : Mem} {R : Value → Mem → Prop} {K : List Inst → Value → Mem → Prop} (h : ∃ v m', RCon E.P l args m v m' ∧ R v m') (hL : ∀ c ∈ L, c.tk ≠ .round l args) (hK : ∀ v m', R v m' → K (⟨.round l args, m, v, m'⟩ :: L) v m') : CallI E L (.round l args) m (K := ⟨K⟩) := by
  obtain ⟨v, m', ⟨h1, h2⟩, hR⟩ := h
  exact ⟨v, m', ⟨h2, h1⟩, fun c hc e => absurd e (hL c hc), hK v m' hR⟩
theorem RCon.of (hE : EnvOk E) {l : Nat} {r : ALoop} {args : List Value} {m : Mem} {R : Value → Mem → Prop} (hl : m.get l = some (.loop r)) (hps : r.ps.length = args.length) (hst : r.state = .ready)
    (h : WXi E m.next (some l) r.assign (setAll r.ps args r.tmps) m (Q := ⟨roundQ1 E l m.next r.body fun v m' => Grow m m' ∧ R v m'⟩)) : ∃ v m', RCon E.P l args m v m' ∧ R v m' := by
  obtain ⟨v, m', h1, h2, h3⟩ := RoundOk.of_wx hE hl hps hst h
  exact ⟨v, m', ⟨h1, h2⟩, h3⟩

/-! ### maps -/
section
variable {α : Type}
def ml (f : α → Value) (L : List (Int × α)) : List (Value × Value) := L.map fun p => (.int .i64 p.1, f p.2)
def mget : List (Int × α) → Int → Option α
  | [], _ => none
  | (q, v) :: L, p => if p = q then some v else mget L p
def mset : List (Int × α) → Int → α → List (Int × α)
  | [], p, v => [(p, v)]
  | (q, u) :: L, p, v => if p = q then (p, v) :: L else (q, u) :: mset L p v
def mdel : List (Int × α) → Int → List (Int × α)
  | [], _ => []
  | (q, u) :: L, p => if p = q then L else (q, u) :: mdel L p
abbrev mkeys (L : List (Int × α)) : List Int := L.map (·.1)
variable {f : α → Value} {q : IntKind} {p : Int} {v : α}
theorem same_int {a b : Int} : Instr.sameNow (.int q) (.int .i64 a) (.int .i64 b) = some (a == b) := rfl
theorem find_ml : ∀ {L : List (Int × α)}, findA (.int q) (.int .i64 p) (ml f L) = some ((mget L p).map f)
  | [] => rfl
  | (x, u) :: L => by
    have ih := find_ml (L := L)
    unfold mget
    show (match Instr.sameNow (.int q) (.int .i64 p) (.int .i64 x) with | some true => some (some (f u)) | some false => findA (.int q) (.int .i64 p) (ml f L) | none => none) = _
    rw [same_int]
    by_cases e : p = x
    · rw [if_pos e, show (p == x) = true by simpa using e]; rfl
    · rw [if_neg e, show (p == x) = false by simpa using e]; exact ih
theorem set_ml : ∀ {L : List (Int × α)}, setMapA (.int q) (.int .i64 p) (f v) (ml f L) = some (ml f (mset L p v))
  | [] => rfl
  | (x, u) :: L => by
    have ih := set_ml (L := L)
    unfold mset
    show (match Instr.sameNow (.int q) (.int .i64 p) (.int .i64 x) with | some true => some ((Value.int .i64 p, f v) :: ml f L) | some false => (setMapA (.int q) (.int .i64 p) (f v) (ml f L)).map ((Value.int .i64 x, f u) :: ·) | none => none) = _
    rw [same_int]
    by_cases e : p = x
    · rw [if_pos e, show (p == x) = true by simpa using e]; rfl
    · rw [if_neg e, show (p == x) = false by simpa using e, ih]; rfl
theorem del_ml : ∀ {L : List (Int × α)}, delMapA (.int q) (.int .i64 p) (ml f L) = some (ml f (mdel L p))
  | [] => rfl
  | (x, u) :: L => by
    have ih := del_ml (L := L)
    unfold mdel
    show (match Instr.sameNow (.int q) (.int .i64 p) (.int .i64 x) with | some true => some (ml f L) | some false => (delMapA (.int q) (.int .i64 p) (ml f L)).map ((Value.int .i64 x, f u) :: ·) | none => none) = _
    rw [same_int]
    by_cases e : p = x
    · rw [if_pos e, show (p == x) = true by simpa using e]
    · rw [if_neg e, show (p == x) = false by simpa using e, ih]; rfl
end
section
variable {t kt et : TypeId} {q : IntKind} {n : Int} {z : Value} {b : Nat} {m : Mem} {ok : Bool} {v : Value}
def lupC (kd : TypeDesc) (z k : Value) (ok : Bool) (o : Option AObj) : Option Value := match o with
  | some (.map es _) => (findA kd k es).map fun f => if ok then .tuple #[f.getD z, .bool f.isSome] else f.getD z
  | _ => none
theorem lookup_at (hu : P.underlying t = some (.map kt et)) (hk : P.underlying kt = some (.int q)) (hz : zeroOf P et = some z) (hp : plain z = true) : lookupA P t (.map (some b)) (.int .i64 n) ok m = lupC (.int q) z (.int .i64 n) ok (m.get b) := by
  unfold lookupA lupC
  have e : keyKind P kt (.int .i64 n) = some (.int q) := by unfold keyKind; rw [hk]
  simp only [hu, e, hz, hp, if_true]
  cases m.get b with
  | none => rfl
  | some o =>
    cases o with
    | map es w => simp only; cases findA (.int q) (.int .i64 n) es <;> rfl
    | _ => rfl
theorem lookup_nil (hu : P.underlying t = some (.map kt et)) (hk : P.underlying kt = some (.int q)) (hz : zeroOf P et = some z) (hp : plain z = true) : lookupA P t (.map none) (.int .i64 n) ok m = some (if ok then .tuple #[z, .bool false] else z) := by
  unfold lookupA
  have e : keyKind P kt (.int .i64 n) = some (.int q) := by unfold keyKind; rw [hk]
  simp only [hu, e, hz, hp, if_true]
  rfl
theorem lupC_t {α : Type} {f : α → Value} {L : List (Int × α)} {w : Bool} : lupC (.int q) z (.int .i64 n) true (some (.map (ml f L) w)) = some (.tuple #[((mget L n).map f).getD z, .bool (mget L n).isSome]) := by
  unfold lupC
  simp only [find_ml, Option.map_some, if_true, Option.isSome_map]
theorem lupC_f {α : Type} {f : α → Value} {L : List (Int × α)} {w : Bool} : lupC (.int q) z (.int .i64 n) false (some (.map (ml f L) w)) = some (((mget L n).map f).getD z) := by
  unfold lupC
  simp only [find_ml, Option.map_some, Bool.false_eq_true, if_false]
def msC (kd : TypeDesc) (k v : Value) (b : Nat) (m : Mem) (o : Option AObj) : Option Mem := match o with
  | some (.map es true) => (setMapA kd k v es).map fun es' => m.put b (.map es' true)
  | _ => none
theorem mapSet_at (hu : P.underlying t = some (.map kt et)) (hk : P.underlying kt = some (.int q)) : mapSetA P t (.map (some b)) (.int .i64 n) v m = msC (.int q) (.int .i64 n) v b m (m.get b) := by
  unfold mapSetA msC
  have e : keyKind P kt (.int .i64 n) = some (.int q) := by unfold keyKind; rw [hk]
  simp only [hu, e]
  cases m.get b with
  | none => rfl
  | some o =>
    cases o with
    | map es w => cases w <;> rfl
    | _ => rfl
theorem msC_ml {α : Type} {f : α → Value} {L : List (Int × α)} {x : α} : msC (.int q) (.int .i64 n) (f x) b m (some (.map (ml f L) true)) = some (m.put b (.map (ml f (mset L n x)) true)) := by
  unfold msC
  simp only [set_ml, Option.map_some]
def mdC (kd : TypeDesc) (k : Value) (b : Nat) (m : Mem) (o : Option AObj) : Option Mem := match o with
  | some (.map es true) => (delMapA kd k es).map fun es' => m.put b (.map es' true)
  | _ => none
theorem delete_at {ts : Array TypeId} (ht : ts[0]? = some t) (hu : P.underlying t = some (.map kt et)) (hk : P.underlying kt = some (.int q)) : deleteA P ts (.map (some b)) (.int .i64 n) m = mdC (.int q) (.int .i64 n) b m (m.get b) := by
  unfold deleteA mdC
  have e : keyKind P kt (.int .i64 n) = some (.int q) := by unfold keyKind; rw [hk]
  simp only [ht, hu, e]
  cases m.get b with
  | none => rfl
  | some o =>
    cases o with
    | map es w => cases w <;> rfl
    | _ => rfl
theorem mdC_ml {α : Type} {f : α → Value} {L : List (Int × α)} : mdC (.int q) (.int .i64 n) b m (some (.map (ml f L) true)) = some (m.put b (.map (ml f (mdel L n)) true)) := by
  unfold mdC
  simp only [del_ml, Option.map_some]
end
end
end Go.Ab
