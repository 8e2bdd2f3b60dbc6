/- SignalPosts: whatever the signals and the posts, the law returns true, and the arguments read as they read before. -/
import Derived.Test.YthpncefkklojlaaSigPoB
import Derived.Test.YthpncefkklojlaaAbZ9
namespace Go.Proofs.Ythpncefkklojlaa.signalPosts
open Go.ChangeShapes Go.WideShapes Go.ChangeAt Go.RowKit Go.Ab
open Go.Proofs.Ythpncefkklojlaa.sig
set_option linter.unusedVariables false

theorem list_of {α : Type} (z : α) {p : Nat → α → Prop} : ∀ n : Nat, (∀ i, i < n → ∃ b, p i b) → ∃ xs : List α, xs.length = n ∧ ∀ i, i < n → p i (xs.getD i z)
  | 0, _ => ⟨[], rfl, fun i hi => by omega⟩
  | n + 1, h => by
    obtain ⟨xs, h1, h2⟩ := list_of z n fun i hi => h i (by omega)
    obtain ⟨b, hb⟩ := h n (by omega)
    refine ⟨xs ++ [b], by simp [h1], fun i hi => ?_⟩
    by_cases e : i < n
    · rw [List.getD_eq_getElem?_getD, List.getElem?_append_left (by omega), ← List.getD_eq_getElem?_getD]
      exact h2 i e
    · have : i = n := by omega
      subst this
      rw [List.getD_eq_getElem?_getD, List.getElem?_append_right (by omega)]
      simpa [h1] using hb

variable {H : Type} {enc : TypeId × Value → H} {w : World} {base : Nat} {spare : Nat → Bool} {held : Bool} {v : Value} {d : DataW H} {p : List MemPlace}
/-- These bytes. -/
def Bytes (w : World) (v : Value) (xs : List (BitVec 8)) : Prop := (xs = [] ∧ ∃ a C, v = .slice a 0 C) ∨ ∃ k off C cs tt fz, v = .slice (some ⟨k, off, none⟩) xs.length C ∧ w.heap[k]? = some (.cells cs tt fz) ∧ off + xs.length ≤ cs.size ∧ ∀ i, i < xs.length → cs.getD (off + i) undef = U8 (xs.getD i 0)
theorem open_bytes {r : Reach} {b0 : Nat} (hval : Value.okWide Try.prog w r b0 42 v) (h : DataW.Trod enc Try.prog w base spare held 42 v d p) : ∃ xs, Bytes w v xs := by
  have u42 : Try.prog.underlying 42 = some (.slice 5) := by kernel_rfl
  have u5 : Try.prog.underlying 5 = some (.int .u8) := by kernel_rfl
  obtain ⟨a, len, C, rfl⟩ := WideShapes.okWide_slice u42 hval
  rcases trod_cells (sz := 1) u42 (by kernel_rfl) (by decide) h with rfl | ⟨k, off, cs, tt, fz, rfl, h1, h2, h3⟩
  · exact ⟨[], .inl ⟨rfl, a, C, rfl⟩⟩
  · obtain ⟨xs, g1, g2⟩ := list_of (0 : BitVec 8) (p := fun i b => cs.getD (off + i) undef = U8 b) len fun i hi => by
      obtain ⟨n, y, h4⟩ := h3 i hi
      obtain ⟨m, e1, e2, hw⟩ := DataW.trod_int u5 h4
      obtain ⟨b, rfl⟩ := of_wf8 hw
      refine ⟨b, ?_⟩
      have : [cs.getD (off + (i * 1 + 0)) undef] = [Value.int .u8 b.toNat] := e1
      simpa using this
    subst g1
    exact ⟨xs, .inr ⟨k, off, C, cs, tt, fz, rfl, h1, by omega, g2⟩⟩
theorem stays_p {t : TypeId} (hr : Try.prog.readableRec t = true) (ht : t < Try.prog.types.size) {W W' : World} (h : DataW.Trod enc Try.prog W 0 (fun _ => true) true t v d p) (hb : Below W.heap.size W W') :
    DataW.Trod enc Try.prog W' 0 (fun b => decide (b < W.heap.size)) true t v d p :=
  Below.trod (by kernel_rfl) hr ht h hb (fun x hx => by obtain ⟨n, h⟩ := h; exact DataW.trod_lt n _ _ _ h x hx)

theorem calls (s : S) {xs : List (BitVec 8)} {W : World} {v : Value} (h : Bytes W v xs) : Calls Try.prog 7 #[V s, v] W fun e w' => e = .returned (.bool true) ∧ Below W.heap.size W w' := by
  obtain ⟨ds', ts', m', hv, hc⟩ := call_ok s xs
  have hd : ∀ d ∈ dsP0 s, dataB d = true := fun d h => List.all_eq_true.1 (show (dsP0 s : List Value).all dataB = true from rfl) d h
  have hs : ∀ {ts : List Tie} {ρ : Rho}, VRel (sigOf (dsP0 s) ts) ρ (.agg #[(leaf 0), (leaf 1), (leaf 2), (leaf 3), (leaf 4), (leaf 5), (leaf 6), (leaf 7), (leaf 8), (leaf 9), (leaf 10), (leaf 11), (leaf 12), (leaf 13), (leaf 14), (leaf 15), (leaf 16), (leaf 17), (leaf 18)]) (V s) := fun {ts} {ρ} => rel_er hd 6 (.agg #[(leaf 0), (leaf 1), (leaf 2), (leaf 3), (leaf 4), (leaf 5), (leaf 6), (leaf 7), (leaf 8), (leaf 9), (leaf 10), (leaf 11), (leaf 12), (leaf 13), (leaf 14), (leaf 15), (leaf 16), (leaf 17), (leaf 18)]) rfl
  rcases h with ⟨rfl, a, C, rfl⟩ | ⟨k, off, C, cs, tt, fz, rfl, h1, h2, h3⟩
  · exact callsIn_wide.1 (TCall.callsN hc hv (LRel.cons hs (LRel.cons (m1_nil rfl) (LRel.nil _))))
  · refine callsIn_wide.1 (TCall.calls (k := k) (off := off) hc hv h1 (by simpa [tieB] using h2) (fun i hi => ?_) (LRel.cons hs (LRel.cons (m1_tie rfl rfl) (LRel.nil _))))
    have hi : i < xs.length := by simpa [tieB] using hi
    rw [h3 i hi]
    simp [tieB, hi]

set_option maxRecDepth 100000 in
theorem lifted (os : Os) (started : os.Started) (H : Type) (enc : TypeId × Value → H) :
    ReturnsInHanded {} Try.checked os 7 .any (Rows.signalPostsSpec.pre6 enc Try.prog Try.f7 Rows.signalPostsRow.domain false) (Rows.signalPostsSpec.post enc Try.prog Try.f7 false true false false) := by
  refine returnsInHanded_of_change (C := Try.checked) own started (by kernel_rfl) Try.func7
    (ChangeSpec.witness6 (enc := enc) (C := Try.checked) false ⟨#[], #[V ⟨0, 0, 0, 0, 0, 0, 0, 0, 0, 0, 0, 0, 0, 0, 0, 0, 0, 0, false⟩, .slice none 0 0], []⟩ 8 (by kernel_rfl) (by kernel_rfl) (by kernel_rfl) (by kernel_rfl)) ?_
  intro W base args ds gs before hval0 hW hcnd _
  have hW' := hW
  obtain ⟨p, q, hA0, hV, rfl, hfz, hnd⟩ := hW
  have hA : DataW.TrodAll enc Try.prog W 0 (fun _ => true) true Try.f7.params.toList args.toList ds p := hA0
  have hval := hval0
  rw [Try.params7] at hA hval
  obtain ⟨v0, v1, d0, d1, p0, p1, rfl, rfl, rfl, h0, h1⟩ := trodAll_two hA
  obtain ⟨s, rfl, rfl⟩ := sig.open_S h0
  obtain ⟨xs, hb⟩ := open_bytes (hval 1 _ _ rfl rfl) h1
  obtain ⟨rfl, rfl⟩ := trodVars_none hV
  refine (calls s hb).mono fun e W' ⟨he, bel⟩ => ?_
  subst he
  exact ⟨_, rfl, _, _, _, [], _, [], hW', trodAll_mk1 (shut_bool Try.underlying4 _), by rw [Try.params7]; exact trodAll_mk2 (stays (by kernel_rfl) (of_decide_eq_true (by kernel_rfl)) h0 bel) (stays_p (by kernel_rfl) (of_decide_eq_true (by kernel_rfl)) h1 bel), rfl, bel.frame _, fun h => by cases h⟩

theorem over : Rows.signalPostsRow.holds Try.pinned (OpenSpec.ofChange Rows.signalPostsSpec) :=
  OpenClaim.holds_of_wide 7 Try.f7 rfl rfl rfl rfl rfl rfl rfl ⟨rfl, rfl, rfl, rfl, rfl⟩ rfl rfl rfl rfl rfl (by kernel_rfl) Try.func7 (by kernel_rfl)
    (of_decide_eq_true (by kernel_rfl)) (by unfold Func.isWrapper; first | (rw [if_pos (by decide +kernel)]; kernel_rfl) | (rw [if_neg (by decide +kernel)]; exact ⟨rfl, rfl⟩))
    (fun os started H enc _ => lifted os started H enc)

theorem proved : Rows.SignalPostsSaid := over
#print axioms proved
end Go.Proofs.Ythpncefkklojlaa.signalPosts
