/- An interpreter of our own: calls of a great run, shown apart from it, in a memory that holds but what they need. -/
import Derived.Test.YtijnhaadhgoloaaGreatDoorAbW
namespace Go.Ab
variable {σ : Sig} {P : Program}

/-- What stands for the one stands for the other. -/
def OSim (a b : AObj) : Prop := (∀ (σ : Sig) (ρ : Rho) (w : World) (x : Nat × Nat × Nat), ORel σ ρ w x a → ORel σ ρ w x b) ∧ wr a = wr b
theorem OSim.rfl {a : AObj} : OSim a a := ⟨fun _ _ _ _ h => h, _root_.rfl⟩

/-- A part of a memory. -/
structure Sub (m0 m : Mem) : Prop where
  next : m0.next = m.next
  obj : ∀ b o, m0.get b = some o → ∃ o', m.get b = some o' ∧ OSim o' o
/-- The memory behind, put together. -/
structure Pat (m0 m0' m m' : Mem) : Prop where
  next : m'.next = m0'.next
  obj : ∀ b o, m'.get b = some o → (∃ o', m0'.get b = some o' ∧ OSim o' o) ∨ (m.get b = some o ∧ m0.get b = none)

theorem Rel.part {ρ : Rho} {m0 m : Mem} {w : World} (hR : Rel σ ρ m w) (hs : Sub m0 m) : Rel σ ρ m0 w := by
  refine ⟨fun b hb => hR.dom b (hs.next ▸ hb), hR.glob, fun b o x hb hx => ?_, fun b1 b2 o1 o2 x1 x2 hne h1 h2 hx1 hx2 hw => ?_, fun b hb => ?_⟩
  · obtain ⟨o', h1, h2⟩ := hs.obj b o hb
    exact h2.1 σ ρ w x (hR.obj b o' x h1 hx)
  · obtain ⟨o1', g1, g2⟩ := hs.obj b1 o1 h1
    obtain ⟨o2', k1, _⟩ := hs.obj b2 o2 h2
    exact hR.inj b1 b2 o1' o2' x1 x2 hne g1 k1 hx1 hx2 (g2.2.trans hw)
  · cases h : m0.get b with
    | none => rfl
    | some o =>
      obtain ⟨o', h1, _⟩ := hs.obj b o h
      rw [hR.fresh b (hs.next ▸ hb)] at h1
      cases h1

theorem CallOk.lift {f : FuncId} {args : List Value} {m0 m0' m m' : Mem} {v : Value} (h : CallOk σ P f args m0 v m0') (hs : Sub m0 m) (hp : Pat m0 m0' m m') : CallOk σ P f args m v m' := by
  intro ρ w args' hR ha
  refine (h ρ w args' (hR.part hs) ha).mono ?_
  rintro e w' ⟨v', ρ', rfl, hv, hP, hO⟩
  have hO' : Old m.next ρ ρ' := fun b hb => hO b (hs.next ▸ hb)
  have low : ∀ b x, b < m.next → ρ' b = some x → ρ b = some x := fun b x hb hx => by
    cases h1 : ρ b with
    | none => rw [hO' b hb h1] at hx; cases hx
    | some y => rw [← hx]; exact (hP.ext b y h1).symm
  have ltn : ∀ {b o}, m.get b = some o → b < m.next := fun {b o} hb => Nat.lt_of_not_le fun hn => by rw [hR.fresh b hn] at hb; cases hb
  -- a block that lay beside: it is as it was
  have still : ∀ b o x, m.get b = some o → m0.get b = none → ρ b = some x → w'.heap[x.1]? = w.heap[x.1]? := fun b o x hb hn hx => by
    refine hP.frame x.1 (hR.obj b o x hb hx).lt fun b0 o0 x0 h0 hw0 hx0 => ?_
    obtain ⟨o0', g1, g2⟩ := hs.obj b0 o0 h0
    exact hR.inj b0 b o0' o x0 x (fun e => by rw [e, hn] at h0; cases h0) g1 hb hx0 hx (g2.2.trans hw0)
  refine ⟨v', ρ', rfl, hv, ⟨⟨fun b hb => hP.rel.dom b (hp.next ▸ hb), hP.rel.glob, fun b o x hb hx => ?_, fun b1 b2 o1 o2 x1 x2 hne h1 h2 hx1 hx2 hw => ?_, fun b hb => ?_⟩, hP.ext, ?_, hP.size, hP.os, hP.tape, hP.output, fun k hk hno => ?_, fun b o x hb hx hlt => ?_⟩, hO'⟩
  · rcases hp.obj b o hb with ⟨o', h1, h2⟩ | ⟨h1, h2⟩
    · exact h2.1 σ ρ' w' x (hP.rel.obj b o' x h1 hx)
    · have hx' := low b x (ltn h1) hx
      exact (hR.obj b o x h1 hx').keep hP.ext (still b o x h1 h2 hx')
  · -- what one of the call's blocks was ahead of it
    have old : ∀ {b o x}, m0'.get b = some o → ρ' b = some x → x.1 < w.heap.size → ∃ b0 o0 x0, m.get b0 = some o0 ∧ m0.get b0 ≠ none ∧ ρ b0 = some x0 ∧ x0.1 = x.1 ∧ (wr o = true → wr o0 = true) := fun {b o x} hb hx hlt => by
      obtain ⟨b0, o0, x0, i1, i2, i3, i4⟩ := hP.img b o x hb hx hlt
      obtain ⟨o0', j1, j2⟩ := hs.obj b0 o0 i1
      exact ⟨b0, o0', x0, j1, by rw [i1]; simp, i2, i3, fun hw => j2.2.trans (i4 hw)⟩
    rcases hp.obj b1 o1 h1 with ⟨p1, g1, g2⟩ | ⟨g1, g2⟩
    · rcases hp.obj b2 o2 h2 with ⟨p2, k1, k2⟩ | ⟨k1, k2⟩
      · exact hP.rel.inj b1 b2 p1 p2 x1 x2 hne g1 k1 hx1 hx2 (g2.2.trans hw)
      · have hx2' := low b2 x2 (ltn k1) hx2
        have hl2 := (hR.obj b2 o2 x2 k1 hx2').lt
        rcases Nat.lt_or_ge x1.1 w.heap.size with hl | hl
        · obtain ⟨b0, o0, x0, i1, i0, i2, i3, i4⟩ := old g1 hx1 hl
          rw [← i3]
          exact hR.inj b0 b2 o0 o2 x0 x2 (fun e => i0 (e ▸ k2)) i1 k1 i2 hx2' (i4 (g2.2.trans hw))
        · omega
    · have hx1' := low b1 x1 (ltn g1) hx1
      have hl1 := (hR.obj b1 o1 x1 g1 hx1').lt
      rcases hp.obj b2 o2 h2 with ⟨p2, k1, k2⟩ | ⟨k1, k2⟩
      · rcases Nat.lt_or_ge x2.1 w.heap.size with hl | hl
        · obtain ⟨b0, o0, x0, i1, i0, i2, i3, _⟩ := old k1 hx2 hl
          rw [← i3]
          exact hR.inj b1 b0 o1 o0 x1 x0 (fun e => i0 (e ▸ g2)) g1 i1 hx1' i2 hw
        · omega
      · exact hR.inj b1 b2 o1 o2 x1 x2 hne g1 k1 hx1' (low b2 x2 (ltn k1) hx2) hw
  · cases h1 : m'.get b with
    | none => rfl
    | some o =>
      have hb' : m0'.next ≤ b := hp.next ▸ hb
      rcases hp.obj b o h1 with ⟨o', g1, _⟩ | ⟨g1, _⟩
      · rw [hP.rel.fresh b hb'] at g1; cases g1
      · have := ltn g1
        have h2 := hP.next
        rw [hs.next] at h2
        omega
  · rw [hp.next, ← hs.next]; exact hP.next
  · refine hP.frame k hk fun b o x hb hw hx => ?_
    obtain ⟨o', g1, g2⟩ := hs.obj b o hb
    exact hno b o' x g1 (g2.2.trans hw) hx
  · rcases hp.obj b o hb with ⟨o', g1, g2⟩ | ⟨g1, g2⟩
    · obtain ⟨b0, o0, x0, i1, i2, i3, i4⟩ := hP.img b o' x g1 hx hlt
      obtain ⟨o0', j1, j2⟩ := hs.obj b0 o0 i1
      exact ⟨b0, o0', x0, j1, i2, i3, fun hw => j2.2.trans (i4 (g2.2.trans hw))⟩
    · exact ⟨b, o, x, g1, low b x (ltn g1) hx, rfl, id⟩
end Go.Ab
