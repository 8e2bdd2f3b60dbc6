/- An interpreter of our own: the order of a region that draws: what its check says. -/
import Derived.Test.YtijnhaadhgoloaaGreatDoorAbM
import Derived.Test.YtijnhaadhgoloaaGreatDoorAbL
namespace Go.Ab
variable {σ : Sig}

theorem linB_spec {pr : List (List Nat)} : ∀ {l seen : List Nat}, linB pr seen l = true → ∀ (k i : Nat), l[k]? = some i → ∀ p ∈ pr.getD i [], p ∈ seen ∨ ∃ k' : Nat, k' < k ∧ l[k']? = some p
  | [], _, _, k, i, hk, _, _ => by simp at hk
  | x :: l, seen, h, k, i, hk, p, hp => by
    simp only [linB, Bool.and_eq_true, List.all_eq_true] at h
    cases k with
    | zero =>
      simp only [List.getElem?_cons_zero, Option.some.injEq] at hk
      subst hk
      exact .inl (by simpa using h.1 p hp)
    | succ k =>
      rcases linB_spec h.2 k i (by simpa using hk) p hp with h1 | ⟨k', h1, h2⟩
      · rcases List.mem_cons.1 h1 with rfl | h1
        · exact .inr ⟨0, by omega, rfl⟩
        · exact .inl h1
      · exact .inr ⟨k' + 1, by omega, by simpa using h2⟩

theorem effB_spec {an : List Nat} {ops : List SOp} : ∀ {l seen : List Nat}, effB an ops seen l = true → ∀ (k i : Nat), l[k]? = some i → isEff ops i = true →
    (∀ c ∈ seen, (an.getD i 0).testBit c = true) ∧ ∀ (k' c : Nat), k' < k → l[k']? = some c → (an.getD i 0).testBit c = true
  | [], _, _, k, i, hk, _ => by simp at hk
  | x :: l, seen, h, k, i, hk, he => by
    simp only [effB, Bool.and_eq_true] at h
    cases k with
    | zero =>
      simp only [List.getElem?_cons_zero, Option.some.injEq] at hk
      subst hk
      have h1 := h.1
      rw [he] at h1
      simp only [Bool.not_true, Bool.false_or, List.all_eq_true] at h1
      exact ⟨h1, fun k' c hk' => by omega⟩
    | succ k =>
      obtain ⟨h1, h2⟩ := effB_spec h.2 k i (by simpa using hk) he
      refine ⟨fun c hc => h1 c (by simp [hc]), fun k' c hk' hc => ?_⟩
      cases k' with
      | zero =>
        simp only [List.getElem?_cons_zero, Option.some.injEq] at hc
        subst hc
        exact h1 _ (by simp)
      | succ k' => exact h2 k' c (by omega) (by simpa using hc)

theorem readB_spec {an : List Nat} {ops : List SOp} : ∀ {l : List (Nat × List Nat)} {seen : List Nat}, readB an ops seen l = true → ∀ (k i : Nat) (re : List Nat), l[k]? = some (i, re) → clsAt ops i = .read →
    (∀ e ∈ seen, isEff ops e = true → (an.getD i 0).testBit e = true ∨ e ∈ re) ∧ ∀ (k' e : Nat) (re' : List Nat), k' < k → l[k']? = some (e, re') → isEff ops e = true → (an.getD i 0).testBit e = true ∨ e ∈ re
  | [], _, _, k, i, re, hk, _ => by simp at hk
  | (x, rx) :: l, seen, h, k, i, re, hk, he => by
    simp only [readB, Bool.and_eq_true] at h
    cases k with
    | zero =>
      simp only [List.getElem?_cons_zero, Option.some.injEq, Prod.mk.injEq] at hk
      obtain ⟨rfl, rfl⟩ := hk
      have h1 := h.1
      rw [he] at h1
      simp only [bne_self_eq_false, Bool.false_or, List.all_eq_true, Bool.or_eq_true, Bool.not_eq_true'] at h1
      refine ⟨fun e hs hE => ?_, fun k' c _ hk' => by omega⟩
      rcases h1 e hs with (h2 | h2) | h2
      · rw [hE] at h2; cases h2
      · exact .inl h2
      · exact .inr (by simpa using h2)
    | succ k =>
      obtain ⟨h1, h2⟩ := readB_spec h.2 k i re (by simpa using hk) he
      refine ⟨fun c hc => h1 c (by simp [hc]), fun k' c rc hk' hc => ?_⟩
      cases k' with
      | zero =>
        simp only [List.getElem?_cons_zero, Option.some.injEq, Prod.mk.injEq] at hc
        obtain ⟨rfl, _⟩ := hc
        exact h1 _ (by simp)
      | succ k' => exact h2 k' c rc (by omega) (by simpa using hc)

theorem nodupB_spec : ∀ {l : List Nat}, nodupB l = true → ∀ (k k' i : Nat), l[k]? = some i → l[k']? = some i → k = k'
  | [], _, k, k', i, hk, _ => by simp at hk
  | x :: l, h, k, k', i, hk, hk' => by
    simp only [nodupB, Bool.and_eq_true, Bool.not_eq_true'] at h
    have hx : ∀ j : Nat, l[j]? = some x → False := fun j hj => by
      have : l.contains x = true := by simpa using List.mem_of_getElem? hj
      rw [this] at h
      exact absurd h.1 (by simp)
    cases k with
    | zero => cases k' with
      | zero => rfl
      | succ k' =>
        simp only [List.getElem?_cons_zero, Option.some.injEq] at hk
        subst hk
        exact (hx k' (by simpa using hk')).elim
    | succ k => cases k' with
      | zero =>
        simp only [List.getElem?_cons_zero, Option.some.injEq] at hk'
        subst hk'
        exact (hx k (by simpa using hk)).elim
      | succ k' => rw [nodupB_spec h.2 k k' i (by simpa using hk) (by simpa using hk')]

theorem ssaB_spec {ops0 : List SOp} : ∀ {l : List SOp}, ssaB ops0 l = true → ∀ (j j' : Nat) (o o' : SOp) (d : Tmp), j < j' → l[j]? = some o → l[j']? = some o' → o.dst = some d → o'.dst = some d → False
  | [], _, j, _, _, _, _, _, hj, _, _, _ => by simp at hj
  | x :: l, h, j, j', o, o', d, hlt, hj, hj', ho, ho' => by
    simp only [ssaB, Bool.and_eq_true] at h
    cases j' with
    | zero => omega
    | succ j' =>
      have hj2 : l[j']? = some o' := by simpa using hj'
      cases j with
      | zero =>
        simp only [List.getElem?_cons_zero, Option.some.injEq] at hj
        subst hj
        have h1 := h.1
        rw [ho] at h1
        simp only [Bool.not_eq_true', List.any_eq_false] at h1
        exact h1 o' (List.mem_of_getElem? hj2) (by simp [ho'])
      | succ j => exact ssaB_spec h.2 j j' o o' d (by omega) (by simpa using hj) hj2 ho ho'

/-! ### what is always ahead -/
theorem ancOf_bit {acc : List Nat} : ∀ {ps : List Nat} {j : Nat}, (ancOf acc ps).testBit j = true → ∃ p ∈ ps, j = p ∨ (acc.getD p 0).testBit j = true
  | [], j, h => by simp [ancOf] at h
  | p :: ps, j, h => by
    simp only [ancOf, Nat.testBit_or, Bool.or_eq_true, Nat.testBit_two_pow, decide_eq_true_eq] at h
    rcases h with (h | h) | h
    · exact ⟨p, by simp, .inl h.symm⟩
    · exact ⟨p, by simp, .inr h⟩
    · obtain ⟨q, h1, h2⟩ := ancOf_bit h
      exact ⟨q, by simp [h1], h2⟩

theorem ancs_spec : ∀ (l : List Oper) (acc : List Nat), (∀ i : Nat, i < acc.length → (ancs acc l)[i]? = acc[i]?) ∧
    ∀ (i : Nat) (o : Oper), l[i]? = some o → (ancs acc l)[acc.length + i]? = some (ancOf ((ancs acc l).take (acc.length + i)) (preds o))
  | [], acc => ⟨fun _ _ => rfl, fun i o h => by simp at h⟩
  | x :: l, acc => by
    obtain ⟨h1, h2⟩ := ancs_spec l (acc ++ [ancOf acc (preds x)])
    simp only [ancs]
    refine ⟨fun i hi => ?_, fun i o hi => ?_⟩
    · rw [h1 i (by simp; omega), List.getElem?_append_left hi]
    · cases i with
      | zero =>
        simp only [List.getElem?_cons_zero, Option.some.injEq] at hi
        subst hi
        rw [Nat.add_zero, h1 _ (by simp)]
        have : (ancs (acc ++ [ancOf acc (preds x)]) l).take acc.length = acc := by
          apply List.ext_getElem?
          intro j
          rw [List.getElem?_take]
          split
          · rename_i hj
            rw [h1 j (by simp; omega), List.getElem?_append_left hj]
          · rename_i hj
            rw [List.getElem?_eq_none (by omega)]
        rw [this]
        simp
      | succ i =>
        have := h2 i o (by simpa using hi)
        simp only [List.length_append, List.length_singleton] at this
        rw [show acc.length + (i + 1) = acc.length + 1 + i from by omega]
        exact this
theorem ancs_length : ∀ (l : List Oper) (acc : List Nat), (ancs acc l).length = acc.length + l.length
  | [], acc => rfl
  | x :: l, acc => by simp [ancs, ancs_length l]; omega

theorem anc_bit {l : List Oper} {i j : Nat} (h : ((ancs [] l).getD i 0).testBit j = true) : ∃ p ∈ (l.map preds).getD i [], j = p ∨ (p < i ∧ ((ancs [] l).getD p 0).testBit j = true) := by
  have hlen : (ancs [] l).length = l.length := by simp [ancs_length]
  by_cases hi : i < l.length
  · have h2 := (ancs_spec l []).2 i _ (List.getElem?_eq_getElem hi)
    simp only [List.length_nil, Nat.zero_add] at h2
    rw [List.getD_eq_getElem?_getD, h2] at h
    obtain ⟨p, h3, h4⟩ := ancOf_bit h
    refine ⟨p, by simpa [List.getD_eq_getElem?_getD, hi] using h3, h4.imp id fun h5 => ?_⟩
    rw [List.getD_eq_getElem?_getD, List.getElem?_take] at h5
    split at h5
    · rename_i hp
      exact ⟨hp, by rw [List.getD_eq_getElem?_getD]; exact h5⟩
    · simp at h5
  · rw [List.getD_eq_getElem?_getD, List.getElem?_eq_none (by omega)] at h
    simp at h

def Closed (l : List Oper) (S : Nat → Prop) : Prop := ∀ i, S i → ∀ p ∈ (l.map preds).getD i [], S p

theorem anc_closed {l : List Oper} {S : Nat → Prop} (hS : Closed l S) : ∀ (i j : Nat), (∀ p ∈ (l.map preds).getD i [], S p) → ((ancs [] l).getD i 0).testBit j = true → S j := by
  intro i
  induction i using Nat.strongRecOn with
  | _ i ih =>
    intro j hp h
    obtain ⟨p, h1, h2⟩ := anc_bit h
    rcases h2 with rfl | ⟨h2, h3⟩
    · exact hp _ h1
    · exact ih p h2 j (hS p (hp p h1)) h3

/-- What the check says. -/
structure Chk (ops : List Oper) (sl : List SOp) (ord : List (Nat × List Nat)) : Prop where
  len : sl.length = ops.length
  olen : ord.length = ops.length
  lt : ∀ (k i : Nat) re, ord[k]? = some (i, re) → i < ops.length
  all : ∀ i, i < ops.length → ∃ (k : Nat) (re : List Nat), ord[k]? = some (i, re)
  uniq : ∀ (k k' i : Nat) re re', ord[k]? = some (i, re) → ord[k']? = some (i, re') → k = k'
  lin : ∀ (k i : Nat) re, ord[k]? = some (i, re) → ∀ p ∈ (ops.map preds).getD i [], ∃ (k' : Nat) (re' : List Nat), k' < k ∧ ord[k']? = some (p, re')
  eff : ∀ (k i : Nat) re (k' c : Nat) re', ord[k]? = some (i, re) → isEff sl i = true → k' < k → ord[k']? = some (c, re') → ((ancs [] ops).getD i 0).testBit c = true
  read : ∀ (k i : Nat) re (k' e : Nat) re', ord[k]? = some (i, re) → clsAt sl i = .read → k' < k → ord[k']? = some (e, re') → isEff sl e = true → ((ancs [] ops).getD i 0).testBit e = true ∨ e ∈ re
  ssa : ∀ (j j' : Nat) (o o' : SOp) (d : Tmp), sl[j]? = some o → sl[j']? = some o' → o.dst = some d → o'.dst = some d → j = j'
  tmp : ∀ (i : Nat) (o : SOp), sl[i]? = some o → ∀ t ∈ looks o, ∀ (j : Nat) (o' : SOp), sl[j]? = some o' → o'.dst = some t → i = j ∨ ((ancs [] ops).getD i 0).testBit j = true ∨ ((ancs [] ops).getD j 0).testBit i = true
  pred_lt : ∀ (i p : Nat), p ∈ (ops.map preds).getD i [] → p < i

theorem fst_at {ord : List (Nat × List Nat)} {k i : Nat} {re : List Nat} (h : ord[k]? = some (i, re)) : (ord.map (·.1))[k]? = some i := by simp [h]
theorem at_fst {ord : List (Nat × List Nat)} {k i : Nat} (h : (ord.map (·.1))[k]? = some i) : ∃ re, ord[k]? = some (i, re) := by
  rw [List.getElem?_map, Option.map_eq_some_iff] at h
  obtain ⟨⟨x, re⟩, h1, rfl⟩ := h
  exact ⟨re, h1⟩

theorem chk_of {ops : Array Oper} {sl : List SOp} {ord : List (Nat × List Nat)} (h : orderOf ops sl = some ord) : Chk ops.toList sl ord := by
  unfold orderOf at h
  simp only at h
  split at h
  · rename_i hc
    simp only [Option.some.injEq] at h
    subst h
    generalize ordGo (ancs [] ops.toList) sl [] (canon (ancs [] ops.toList) sl ops.size) = ord at hc
    unfold chkB at hc
    simp only [Bool.and_eq_true] at hc
    obtain ⟨⟨⟨⟨⟨⟨⟨⟨⟨⟨⟨h1, h2⟩, h3⟩, h4⟩, h5⟩, h6⟩, h7⟩, h8⟩, h9⟩, h10⟩, h11⟩, h12⟩ := hc
    have e1 : sl.length = ops.toList.length := by simpa using h1
    have e3 : ord.length = ops.toList.length := by simpa using h3
    have hn : ops.size = ops.toList.length := by simp
    refine ⟨e1, e3, fun k i re hk => ?_, fun i hi => ?_, fun k k' i re re' hk hk' => nodupB_spec h4 k k' i (fst_at hk) (fst_at hk'), fun k i re hk p hp => ?_,
      fun k i re k' c re' hk he hlt hk' => (effB_spec h8 k i (fst_at hk) he).2 k' c hlt (fst_at hk'), fun k i re k' e re' hk hr hlt hk' he => (readB_spec h9 k i re hk hr).2 k' e re' hlt hk' he,
      fun j j' o o' d hj hj' ho ho' => ?_, fun i o hi t ht j o' hj hd => ?_, fun i p hp => ?_⟩
    · have := List.all_eq_true.1 h5 i (List.mem_of_getElem? (fst_at hk))
      simpa using this
    · have := List.all_eq_true.1 h6 i (by simpa using hi)
      obtain ⟨k, hk⟩ := List.mem_iff_getElem?.1 (by simpa using this : i ∈ ord.map (·.1))
      obtain ⟨re, h⟩ := at_fst hk
      exact ⟨k, re, h⟩
    · rcases linB_spec h7 k i (fst_at hk) p hp with h | ⟨k', h, h'⟩
      · cases h
      · obtain ⟨re', h''⟩ := at_fst h'
        exact ⟨k', re', h, h''⟩
    · rcases Nat.lt_trichotomy j j' with h | h | h
      · exact (ssaB_spec h10 j j' o o' d h hj hj' ho ho').elim
      · exact h
      · exact (ssaB_spec h10 j' j o' o d h hj' hj ho' ho).elim
    · have hil : i < ops.size := by have := (List.getElem?_eq_some_iff.1 hi).1; omega
      have hjl : j < ops.size := by have := (List.getElem?_eq_some_iff.1 hj).1; omega
      have := List.all_eq_true.1 h11 i (by simpa using hil)
      rw [hi] at this
      have := List.all_eq_true.1 this t ht
      have := List.all_eq_true.1 this j (by simpa using hjl)
      have hw : writer sl j t = true := by simp [writer, hj, hd]
      rw [hw] at this
      simp only [Bool.not_true, Bool.false_or, Bool.or_eq_true, beq_iff_eq] at this
      rcases this with (h | h) | h
      · exact .inl h
      · exact .inr (.inl h)
      · exact .inr (.inr h)
    · by_cases hi : i < ops.size
      · have := List.all_eq_true.1 h12 i (by simpa using hi)
        have := List.all_eq_true.1 this p hp
        simpa using this
      · rw [List.getD_eq_getElem?_getD, List.getElem?_eq_none (by simp; omega)] at hp
        cases hp
  · cases h

end Go.Ab
