/- Plain laws of picks. -/
import Derived.Test.YtfclpggbcmbcjaaFc
namespace Go.Proofs.Ytfclpggbcmbcjaa
theorem foldl_min_le (l : List Int) : ∀ (a : Int), l.foldl min a ≤ a ∧ (∀ x ∈ l, l.foldl min a ≤ x) ∧ (l.foldl min a = a ∨ l.foldl min a ∈ l) := by
  induction l with
  | nil => intro a; simp
  | cons y l ih =>
    intro a
    obtain ⟨h1, h2, h3⟩ := ih (min a y)
    simp only [List.foldl_cons, List.mem_cons, forall_eq_or_imp]
    refine ⟨by omega, ⟨by omega, h2⟩, ?_⟩
    rcases h3 with h3 | h3
    · rw [h3]
      rcases Int.le_total a y with h | h
      · left; omega
      · right; left; omega
    · exact .inr (.inr h3)
theorem foldl_max_le (l : List Int) : ∀ (a : Int), a ≤ l.foldl max a ∧ (∀ x ∈ l, x ≤ l.foldl max a) ∧ (l.foldl max a = a ∨ l.foldl max a ∈ l) := by
  induction l with
  | nil => intro a; simp
  | cons y l ih =>
    intro a
    obtain ⟨h1, h2, h3⟩ := ih (max a y)
    simp only [List.foldl_cons, List.mem_cons, forall_eq_or_imp]
    refine ⟨by omega, ⟨by omega, h2⟩, ?_⟩
    rcases h3 with h3 | h3
    · rw [h3]
      rcases Int.le_total a y with h | h
      · right; left; omega
      · left; omega
    · exact .inr (.inr h3)
theorem minL_law (l : List Int) (h : l ≠ []) : minL l ∈ l ∧ ∀ x ∈ l, minL l ≤ x := by
  cases l with
  | nil => exact absurd rfl h
  | cons a l =>
    obtain ⟨h1, h2, h3⟩ := foldl_min_le l a
    simp only [minL, List.mem_cons, forall_eq_or_imp]
    exact ⟨h3, h1, h2⟩
theorem maxL_law (l : List Int) (h : l ≠ []) : maxL l ∈ l ∧ ∀ x ∈ l, x ≤ maxL l := by
  cases l with
  | nil => exact absurd rfl h
  | cons a l =>
    obtain ⟨h1, h2, h3⟩ := foldl_max_le l a
    simp only [maxL, List.mem_cons, forall_eq_or_imp]
    exact ⟨h3, h1, h2⟩
/-- The least number above z, among those of a list and what was found before. -/
theorem above_law (z : Int) (l : List Int) : ∀ (a : Option Int), (∀ y, a = some y → z < y) →
    (∀ y, l.foldl (stepR z) a = some y → z < y ∧ (a = some y ∨ y ∈ l)) ∧ (∀ x, (a = some x ∨ (x ∈ l ∧ z < x)) → ∃ y, l.foldl (stepR z) a = some y ∧ y ≤ x) := by
  induction l with
  | nil => intro a ha; exact ⟨fun y h => ⟨ha y h, .inl h⟩, fun x h => ⟨x, by rcases h with h | h; exact h; simp at h, Int.le_refl _⟩⟩
  | cons n l ih =>
    intro a ha
    rw [List.foldl_cons]
    have hs : ∀ y, stepR z a n = some y → z < y ∧ (a = some y ∨ y = n) := by
      intro y hy
      unfold stepR at hy
      split at hy
      · cases hy; rename_i h; exact ⟨h.1, .inr rfl⟩
      · exact ⟨ha y hy, .inl hy⟩
    obtain ⟨h1, h2⟩ := ih (stepR z a n) fun y hy => (hs y hy).1
    refine ⟨fun y hy => ?_, fun x hx => ?_⟩
    · obtain ⟨q1, q2⟩ := h1 y hy
      refine ⟨q1, ?_⟩
      rcases q2 with q2 | q2
      · rcases (hs y q2).2 with h | h
        · exact .inl h
        · exact .inr (by simp [h])
      · exact .inr (by simp [q2])
    · have key : ∃ u, stepR z a n = some u ∧ u ≤ x ∨ (x ∈ l ∧ z < x) := by
        rcases hx with hx | ⟨hx, hz⟩
        · subst hx
          unfold stepR
          by_cases h : z < n ∧ ((some x : Option Int).isSome = false ∨ n < (some x : Option Int).getD 0)
          · rw [if_pos h]; exact ⟨n, .inl ⟨rfl, by rcases h.2 with h | h; simp at h; simp at h; omega⟩⟩
          · rw [if_neg h]; exact ⟨x, .inl ⟨rfl, Int.le_refl _⟩⟩
        · rcases List.mem_cons.1 hx with hx | hx
          · subst hx
            unfold stepR
            by_cases h : z < x ∧ (a.isSome = false ∨ x < a.getD 0)
            · rw [if_pos h]; exact ⟨x, .inl ⟨rfl, Int.le_refl _⟩⟩
            · rw [if_neg h]
              cases a with
              | none => exact absurd ⟨hz, .inl rfl⟩ h
              | some u => exact ⟨u, .inl ⟨rfl, by simp at h; have := h hz; omega⟩⟩
          · exact ⟨0, .inr ⟨hx, hz⟩⟩
      obtain ⟨u, (⟨k1, k2⟩ | k1)⟩ := key
      · obtain ⟨y, e, hy⟩ := h2 u (.inl k1)
        exact ⟨y, e, by omega⟩
      · exact h2 x (.inr k1)
theorem roundL_law (z : Int) (l : List Int) (h : l ≠ []) : roundL z l ∈ l ∧ ∀ x ∈ l, z < x → z < roundL z l ∧ roundL z l ≤ x := by
  obtain ⟨h1, h2⟩ := above_law z l none (fun _ h => by cases h)
  unfold roundL aboveL
  cases hf : l.foldl (stepR z) none with
  | none =>
    refine ⟨(minL_law l h).1, fun x hx hz => ?_⟩
    obtain ⟨y, e, _⟩ := h2 x (.inr ⟨hx, hz⟩)
    rw [hf] at e; cases e
  | some y =>
    obtain ⟨q1, q2⟩ := h1 y hf
    refine ⟨by rcases q2 with q | q; cases q; exact q, fun x hx hz => ⟨q1, ?_⟩⟩
    obtain ⟨u, e, hu⟩ := h2 x (.inr ⟨hx, hz⟩)
    rw [hf] at e; cases e
    exact hu
theorem getD_mem (l : List Int) (i : Nat) (h : i < l.length) : l.getD i 0 ∈ l := by
  rw [List.getD_eq_getElem?_getD, List.getElem?_eq_getElem h]
  exact List.getElem_mem h
theorem pickK_law {k s z x s' : Int} {l : List Int} (h : pickK k s z l = some (x, s')) :
    l ≠ [] ∧ 1 ≤ k ∧ k ≤ 4 ∧ x ∈ l ∧ (k ≠ 4 → s' = s) ∧ (k = 1 → ∀ y ∈ l, x ≤ y) ∧ (k = 2 → ∀ y ∈ l, y ≤ x) ∧ (k = 3 → ∀ y ∈ l, z < y → z < x ∧ x ≤ y) := by
  unfold pickK at h
  by_cases h0 : l = []
  · rw [if_pos h0] at h; cases h
  rw [if_neg h0] at h
  by_cases h1 : k = 1
  · rw [if_pos h1] at h; cases h
    exact ⟨h0, by omega, by omega, (minL_law l h0).1, fun _ => rfl, fun _ => (minL_law l h0).2, fun h => by omega, fun h => by omega⟩
  rw [if_neg h1] at h
  by_cases h2 : k = 2
  · rw [if_pos h2] at h; cases h
    exact ⟨h0, by omega, by omega, (maxL_law l h0).1, fun _ => rfl, fun h => by omega, fun _ => (maxL_law l h0).2, fun h => by omega⟩
  rw [if_neg h2] at h
  by_cases h3 : k = 3
  · rw [if_pos h3] at h; cases h
    exact ⟨h0, by omega, by omega, (roundL_law z l h0).1, fun _ => rfl, fun h => by omega, fun h => by omega, fun _ => (roundL_law z l h0).2⟩
  rw [if_neg h3] at h
  by_cases h4 : k = 4
  · rw [if_pos h4] at h; cases h
    refine ⟨h0, by omega, by omega, getD_mem l _ ?_, fun h => absurd h4 h, fun h => by omega, fun h => by omega, fun h => by omega⟩
    have hl := List.length_pos_iff.2 h0
    have e1 := Int.emod_lt_of_pos (seedN s / 65536) (show 0 < (l.length : Int) by omega)
    have e2 := Int.emod_nonneg (seedN s / 65536) (show (l.length : Int) ≠ 0 by omega)
    unfold seedAt
    omega
  · rw [if_neg h4] at h; cases h
theorem pickK_no {k s z : Int} {l : List Int} (h : pickK k s z l = none) (hl : l ≠ []) : ¬ (1 ≤ k ∧ k ≤ 4) := by
  unfold pickK at h
  rw [if_neg hl] at h
  intro hk
  by_cases h1 : k = 1
  · rw [if_pos h1] at h; cases h
  rw [if_neg h1] at h
  by_cases h2 : k = 2
  · rw [if_pos h2] at h; cases h
  rw [if_neg h2] at h
  by_cases h3 : k = 3
  · rw [if_pos h3] at h; cases h
  rw [if_neg h3, if_pos (by omega)] at h
  cases h
theorem pickN_mem (n : Int) (l : List Int) (h : l ≠ []) : pickN n l ∈ l := by
  have hl := List.length_pos_iff.2 h
  have e1 := Int.emod_lt_of_pos n (show 0 < (l.length : Int) by omega)
  have e2 := Int.emod_nonneg n (show (l.length : Int) ≠ 0 by omega)
  exact getD_mem l _ (by omega)
theorem pickN_add (n : Int) (l : List Int) : pickN (n + l.length) l = pickN n l := by
  unfold pickN
  rw [Int.add_emod_right]
theorem pickN_small (n : Nat) (l : List Int) (h : n < l.length) : pickN n l = l[n] := by
  unfold pickN
  rw [Int.emod_eq_of_lt (by omega) (by omega), Int.toNat_natCast, List.getD_eq_getElem?_getD, List.getElem?_eq_getElem h]
  rfl
end Go.Proofs.Ytfclpggbcmbcjaa
