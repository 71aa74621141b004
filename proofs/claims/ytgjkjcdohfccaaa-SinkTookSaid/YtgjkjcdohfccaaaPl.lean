/- The plain law of answers: runs of no. -/
import Derived.Test.YtgjkjcdohfccaaaWj
import Derived.Test.YtgjkjcdohfccaaaRe
namespace Go.Proofs.Ytgjkjcdohfccaaa
/-- From i on L answers are no. -/
def noAt (an : List Bool) (i L : Nat) : Prop := ∀ k, k < L → says an (i + k) = false
theorem fold_run (an : List Bool) : ∀ N, (wfold (saysTo an N)).2 ≤ N ∧ noAt an (N - (wfold (saysTo an N)).2) (wfold (saysTo an N)).2 ∧ ∀ L, L ≤ N → noAt an (N - L) L → L ≤ (wfold (saysTo an N)).2 := by
  intro N
  induction N with
  | zero => exact ⟨Nat.le_refl _, fun k hk => by simp [saysTo, wfold] at hk, fun L h _ => by omega⟩
  | succ N ih =>
    obtain ⟨h1, h2, h3⟩ := ih
    rw [saysTo_succ, wfold_snoc, wstep]
    generalize (wfold (saysTo an N)).2 = r at *
    cases hs : says an N
    · simp only [Bool.false_eq_true, if_false]
      refine ⟨by omega, fun k hk => ?_, fun L hL hn => ?_⟩
      · by_cases hk2 : k = r
        · subst hk2; rw [show N + 1 - (k + 1) + k = N by omega]; exact hs
        · have := h2 k (by omega); rwa [show N - r + k = N + 1 - (r + 1) + k by omega] at this
      · rcases L with _ | L
        · omega
        · have := h3 L (by omega) (fun k hk => by have := hn k (by omega); rwa [show N + 1 - (L + 1) + k = N - L + k by omega] at this)
          omega
    · simp only [if_true]
      refine ⟨by omega, fun k hk => by omega, fun L hL hn => ?_⟩
      rcases L with _ | L
      · exact Nat.le_refl _
      · have := hn L (by omega)
        rw [show N + 1 - (L + 1) + L = N by omega, hs] at this
        cases this
theorem fold_most (an : List Bool) : ∀ N, (∃ i, i + (wfold (saysTo an N)).1 ≤ N ∧ noAt an i (wfold (saysTo an N)).1) ∧ ∀ i L, i + L ≤ N → noAt an i L → L ≤ (wfold (saysTo an N)).1 := by
  intro N
  induction N with
  | zero => exact ⟨⟨0, by simp [saysTo, wfold], fun k hk => by simp [saysTo, wfold] at hk⟩, fun i L h _ => by omega⟩
  | succ N ih =>
    obtain ⟨⟨i, h1, h2⟩, h3⟩ := ih
    obtain ⟨r1, r2, r3⟩ := fold_run an (N + 1)
    have e : (wfold (saysTo an (N + 1))).1 = max (wfold (saysTo an N)).1 (wfold (saysTo an (N + 1))).2 := by rw [saysTo_succ, wfold_snoc, wstep]
    rw [e]
    generalize (wfold (saysTo an (N + 1))).2 = r at *
    generalize (wfold (saysTo an N)).1 = M at *
    refine ⟨?_, fun j L hL hn => ?_⟩
    · rcases Nat.le_total M r with h | h
      · rw [Nat.max_eq_right h]; exact ⟨N + 1 - r, by omega, r2⟩
      · rw [Nat.max_eq_left h]; exact ⟨i, by omega, h2⟩
    · rcases Nat.lt_or_ge (j + L) (N + 1) with h | h
      · have := h3 j L (by omega) hn; omega
      · have := r3 L (by omega) (by rwa [show N + 1 - L = j by omega]); omega
theorem says_add (an : List Bool) (k q : Nat) : says an (k + q * an.length) = says an k := by
  unfold says
  rw [Nat.add_mul_mod_self_right]
theorem noAt_mod {an : List Bool} {i L : Nat} (h : noAt an i L) : noAt an (i % an.length) L := fun k hk => by
  have := h k hk
  rw [← says_add an _ (i / an.length)]
  have e : i % an.length + k + i / an.length * an.length = i + k := by have := Nat.div_add_mod i an.length; rw [Nat.mul_comm] at this; omega
  rwa [e]
theorem noAt_lt {an : List Bool} {i L : Nat} (hc : an.contains true = true) (h : noAt an i L) : L < an.length := by
  rcases Nat.lt_or_ge L an.length with h1 | h1
  · exact h1
  exfalso
  rw [List.contains_iff_mem] at hc
  obtain ⟨j, hj, hjt⟩ := List.getElem_of_mem hc
  have h' := noAt_mod h
  have hi := Nat.mod_lt i (show 0 < an.length by omega)
  have key : ∀ k, k < an.length → says an k = false := fun k hk => by
    rcases Nat.lt_or_ge k (i % an.length) with h2 | h2
    · have := h' (k + an.length - i % an.length) (by omega)
      rw [show i % an.length + (k + an.length - i % an.length) = k + 1 * an.length by omega, says_add] at this
      exact this
    · have := h' (k - i % an.length) (by omega)
      rwa [show i % an.length + (k - i % an.length) = k by omega] at this
  have := key j hj
  unfold says at this
  rw [Nat.mod_eq_of_lt hj, List.getD, List.getElem?_eq_getElem hj, hjt] at this
  simp at this
theorem most_le {an : List Bool} (hc : an.contains true = true) (N : Nat) : (wfold (saysTo an N)).1 ≤ (wfold (saysTo an (2 * an.length))).1 := by
  obtain ⟨⟨i, h1, h2⟩, _⟩ := fold_most an N
  have hlt := noAt_lt hc h2
  exact (fold_most an (2 * an.length)).2 _ _ (by have := Nat.mod_lt i (show 0 < an.length by omega); omega) (noAt_mod h2)
theorem most_mono (an : List Bool) {N N' : Nat} (h : N ≤ N') : (wfold (saysTo an N)).1 ≤ (wfold (saysTo an N')).1 := by
  obtain ⟨⟨i, h1, h2⟩, _⟩ := fold_most an N
  exact (fold_most an N').2 _ _ (by omega) h2
theorem withinB_true {an : List Bool} {f : Nat} : withinB an f = true ↔ ∀ i, i < an.length → ¬ noAt an i f := by
  unfold withinB noAt
  simp only [List.all_eq_true, List.mem_range, List.any_eq_true]
  constructor
  · intro h i hi hn
    obtain ⟨k, hk, hs⟩ := h i hi
    rw [hn k hk] at hs; cases hs
  · intro h i hi
    have := h i hi
    refine Classical.byContradiction fun hh => this fun k hk => ?_
    cases hs : says an (i + k) with
    | false => rfl
    | true => exact absurd ⟨k, hk, hs⟩ hh
theorem withinB_most {an : List Bool} (hc : an.contains true = true) (f : Nat) : withinB an f = decide ((wfold (saysTo an (2 * an.length))).1 < f) := by
  obtain ⟨⟨i, h1, h2⟩, h3⟩ := fold_most an (2 * an.length)
  have hlt := noAt_lt hc h2
  rw [Bool.eq_iff_iff, withinB_true, decide_eq_true_eq]
  constructor
  · intro h
    refine Classical.byContradiction fun hh => h (i % an.length) (Nat.mod_lt _ (by omega)) fun k hk => noAt_mod h2 k (by omega)
  · intro h j hj hn
    have hf := noAt_lt hc hn
    have := h3 j f (by omega) hn
    omega
theorem says_none {an : List Bool} (hne : an.isEmpty = false) (hc : an.contains true = false) (k : Nat) : says an k = false := by
  unfold says
  rw [hne]
  have hpos : 0 < an.length := by
    rcases Nat.eq_zero_or_pos an.length with h | h
    · rw [List.length_eq_zero_iff] at h; subst h; cases hne
    · exact h
  have hlt := Nat.mod_lt k hpos
  rw [List.getD, List.getElem?_eq_getElem hlt]
  cases hx : an[k % an.length] with
  | false => rfl
  | true =>
    have : an.contains true = true := by rw [List.contains_iff_mem]; exact hx ▸ List.getElem_mem hlt
    rw [this] at hc; cases hc
theorem says_nil (k : Nat) : says [] k = true := rfl
theorem fold_nil (N : Nat) : wfold (saysTo [] N) = (0, 0) := by
  induction N with
  | zero => rfl
  | succ N ih => rw [saysTo_succ, wfold_snoc, ih, says_nil]; rfl
theorem win_agree (an : List Bool) : winOf an = ((winRef an).getD 0, (winRef an).isSome) := by
  unfold winOf
  cases hne : an.isEmpty with
  | true =>
    rw [List.isEmpty_iff] at hne
    subst hne
    rfl
  | false =>
    simp only [Bool.false_eq_true, if_false]
    cases hc : an.contains true with
    | false =>
      have : winRef an = none := by
        unfold winRef
        rw [List.find?_eq_none]
        intro x hx h
        have hpos : 0 < an.length := by
          rcases Nat.eq_zero_or_pos an.length with h | h
          · rw [List.length_eq_zero_iff] at h; subst h; cases hne
          · exact h
        exact withinB_true.1 h 0 hpos fun k _ => says_none hne hc _
      rw [this]; rfl
    | true =>
      have hM : (wfold (saysTo an (2 * an.length))).1 < an.length := by
        obtain ⟨⟨i, h1, h2⟩, _⟩ := fold_most an (2 * an.length)
        exact noAt_lt hc h2
      have : winRef an = some ((wfold (saysTo an (2 * an.length))).1 + 1) := by
        unfold winRef
        rw [List.find?_eq_some_iff_getElem]
        refine ⟨by rw [withinB_most hc]; simp, (wfold (saysTo an (2 * an.length))).1, by simp; omega, by simp, fun j hj => ?_⟩
        simp only [List.getElem_map, List.getElem_range]
        rw [withinB_most hc]
        simp; omega
      rw [this]; rfl
theorem tkL_len_none {an : List Bool} (hne : an.isEmpty = false) (hc : an.contains true = false) (l : List (Int × Int)) : tkL an l = [] := by
  unfold tkL
  simp [says_none hne hc]
end Go.Proofs.Ytgjkjcdohfccaaa
