/- What a step that is done comes to: plain. -/
import Derived.Test.YtbfcpapehfdphaaWait
namespace Go.Proofs.Ytbfcpapehfdphaa
theorem pipesB_modify {l : List Pi} {j : Nat} {f : Pi → Pi} (h : pipesB l = true) (hf : ∀ p, l[j]? = some p → pipeB p = true → pipeB (f p) = true) : pipesB (l.modify j f) = true := by
  unfold pipesB at h ⊢
  simp only [Bool.and_eq_true, decide_eq_true_eq] at h ⊢
  refine ⟨List.all_eq_true.2 fun p hp => ?_, by rw [List.length_modify]; exact h.2⟩
  obtain ⟨i, hi⟩ := List.getElem?_of_mem hp
  rw [List.getElem?_modify] at hi
  cases hl : l[i]? with
  | none => rw [hl] at hi; cases hi
  | some q =>
    rw [hl] at hi
    have hq := List.all_eq_true.1 h.1 q (List.mem_of_getElem? hl)
    by_cases hij : j = i
    · subst hij
      simp at hi
      rw [← hi]
      exact hf q hl hq
    · simp [hij] at hi
      rw [← hi]
      exact hq
theorem pipeB_iff (p : Pi) : pipeB p = true ↔ 1 ≤ p.room ∧ p.room ≤ 16 ∧ (p.ins.length : Int) ≤ p.room := by
  unfold pipeB
  simp only [Bool.and_eq_true, decide_eq_true_eq]
def GoesB (c : Ch) (l : List Pi) (c' : Ch) (l' : List Pi) : Prop :=
  (c'.at_ = c.at_ + 1 ∨ c'.at_ = c.row.length) ∧ rightB l'.length c' = true ∧ pipesB l' = true ∧ l'.length = l.length ∧ c'.row = c.row ∧ ∀ x, c.row[c.at_.toNat]? = some x → ∀ i : Nat, (i : Int) ≠ namedN x → l'[i]? = l[i]?
theorem modify_other {α : Type} (l : List α) (j i : Nat) (f : α → α) (h : j ≠ i) : (l.modify j f)[i]? = l[i]? := by
  rw [List.getElem?_modify]; simp [h]
theorem goes_plain {es : List Er} {a s r : Int} {l : List Pi} (hP : pipesB l = true) (hR : rightB l.length ⟨es, a, s, r⟩ = true) (hw : r ≠ 64) (hr : readyB ⟨es, a, s, r⟩ l = true) : GoesB ⟨es, a, s, r⟩ l (stepN ⟨es, a, s, r⟩ l).1 (stepN ⟨es, a, s, r⟩ l).2 := by
  obtain ⟨k, x, rfl, hx, hq, hk, hr64, hd, hst⟩ := ready_parts hr
  obtain ⟨h1, h2, h3, h4, h5, h6⟩ := head_of hR
  have hkl : k < es.length := (List.getElem?_eq_some_iff.1 hx).1
  have hno : ¬ (k : Int) = (es.length : Int) := by omega
  have hcan := ready_yes hP hR hno hx
  rw [hr] at hcan
  have key : ∀ (at' s' r' : Int) (l' : List Pi), l'.length = l.length → 0 ≤ at' → at' ≤ es.length → 0 ≤ r' → r' ≤ 64 → rightB l'.length ⟨es, at', s', r'⟩ = true := fun at' s' r' l' e g1 g2 g3 g4 => by
    rw [e, head_yes es at' s' r' _ ⟨h1, g1, g2, g3, g4⟩]
    exact h6
  rw [hst]
  have hxx : ∀ y, es[(k : Int).toNat]? = some y → y = x := fun y hy => by rw [Int.toNat_natCast, hx] at hy; cases hy; rfl
  obtain ⟨d, q, z⟩ := x
  dsimp only at hd hq
  rcases (by omega : d = 1 ∨ d = 2 ∨ d = 3 ∨ d = 4 ∨ d = 5) with rfl | rfl | rfl | rfl | rfl
  · obtain ⟨j, rfl⟩ : ∃ j : Nat, q = j := ⟨q.toNat, by have := hq (by omega); omega⟩
    have hj : j < l.length := by have := hq (by omega); omega
    have hp := List.getElem?_eq_getElem hj
    rw [canB_at 1 j z l l[j] (.inl rfl) hp] at hcan
    cases hc : l[j].closed with
    | true =>
      rw [sp_closed j z _ l _ hp hc]
      exact ⟨.inl rfl, key _ _ _ _ rfl (by (try dsimp only); omega) (by (try dsimp only); omega) (by (try dsimp only); omega) (by (try dsimp only); omega), hP, rfl, rfl, fun _ _ _ _ => rfl⟩
    | false =>
      rw [sp_open j z _ l _ hp hc]
      refine ⟨.inl rfl, key _ _ _ _ (by simp) (by (try dsimp only); omega) (by (try dsimp only); omega) (by (try dsimp only); omega) (by (try dsimp only); omega), pipesB_modify hP ?_, by simp, rfl, ?_⟩
      · intro p hp' hpb
        rw [hp] at hp'
        cases hp'
        rw [pipeB_iff] at hpb ⊢
        have : ((l[j].ins.length : Int) < l[j].room) := by simpa [canP, hc] using hcan.symm
        simp
        omega
      · intro y hy i hi
        have := hxx y hy
        subst this
        exact modify_other _ _ _ _ (by rintro rfl; simp [namedN] at hi)
  · obtain ⟨j, rfl⟩ : ∃ j : Nat, q = j := ⟨q.toNat, by have := hq (by omega); omega⟩
    have hj : j < l.length := by have := hq (by omega); omega
    have hp := List.getElem?_eq_getElem hj
    rw [sp_get j z _ l _ hp]
    refine ⟨.inl rfl, key _ _ _ _ (by simp) (by (try dsimp only); omega) (by (try dsimp only); omega) (by (try dsimp only); omega) (by (try dsimp only); omega), pipesB_modify hP ?_, by simp, rfl, ?_⟩
    · intro p hp' hpb
      rw [pipeB_iff] at hpb ⊢
      simp [getP]
      omega
    · intro y hy i hi
      have := hxx y hy
      subst this
      exact modify_other _ _ _ _ (by rintro rfl; simp [namedN] at hi)
  · rw [sp_add]
    exact ⟨.inl rfl, key _ _ _ _ rfl (by (try dsimp only); omega) (by (try dsimp only); omega) (by (try dsimp only); omega) (by (try dsimp only); omega), hP, rfl, rfl, fun _ _ _ _ => rfl⟩
  · obtain ⟨j, rfl⟩ : ∃ j : Nat, q = j := ⟨q.toNat, by have := hq (by omega); omega⟩
    rw [sp_close]
    refine ⟨.inl rfl, key _ _ _ _ (by simp) (by (try dsimp only); omega) (by (try dsimp only); omega) (by (try dsimp only); omega) (by (try dsimp only); omega), pipesB_modify hP ?_, by simp, rfl, ?_⟩
    · intro p hp' hpb
      rw [pipeB_iff] at hpb ⊢
      exact hpb
    · intro y hy i hi
      have := hxx y hy
      subst this
      exact modify_other _ _ _ _ (by rintro rfl; simp [namedN] at hi)
  · rw [sp_stop]
    exact ⟨.inr rfl, key _ _ _ _ rfl (by (try dsimp only); omega) (by (try dsimp only); omega) (by (try dsimp only); omega) (by (try dsimp only); omega), hP, rfl, rfl, fun _ _ _ _ => rfl⟩
end Go.Proofs.Ytbfcpapehfdphaa
