/- Two rows that are made and filled in whatever order ('p, q := a.F, b.F': operations 4 and 5 make them, 6 and 7 fill them). -/
import Derived.Test.YtpcdbkaeijhmfaaDoorFx
import Derived.Deep.MidRow
namespace Go.Proofs.YtpcdbkaeijhmfaaDoor
set_option maxRecDepth 100000
set_option linter.unusedVariables false
set_option linter.unusedSimpArgs false
open Go.RowKit
structure TwoG (W0 : World) (t : TypeId) (D D' Z : Array Value) (L : Nat → Bool) (f : Nat → Value) (w : World) : Prop where
  fr : Frm (fun _ => False) W0 w
  one : L 4 = true → ∃ g, f 4 = .pointer (some ⟨g, 0, none⟩) ∧ W0.heap.size ≤ g ∧ Blk w g t (if L 6 = true then D else Z)
  two : L 5 = true → ∃ g, f 5 = .pointer (some ⟨g, 0, none⟩) ∧ W0.heap.size ≤ g ∧ Blk w g t (if L 7 = true then D' else Z)
  ne : L 4 = true → L 5 = true → f 4 ≠ f 5
  c6 : L 6 = true → L 4 = true
  c7 : L 7 = true → L 5 = true
section
variable {W0 w w' : World} {t : TypeId} {D D' Z : Array Value} {L : Nat → Bool} {f : Nat → Value}
theorem TwoG.start (f : Nat → Value) (hL : ∀ j, L j = false) : TwoG w t D D' Z L f w :=
  ⟨Frm.refl _ _, fun h => (by rw [hL] at h; cases h), fun h => (by rw [hL] at h; cases h), fun h => (by rw [hL] at h; cases h), fun h => (by rw [hL] at h; cases h), fun h => (by rw [hL] at h; cases h)⟩
theorem setL_ne (L : Nat → Bool) {i j : Nat} (h : j ≠ i) : setL L i j = L j := by
  unfold setL
  rw [show Nat.beq j i = false from by
    cases hb : Nat.beq j i with
    | false => rfl
    | true => exact absurd (Nat.eq_of_beq_eq_true hb) h]
  rfl
theorem setL_same (L : Nat → Bool) (i : Nat) : setL L i i = true := by simp [setL]
theorem TwoG.keep (h : TwoG W0 t D D' Z L f w) {i : Nat} (hi : i < 4) (v : Value) : TwoG W0 t D D' Z (setL L i) (upd f i v) w := by
  have e : ∀ j, 4 ≤ j → setL L i j = L j := fun j hj => setL_ne L (by omega)
  have u : ∀ j, 4 ≤ j → upd f i v j = f j := fun j hj => upd_ne f v (by omega)
  refine ⟨h.fr, ?_, ?_, ?_, ?_, ?_⟩
  · rw [e 4 (by omega), e 6 (by omega), u 4 (by omega)]; exact h.one
  · rw [e 5 (by omega), e 7 (by omega), u 5 (by omega)]; exact h.two
  · rw [e 4 (by omega), e 5 (by omega), u 4 (by omega), u 5 (by omega)]; exact h.ne
  · rw [e 4 (by omega), e 6 (by omega)]; exact h.c6
  · rw [e 5 (by omega), e 7 (by omega)]; exact h.c7
theorem TwoG.new4 (h : TwoG W0 t D D' Z L f w) (h4 : L 4 = false) : TwoG W0 t D D' Z (setL L 4) (upd f 4 (.pointer (some ⟨w.heap.size, 0, none⟩))) (w.alloc (.cells Z t)) := by
  have h6 : L 6 = false := by
    cases h' : L 6 with
    | false => rfl
    | true => rw [h.c6 h'] at h4; cases h4
  refine ⟨h.fr.alloc _, ?_, ?_, ?_, ?_, ?_⟩
  · rw [setL_same, upd_same, setL_ne L (by omega : 6 ≠ 4), h6]
    intro _
    exact ⟨_, rfl, h.fr.size, by rw [if_neg (by simp)]; exact Blk.new _ _ _⟩
  · rw [setL_ne L (by omega : 5 ≠ 4), setL_ne L (by omega : 7 ≠ 4), upd_ne f _ (by omega : 5 ≠ 4)]
    intro h5
    obtain ⟨g, e, hg, hb⟩ := h.two h5
    exact ⟨g, e, hg, hb.alloc _⟩
  · rw [upd_same, upd_ne f _ (by omega : 5 ≠ 4), setL_ne L (by omega : 5 ≠ 4)]
    intro _ h5 e
    obtain ⟨g, e', hg, hb⟩ := h.two h5
    rw [e'] at e
    have := hb.lt
    injection e with e; injection e with e; injection e with e; omega
  · rw [setL_ne L (by omega : 6 ≠ 4), h6]; intro h; cases h
  · rw [setL_ne L (by omega : 7 ≠ 4), setL_ne L (by omega : 5 ≠ 4)]; exact h.c7
theorem TwoG.new5 (h : TwoG W0 t D D' Z L f w) (h5 : L 5 = false) : TwoG W0 t D D' Z (setL L 5) (upd f 5 (.pointer (some ⟨w.heap.size, 0, none⟩))) (w.alloc (.cells Z t)) := by
  have h7 : L 7 = false := by
    cases h' : L 7 with
    | false => rfl
    | true => rw [h.c7 h'] at h5; cases h5
  refine ⟨h.fr.alloc _, ?_, ?_, ?_, ?_, ?_⟩
  · rw [setL_ne L (by omega : 4 ≠ 5), setL_ne L (by omega : 6 ≠ 5), upd_ne f _ (by omega : 4 ≠ 5)]
    intro h4
    obtain ⟨g, e, hg, hb⟩ := h.one h4
    exact ⟨g, e, hg, hb.alloc _⟩
  · rw [setL_same, upd_same, setL_ne L (by omega : 7 ≠ 5), h7]
    intro _
    exact ⟨_, rfl, h.fr.size, by rw [if_neg (by simp)]; exact Blk.new _ _ _⟩
  · rw [upd_same, upd_ne f _ (by omega : 4 ≠ 5), setL_ne L (by omega : 4 ≠ 5)]
    intro h4 _ e
    obtain ⟨g, e', hg, hb⟩ := h.one h4
    rw [e'] at e
    have := hb.lt
    injection e with e; injection e with e; injection e with e; omega
  · rw [setL_ne L (by omega : 6 ≠ 5), setL_ne L (by omega : 4 ≠ 5)]; exact h.c6
  · rw [setL_ne L (by omega : 7 ≠ 5), h7]; intro h; cases h
theorem TwoG.put6 (h : TwoG W0 t D D' Z L f w) (h4 : L 4 = true) (v : Value) {g : Nat} (hg : f 4 = .pointer (some ⟨g, 0, none⟩)) : TwoG W0 t D D' Z (setL L 6) (upd f 6 v) (w.setRow g D) := by
  obtain ⟨g', e, hge, hb⟩ := h.one h4
  rw [hg] at e; injection e with e; injection e with e; injection e with e; subst e
  refine ⟨h.fr.setRow (.inr hge) _, ?_, ?_, ?_, ?_, ?_⟩
  · rw [setL_ne L (by omega : 4 ≠ 6), setL_same, upd_ne f _ (by omega : 4 ≠ 6)]
    intro _
    exact ⟨g, hg, hge, by rw [if_pos rfl]; exact hb.setRow _⟩
  · rw [setL_ne L (by omega : 5 ≠ 6), setL_ne L (by omega : 7 ≠ 6), upd_ne f _ (by omega : 5 ≠ 6)]
    intro h5
    obtain ⟨g2, e2, hg2, hb2⟩ := h.two h5
    refine ⟨g2, e2, hg2, (heap_setRow w g g2 D ?_).trans hb2⟩
    intro e3
    exact h.ne h4 h5 (by rw [hg, e2, e3])
  · rw [setL_ne L (by omega : 4 ≠ 6), setL_ne L (by omega : 5 ≠ 6), upd_ne f _ (by omega : 4 ≠ 6), upd_ne f _ (by omega : 5 ≠ 6)]; exact h.ne
  · rw [setL_ne L (by omega : 4 ≠ 6)]; exact fun _ => h4
  · rw [setL_ne L (by omega : 7 ≠ 6), setL_ne L (by omega : 5 ≠ 6)]; exact h.c7
theorem TwoG.put7 (h : TwoG W0 t D D' Z L f w) (h5 : L 5 = true) (v : Value) {g : Nat} (hg : f 5 = .pointer (some ⟨g, 0, none⟩)) : TwoG W0 t D D' Z (setL L 7) (upd f 7 v) (w.setRow g D') := by
  obtain ⟨g', e, hge, hb⟩ := h.two h5
  rw [hg] at e; injection e with e; injection e with e; injection e with e; subst e
  refine ⟨h.fr.setRow (.inr hge) _, ?_, ?_, ?_, ?_, ?_⟩
  · rw [setL_ne L (by omega : 4 ≠ 7), setL_ne L (by omega : 6 ≠ 7), upd_ne f _ (by omega : 4 ≠ 7)]
    intro h4
    obtain ⟨g2, e2, hg2, hb2⟩ := h.one h4
    refine ⟨g2, e2, hg2, (heap_setRow w g g2 D' ?_).trans hb2⟩
    intro e3
    exact h.ne h4 h5 (by rw [hg, e2, e3])
  · rw [setL_ne L (by omega : 5 ≠ 7), setL_same, upd_ne f _ (by omega : 5 ≠ 7)]
    intro _
    exact ⟨g, hg, hge, by rw [if_pos rfl]; exact hb.setRow _⟩
  · rw [setL_ne L (by omega : 4 ≠ 7), setL_ne L (by omega : 5 ≠ 7), upd_ne f _ (by omega : 4 ≠ 7), upd_ne f _ (by omega : 5 ≠ 7)]; exact h.ne
  · rw [setL_ne L (by omega : 6 ≠ 7), setL_ne L (by omega : 4 ≠ 7)]; exact h.c6
  · rw [setL_ne L (by omega : 5 ≠ 7)]; exact fun _ => h5
theorem TwoG.done (h : TwoG W0 t D D' Z L f w) (h4 : L 4 = true) (h5 : L 5 = true) (h6 : L 6 = true) (h7 : L 7 = true) : ∃ g g', f 4 = .pointer (some ⟨g, 0, none⟩) ∧ f 5 = .pointer (some ⟨g', 0, none⟩) ∧ Blk w g t D ∧ Blk w g' t D' ∧ Frm (fun _ => False) W0 w := by
  obtain ⟨g, e, -, hb⟩ := h.one h4
  obtain ⟨g', e', -, hb'⟩ := h.two h5
  rw [h6, if_pos rfl] at hb
  rw [h7, if_pos rfl] at hb'
  exact ⟨g, g', e, e', hb, hb', h.fr⟩
end
end Go.Proofs.YtpcdbkaeijhmfaaDoor
