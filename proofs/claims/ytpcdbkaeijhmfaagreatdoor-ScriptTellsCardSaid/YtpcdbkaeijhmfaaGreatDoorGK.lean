/- The relation of a region that calls a line's function and lays its story (operations 5 to 9). -/
import Derived.Test.YtpcdbkaeijhmfaaGreatDoorHQc
import Derived.Test.YtpcdbkaeijhmfaaGreatDoorGA
namespace Go.Proofs.YtpcdbkaeijhmfaaGreatDoor
set_option maxRecDepth 100000
set_option linter.unusedVariables false
set_option linter.unusedSimpArgs false
open Go.RowKit
/-- What is told of a story's cells that were answered. -/
def PW (B : Nat) (o : Option St) (C' : Array Value) (w : World) : Prop := C'.size = 18 ∧ C'.all (·.oneCell') = true ∧ ∀ st', o = some st' → ∃ wv' rv' av' pv', C' = stCells st' wv' rv' av' pv' ∧ Lsts w B st' wv' rv' av' pv'
theorem PW.lay {B q : Nat} {o : Option St} {C' cs D : Array Value} {w : World} (h : PW B o C' w) (hb : Blk w q 33 cs) : PW B o C' (w.setRow q D) :=
  ⟨h.1, h.2.1, fun st' hs => by
    obtain ⟨a1, a2, a3, a4, e, hl⟩ := h.2.2 st' hs
    exact ⟨a1, a2, a3, a4, e, hl.setStory hb⟩⟩
structure WG (B : Nat) (o : Option St) (O4 : Nat → Prop) (w2 : World) (b1 : Nat) (L : Nat → Bool) (f : Nat → Value) (w : World) : Prop where
  fr : Frm (fun q => O4 q ∨ q = b1) w2 w
  cl : L 5 = false → Frm (fun _ => False) w2 w
  bb : ∃ cs, cs.size = 18 ∧ Blk w b1 33 cs
  m6 : L 6 = true → L 5 = true
  m8 : L 8 = true → L 6 = true
  r5 : L 5 = true → ∃ C', f 5 = .tuple #[.agg C', .bool o.isSome] ∧ PW B o C' w
  r6 : L 6 = true → ∃ C', f 6 = .agg C' ∧ PW B o C' w
  r7 : L 7 = true → f 7 = .bool o.isSome
  r9 : L 9 = true → f 9 = .bool o.isSome
  r8 : L 8 = true → ∃ C', f 6 = .agg C' ∧ Blk w b1 33 C' ∧ PW B o C' w
section
variable {B : Nat} {o : Option St} {O4 : Nat → Prop} {w2 w w' : World} {b1 : Nat} {L : Nat → Bool} {f : Nat → Value}
theorem WG.keep (h : WG B o O4 w2 b1 L f w) {i : Nat} (hi : i < 5) (v : Value) : WG B o O4 w2 b1 (setL L i) (upd f i v) w := by
  have e : ∀ j, 5 ≤ j → setL L i j = L j := fun j hj => setL_ne L (by omega)
  have u : ∀ j, 5 ≤ j → upd f i v j = f j := fun j hj => upd_ne f v (by omega)
  exact ⟨h.fr, by rw [e 5 (by omega)]; exact h.cl, h.bb, by rw [e 5 (by omega), e 6 (by omega)]; exact h.m6, by rw [e 6 (by omega), e 8 (by omega)]; exact h.m8, by rw [e 5 (by omega), u 5 (by omega)]; exact h.r5, by rw [e 6 (by omega), u 6 (by omega)]; exact h.r6, by rw [e 7 (by omega), u 7 (by omega)]; exact h.r7, by rw [e 9 (by omega), u 9 (by omega)]; exact h.r9, by rw [e 8 (by omega), u 6 (by omega)]; exact h.r8⟩
theorem WG.call (h : WG B o O4 w2 b1 L f w) (hL : L 5 = false) {C' : Array Value} (hF : Frm O4 w w') (hb : ¬ O4 b1) (hp : PW B o C' w') : WG B o O4 w2 b1 (setL L 5) (upd f 5 (.tuple #[.agg C', .bool o.isSome])) w' := by
  have l6 : L 6 = false := by cases h6 : L 6 with | false => rfl | true => rw [h.m6 h6] at hL; cases hL
  have l8 : L 8 = false := by cases h8 : L 8 with | false => rfl | true => rw [h.m8 h8] at l6; cases l6
  have e : ∀ j, j ≠ 5 → setL L 5 j = L j := fun j hj => setL_ne L hj
  have u : ∀ j, j ≠ 5 → upd f 5 (.tuple #[.agg C', .bool o.isSome]) j = f j := fun j hj => upd_ne f _ hj
  obtain ⟨cs, hs, hbk⟩ := h.bb
  refine ⟨h.fr.trans' (hF.mono fun _ h => .inl (.inl h)), fun h5 => (by rw [setL_same] at h5; cases h5), ⟨cs, hs, hbk.kept hF hb⟩, fun _ => setL_same .., fun h8 => ?_, fun _ => ⟨C', upd_same .., hp⟩, fun h6 => ?_, fun h7 => ?_, fun h9 => ?_, fun h8 => ?_⟩
  · rw [e 8 (by omega), l8] at h8; cases h8
  · rw [e 6 (by omega), l6] at h6; cases h6
  · rw [e 7 (by omega)] at h7; rw [u 7 (by omega)]; exact h.r7 h7
  · rw [e 9 (by omega)] at h9; rw [u 9 (by omega)]; exact h.r9 h9
  · rw [e 8 (by omega), l8] at h8; cases h8
theorem WG.ext0 (h : WG B o O4 w2 b1 L f w) (hL : L 6 = false) (h5 : L 5 = true) {C' : Array Value} (hp : PW B o C' w) : WG B o O4 w2 b1 (setL L 6) (upd f 6 (.agg C')) w := by
  have l8 : L 8 = false := by cases h8 : L 8 with | false => rfl | true => rw [h.m8 h8] at hL; cases hL
  have e : ∀ j, j ≠ 6 → setL L 6 j = L j := fun j hj => setL_ne L hj
  have u : ∀ j, j ≠ 6 → upd f 6 (.agg C') j = f j := fun j hj => upd_ne f _ hj
  refine ⟨h.fr, by rw [e 5 (by omega)]; exact h.cl, h.bb, fun _ => by rw [e 5 (by omega)]; exact h5, fun _ => setL_same .., by rw [e 5 (by omega), u 5 (by omega)]; exact h.r5, fun _ => ⟨C', upd_same .., hp⟩, by rw [e 7 (by omega), u 7 (by omega)]; exact h.r7, by rw [e 9 (by omega), u 9 (by omega)]; exact h.r9, fun h8 => ?_⟩
  rw [e 8 (by omega), l8] at h8; cases h8
theorem WG.ext1 (h : WG B o O4 w2 b1 L f w) : WG B o O4 w2 b1 (setL L 7) (upd f 7 (.bool o.isSome)) w := by
  have e : ∀ j, j ≠ 7 → setL L 7 j = L j := fun j hj => setL_ne L hj
  have u : ∀ j, j ≠ 7 → upd f 7 (.bool o.isSome) j = f j := fun j hj => upd_ne f _ hj
  exact ⟨h.fr, by rw [e 5 (by omega)]; exact h.cl, h.bb, by rw [e 5 (by omega), e 6 (by omega)]; exact h.m6, by rw [e 6 (by omega), e 8 (by omega)]; exact h.m8, by rw [e 5 (by omega), u 5 (by omega)]; exact h.r5, by rw [e 6 (by omega), u 6 (by omega)]; exact h.r6, fun _ => upd_same .., by rw [e 9 (by omega), u 9 (by omega)]; exact h.r9, by rw [e 8 (by omega), u 6 (by omega)]; exact h.r8⟩
theorem WG.asg (h : WG B o O4 w2 b1 L f w) : WG B o O4 w2 b1 (setL L 9) (upd f 9 (.bool o.isSome)) w := by
  have e : ∀ j, j ≠ 9 → setL L 9 j = L j := fun j hj => setL_ne L hj
  have u : ∀ j, j ≠ 9 → upd f 9 (.bool o.isSome) j = f j := fun j hj => upd_ne f _ hj
  exact ⟨h.fr, by rw [e 5 (by omega)]; exact h.cl, h.bb, by rw [e 5 (by omega), e 6 (by omega)]; exact h.m6, by rw [e 6 (by omega), e 8 (by omega)]; exact h.m8, by rw [e 5 (by omega), u 5 (by omega)]; exact h.r5, by rw [e 6 (by omega), u 6 (by omega)]; exact h.r6, by rw [e 7 (by omega), u 7 (by omega)]; exact h.r7, fun _ => upd_same .., by rw [e 8 (by omega), u 6 (by omega)]; exact h.r8⟩
theorem WG.put (h : WG B o O4 w2 b1 L f w) (h5 : L 5 = true) (h6 : L 6 = true) {C' : Array Value} (e6 : f 6 = .agg C') (hp : PW B o C' w) (v : Value) : WG B o O4 w2 b1 (setL L 8) (upd f 8 v) (w.setRow b1 C') := by
  have e : ∀ j, j ≠ 8 → setL L 8 j = L j := fun j hj => setL_ne L hj
  have u : ∀ j, j ≠ 8 → upd f 8 v j = f j := fun j hj => upd_ne f _ hj
  obtain ⟨cs, hs, hbk⟩ := h.bb
  have hF : Frm (fun q => q = b1) w (w.setRow b1 C') := (Frm.refl (fun q => q = b1) w).setRow (.inl rfl) _
  refine ⟨h.fr.trans' (hF.mono fun _ h => .inl (.inr h)), fun h5' => ?_, ⟨C', hp.1, hbk.setRow _⟩, by rw [e 5 (by omega), e 6 (by omega)]; exact h.m6, fun _ => by rw [e 6 (by omega)]; exact h6, fun _ => ?_, fun _ => ?_, by rw [e 7 (by omega), u 7 (by omega)]; exact h.r7, by rw [e 9 (by omega), u 9 (by omega)]; exact h.r9, fun _ => ⟨C', by rw [u 6 (by omega)]; exact e6, hbk.setRow _, hp.lay hbk⟩⟩
  · rw [e 5 (by omega), h5] at h5'; cases h5'
  · obtain ⟨D, e5, hD⟩ := h.r5 h5
    exact ⟨D, by rw [u 5 (by omega)]; exact e5, hD.lay hbk⟩
  · exact ⟨C', by rw [u 6 (by omega)]; exact e6, hp.lay hbk⟩
end
end Go.Proofs.YtpcdbkaeijhmfaaGreatDoor
