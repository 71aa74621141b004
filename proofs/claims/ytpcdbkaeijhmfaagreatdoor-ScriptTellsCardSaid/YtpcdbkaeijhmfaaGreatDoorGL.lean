/- The relation of the document's Parse's region 9: a line's function is called, its story laid into a new cell. -/
import Derived.Test.YtpcdbkaeijhmfaaGreatDoorGK
import Derived.Test.YtpcdbkaeijhmfaaGreatDoorHQy
namespace Go.Proofs.YtpcdbkaeijhmfaaGreatDoor
set_option maxRecDepth 100000
set_option linter.unusedVariables false
set_option linter.unusedSimpArgs false
open Go.RowKit
theorem PW.kept {B : Nat} {o : Option St} {C' : Array Value} {w w' : World} (h : PW B o C' w) (hF : Frm (fun _ => False) w w') : PW B o C' w' :=
  ⟨h.1, h.2.1, fun st' hs => by
    obtain ⟨a1, a2, a3, a4, e, hl⟩ := h.2.2 st' hs
    exact ⟨a1, a2, a3, a4, e, hl.keptF hF⟩⟩
theorem own4_lt {w : World} {B q : Nat} {st : St} {wv rv av pv : Value} (h : Lsts w B st wv rv av pv) (hq : Own4 wv rv av pv q) : q < w.heap.size := by
  rcases hq with h4 | h4 | h4 | h4
  · obtain ⟨vs, k1, -⟩ := h.words; exact (k1.lt q h4).2
  · obtain ⟨vs, k1, -⟩ := h.reads; exact (k1.lt q h4).2
  · exact (h.answers.lt q h4).2
  · exact (h.picks.lt q h4).2
theorem own4_ge {w : World} {B q : Nat} {st : St} {wv rv av pv : Value} (h : Lsts w B st wv rv av pv) (hq : Own4 wv rv av pv q) : B ≤ q := by
  rcases hq with h4 | h4 | h4 | h4
  · obtain ⟨vs, k1, -⟩ := h.words; exact (k1.lt q h4).1
  · obtain ⟨vs, k1, -⟩ := h.reads; exact (k1.lt q h4).1
  · exact (h.answers.lt q h4).1
  · exact (h.picks.lt q h4).1
structure PG (B : Nat) (o : Option St) (O4 : Nat → Prop) (w2 : World) (L : Nat → Bool) (f : Nat → Value) (w : World) : Prop where
  fr : Frm O4 w2 w
  cl : L 5 = false → Frm (fun _ => False) w2 w
  m6 : L 6 = true → L 5 = true
  m7 : L 7 = true → L 6 = true
  m10 : L 10 = true → L 7 = true ∧ L 9 = true
  r5 : L 5 = true → ∃ C', f 5 = .tuple #[.agg C', .bool o.isSome] ∧ PW B o C' w
  r6 : L 6 = true → ∃ C', f 6 = .tuple #[.agg C', .bool o.isSome] ∧ PW B o C' w
  r7 : L 7 = true → ∃ C', f 7 = .agg C' ∧ PW B o C' w
  r8 : L 8 = true → f 8 = .bool o.isSome
  r9 : L 9 = true → ∃ g cs, f 9 = .pointer (some ⟨g, 0, none⟩) ∧ w2.heap.size ≤ g ∧ cs.size = 18 ∧ Blk w g 33 cs
  r10 : L 10 = true → ∃ g C', f 9 = .pointer (some ⟨g, 0, none⟩) ∧ w2.heap.size ≤ g ∧ Blk w g 33 C' ∧ PW B o C' w
  r11 : L 11 = true → f 11 = .bool o.isSome
section
variable {B : Nat} {o : Option St} {O4 : Nat → Prop} {w2 w w' : World} {L : Nat → Bool} {f : Nat → Value}
theorem off {b : Bool} (h : b = true → False) : b = false := by cases b with | false => rfl | true => exact (h rfl).elim
/-- An operation that is not of the relation's. -/
theorem PG.keep (h : PG B o O4 w2 L f w) {i : Nat} (hi : i < 5) (v : Value) : PG B o O4 w2 (setL L i) (upd f i v) w := by
  have e : ∀ j, 5 ≤ j → setL L i j = L j := fun j hj => setL_ne L (by omega)
  have u : ∀ j, 5 ≤ j → upd f i v j = f j := fun j hj => upd_ne f v (by omega)
  constructor
  · exact h.fr
  all_goals simp only [e 5 (by omega), e 6 (by omega), e 7 (by omega), e 8 (by omega), e 9 (by omega), e 10 (by omega), e 11 (by omega), u 5 (by omega), u 6 (by omega), u 7 (by omega), u 8 (by omega), u 9 (by omega), u 11 (by omega)]
  · exact h.cl
  · exact h.m6
  · exact h.m7
  · exact h.m10
  · exact h.r5
  · exact h.r6
  · exact h.r7
  · exact h.r8
  · exact h.r9
  · exact h.r10
  · exact h.r11
theorem PG.call (h : PG B o O4 w2 L f w) (hL : L 5 = false) {C' : Array Value} (hF : Frm O4 w w') (hb : ∀ q, O4 q → q < w2.heap.size) (hp : PW B o C' w') : PG B o O4 w2 (setL L 5) (upd f 5 (.tuple #[.agg C', .bool o.isSome])) w' := by
  have l6 : L 6 = false := off fun k => by rw [h.m6 k] at hL; cases hL
  have l7 : L 7 = false := off fun k => by rw [h.m7 k] at l6; cases l6
  have l10 : L 10 = false := off fun k => by rw [(h.m10 k).1] at l7; cases l7
  have e : ∀ j, j ≠ 5 → setL L 5 j = L j := fun j hj => setL_ne L hj
  have u : ∀ j, j ≠ 5 → upd f 5 (.tuple #[.agg C', .bool o.isSome]) j = f j := fun j hj => upd_ne f _ hj
  have k9 : L 9 = true → ∃ g cs, f 9 = .pointer (some ⟨g, 0, none⟩) ∧ w2.heap.size ≤ g ∧ cs.size = 18 ∧ Blk w' g 33 cs := fun h9 => by
    obtain ⟨g, cs, e1, e2, e3, e4⟩ := h.r9 h9
    exact ⟨g, cs, e1, e2, e3, e4.kept hF fun hq => by have := hb g hq; omega⟩
  constructor
  · exact h.fr.trans' (hF.mono fun _ h => .inl h)
  all_goals simp only [setL_same, upd_same, e 6 (by omega), e 7 (by omega), e 8 (by omega), e 9 (by omega), e 10 (by omega), e 11 (by omega), u 6 (by omega), u 7 (by omega), u 8 (by omega), u 9 (by omega), u 11 (by omega), l6, l7, l10]
  · exact fun k => by cases k
  · exact fun k => by cases k
  · exact fun k => by cases k
  · exact fun k => by cases k
  · exact fun _ => ⟨C', rfl, hp⟩
  · exact fun k => by cases k
  · exact fun k => by cases k
  · exact h.r8
  · exact k9
  · exact fun k => by cases k
  · exact h.r11
theorem PG.mv (h : PG B o O4 w2 L f w) (hL : L 6 = false) (h5 : L 5 = true) {C' : Array Value} (hp : PW B o C' w) : PG B o O4 w2 (setL L 6) (upd f 6 (.tuple #[.agg C', .bool o.isSome])) w := by
  have l7 : L 7 = false := off fun k => by rw [h.m7 k] at hL; cases hL
  have l10 : L 10 = false := off fun k => by rw [(h.m10 k).1] at l7; cases l7
  have e : ∀ j, j ≠ 6 → setL L 6 j = L j := fun j hj => setL_ne L hj
  have u : ∀ j, j ≠ 6 → upd f 6 (.tuple #[.agg C', .bool o.isSome]) j = f j := fun j hj => upd_ne f _ hj
  constructor
  · exact h.fr
  all_goals simp only [setL_same, upd_same, e 5 (by omega), e 7 (by omega), e 8 (by omega), e 9 (by omega), e 10 (by omega), e 11 (by omega), u 5 (by omega), u 7 (by omega), u 8 (by omega), u 9 (by omega), u 11 (by omega), l7, l10]
  · exact h.cl
  · exact fun _ => h5
  · exact fun k => by cases k
  · exact fun k => by cases k
  · exact h.r5
  · exact fun _ => ⟨C', rfl, hp⟩
  · exact fun k => by cases k
  · exact h.r8
  · exact h.r9
  · exact fun k => by cases k
  · exact h.r11
theorem PG.ext0 (h : PG B o O4 w2 L f w) (hL : L 7 = false) (h6 : L 6 = true) {C' : Array Value} (hp : PW B o C' w) : PG B o O4 w2 (setL L 7) (upd f 7 (.agg C')) w := by
  have l10 : L 10 = false := off fun k => by rw [(h.m10 k).1] at hL; cases hL
  have e : ∀ j, j ≠ 7 → setL L 7 j = L j := fun j hj => setL_ne L hj
  have u : ∀ j, j ≠ 7 → upd f 7 (.agg C') j = f j := fun j hj => upd_ne f _ hj
  constructor
  · exact h.fr
  all_goals simp only [setL_same, upd_same, e 5 (by omega), e 6 (by omega), e 8 (by omega), e 9 (by omega), e 10 (by omega), e 11 (by omega), u 5 (by omega), u 6 (by omega), u 8 (by omega), u 9 (by omega), u 11 (by omega), l10]
  · exact h.cl
  · exact h.m6
  · exact fun _ => h6
  · exact fun k => by cases k
  · exact h.r5
  · exact h.r6
  · exact fun _ => ⟨C', rfl, hp⟩
  · exact h.r8
  · exact h.r9
  · exact fun k => by cases k
  · exact h.r11
theorem PG.ext1 (h : PG B o O4 w2 L f w) : PG B o O4 w2 (setL L 8) (upd f 8 (.bool o.isSome)) w := by
  have e : ∀ j, j ≠ 8 → setL L 8 j = L j := fun j hj => setL_ne L hj
  have u : ∀ j, j ≠ 8 → upd f 8 (.bool o.isSome) j = f j := fun j hj => upd_ne f _ hj
  constructor
  · exact h.fr
  all_goals simp only [setL_same, upd_same, e 5 (by omega), e 6 (by omega), e 7 (by omega), e 9 (by omega), e 10 (by omega), e 11 (by omega), u 5 (by omega), u 6 (by omega), u 7 (by omega), u 9 (by omega), u 11 (by omega)]
  · exact h.cl
  · exact h.m6
  · exact h.m7
  · exact h.m10
  · exact h.r5
  · exact h.r6
  · exact h.r7
  · exact fun _ => trivial
  · exact h.r9
  · exact h.r10
  · exact h.r11
theorem PG.asg (h : PG B o O4 w2 L f w) : PG B o O4 w2 (setL L 11) (upd f 11 (.bool o.isSome)) w := by
  have e : ∀ j, j ≠ 11 → setL L 11 j = L j := fun j hj => setL_ne L hj
  have u : ∀ j, j ≠ 11 → upd f 11 (.bool o.isSome) j = f j := fun j hj => upd_ne f _ hj
  constructor
  · exact h.fr
  all_goals simp only [setL_same, upd_same, e 5 (by omega), e 6 (by omega), e 7 (by omega), e 8 (by omega), e 9 (by omega), e 10 (by omega), u 5 (by omega), u 6 (by omega), u 7 (by omega), u 8 (by omega), u 9 (by omega)]
  · exact h.cl
  · exact h.m6
  · exact h.m7
  · exact h.m10
  · exact h.r5
  · exact h.r6
  · exact h.r7
  · exact h.r8
  · exact h.r9
  · exact h.r10
  · exact fun _ => trivial
theorem PG.alc (h : PG B o O4 w2 L f w) (hL : L 9 = false) (cs : Array Value) (hs : cs.size = 18) : PG B o O4 w2 (setL L 9) (upd f 9 (.pointer (some ⟨w.heap.size, 0, none⟩))) (w.alloc (.cells cs 33)) := by
  have hF : Frm (fun _ => False) w (w.alloc (.cells cs 33)) := (Frm.refl _ w).alloc _
  have l10 : L 10 = false := off fun k => by rw [(h.m10 k).2] at hL; cases hL
  have e : ∀ j, j ≠ 9 → setL L 9 j = L j := fun j hj => setL_ne L hj
  have u : ∀ j, j ≠ 9 → upd f 9 (.pointer (some ⟨w.heap.size, 0, none⟩)) j = f j := fun j hj => upd_ne f _ hj
  constructor
  · exact h.fr.trans' (hF.mono fun _ h => h.elim)
  all_goals simp only [setL_same, upd_same, e 5 (by omega), e 6 (by omega), e 7 (by omega), e 8 (by omega), e 10 (by omega), e 11 (by omega), u 5 (by omega), u 6 (by omega), u 7 (by omega), u 8 (by omega), u 11 (by omega), l10]
  · exact fun k => (h.cl k).trans' hF
  · exact h.m6
  · exact h.m7
  · exact fun k => by cases k
  · exact fun k => by obtain ⟨C', e1, e2⟩ := h.r5 k; exact ⟨C', e1, e2.kept hF⟩
  · exact fun k => by obtain ⟨C', e1, e2⟩ := h.r6 k; exact ⟨C', e1, e2.kept hF⟩
  · exact fun k => by obtain ⟨C', e1, e2⟩ := h.r7 k; exact ⟨C', e1, e2.kept hF⟩
  · exact h.r8
  · exact fun _ => ⟨_, cs, rfl, h.fr.size, hs, Blk.new w 33 cs⟩
  · exact fun k => by cases k
  · exact h.r11
theorem PG.put (h : PG B o O4 w2 L f w) (h7 : L 7 = true) (h9 : L 9 = true) {g : Nat} {C' cs : Array Value} (e9 : f 9 = .pointer (some ⟨g, 0, none⟩)) (hg : w2.heap.size ≤ g) (hb : Blk w g 33 cs) (hp : PW B o C' w) (v : Value) : PG B o O4 w2 (setL L 10) (upd f 10 v) (w.setRow g C') := by
  have e : ∀ j, j ≠ 10 → setL L 10 j = L j := fun j hj => setL_ne L hj
  have u : ∀ j, j ≠ 10 → upd f 10 v j = f j := fun j hj => upd_ne f _ hj
  have hF : Frm (fun q => q = g) w (w.setRow g C') := (Frm.refl (fun q => q = g) w).setRow (.inl rfl) _
  have h5 : L 5 = true := h.m6 (h.m7 h7)
  constructor
  · exact h.fr.trans hF fun q hq => .inr (by omega)
  all_goals simp only [setL_same, upd_same, e 5 (by omega), e 6 (by omega), e 7 (by omega), e 8 (by omega), e 9 (by omega), e 11 (by omega), u 5 (by omega), u 6 (by omega), u 7 (by omega), u 8 (by omega), u 9 (by omega), u 11 (by omega)]
  · exact fun k => by rw [h5] at k; cases k
  · exact h.m6
  · exact h.m7
  · exact fun _ => ⟨h7, h9⟩
  · exact fun k => by obtain ⟨D, e1, e2⟩ := h.r5 k; exact ⟨D, e1, e2.lay hb⟩
  · exact fun k => by obtain ⟨D, e1, e2⟩ := h.r6 k; exact ⟨D, e1, e2.lay hb⟩
  · exact fun k => by obtain ⟨D, e1, e2⟩ := h.r7 k; exact ⟨D, e1, e2.lay hb⟩
  · exact h.r8
  · exact fun _ => ⟨g, C', e9, hg, hp.1, hb.setRow _⟩
  · exact fun _ => ⟨g, C', e9, hg, hb.setRow _, hp.lay hb⟩
  · exact h.r11
end
end Go.Proofs.YtpcdbkaeijhmfaaGreatDoor
