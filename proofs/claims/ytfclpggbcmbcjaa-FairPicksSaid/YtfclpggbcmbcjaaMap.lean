/- A map from numbers to numbers, made by the call: what it holds, as a function. -/
import Derived.Test.YtfclpggbcmbcjaaLib
import Derived.Maps.OwnSet
import Derived.Maps.OwnOps
namespace Go.Proofs.Ytfclpggbcmbcjaa
open Go.RowKit Go.Maps
theorem lawM : Keyed Try.prog 3 := int_keyed Try.underlying3
def i0 : DataW Unit := .lit (.int .i64 0)
def Wf (x : Int) : Prop := (Lit.int .i64 x).wf = true
/-- The map at block b holds f; n stores at most were made. -/
def MapF (w : World) (b n : Nat) (f : Int → Int) : Prop :=
  ∃ D : DataW Unit, w.ownsMap Try.prog 3 (plainElem (H := Unit) Try.prog 3) b n D ∧ ∀ x, Wf x → D.atKey (.int .i64 x) i0 = .lit (.int .i64 (f x))
def upd (f : Int → Int) (x v : Int) : Int → Int := fun y => if y = x then v else f y
theorem zeroI (w : World) : (zeroValue 3).run Try.prog w = .ok (.int .i64 0) w := by kernel_rfl
theorem MapF.new (w : World) : MapF (w.alloc (.map #[] 0)) w.heap.size 0 (fun _ => 0) :=
  ⟨.map [], World.ownsMap_made w Try.prog 3 (plainElem (H := Unit) Try.prog 3), fun _ _ => rfl⟩
theorem MapF.lt {w : World} {b n : Nat} {f : Int → Int} (h : MapF w b n f) : b < w.heap.size := by
  obtain ⟨D, h, _⟩ := h
  exact h.lt
theorem MapF.kept {w w' : World} {K : Nat → Prop} {b n : Nat} {f : Int → Int} (h : MapF w b n f) (hF : Frm K w w') (hb : ¬ K b) : MapF w' b n f := by
  obtain ⟨D, ⟨es, clock, h1, h2⟩, hx⟩ := h
  exact ⟨D, ⟨es, clock, (hF.block b (Array.getElem?_eq_some_iff.1 h1).1 hb).trans h1, h2⟩, hx⟩
theorem MapF.look {w : World} {b n : Nat} {f : Int → Int} (h : MapF w b n f) {x : Int} (hx : Wf x) : (Instr.lookup 52 (.map (some b)) (.int .i64 x) false).run Try.prog w = .ok (.int .i64 (f x)) w := by
  obtain ⟨D, h, hat⟩ := h
  obtain ⟨c, hr, ha, _⟩ := h.lookup_int lawM Try.underlying52 Try.underlying3 (zeroI w) (keyOf_int_mk Try.underlying3 hx)
  have := hat x hx
  unfold i0 at this
  rw [ha] at this
  cases this
  exact hr
theorem MapF.put {w : World} {b n : Nat} {f : Int → Int} (h : MapF w b n f) (hn : n ≤ 1000000) {x v : Int} (hx : Wf x) (hv : Wf v) :
    ∃ w', (Instr.mapUpdate 52 (.map (some b)) (.int .i64 x) (.int .i64 v)).run Try.prog w = .ok () w' ∧ MapF w' b (n + 1) (upd f x v) ∧ Frm (fun k => k = b) w w' := by
  obtain ⟨D, h, hat⟩ := h
  obtain ⟨w', hr, ho, hg⟩ := h.update lawM Try.underlying52 (by unfold maxLen; omega) (keyOf_int_mk Try.underlying3 hx) (val := .int .i64 v) (plainElem_int Try.underlying3 hv)
  refine ⟨w', hr, ⟨_, ho, fun y hy => ?_⟩, (Frm.refl _ w).grown hg fun k hk => .inl (by cases hk; rfl)⟩
  unfold upd
  by_cases hyx : y = x
  · subst hyx
    rw [if_pos rfl]
    exact atKey_put_same h.isMap (by trivial) _ _
  · rw [if_neg hyx, ← hat y hy]
    exact atKey_put_other (by simpa using hyx) _ _
end Go.Proofs.Ytfclpggbcmbcjaa
