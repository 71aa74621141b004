/- A slice of bools, as an argument. -/
import Derived.Test.YtgjkjcdohfccaaaLaw
import Derived.Deep.Grids
namespace Go.Proofs.Ytgjkjcdohfccaaa
open Go.RowKit Go.ChangeShapes Go.WideShapes Go.Deep
theorem read_bools {H : Type} {enc : TypeId × Value → H} {P : Program} {W : World} {base : Nat} {t e : TypeId} {v : Value} {d : DataW H} {p : List MemPlace} (ht : P.underlying t = some (.slice e)) (he : P.underlying e = some .bool) (hc : P.cellsOf e = 1) (hok : Value.okWide P W .any base t v)
    (h : DataW.Trod enc P W 0 (fun _ => true) true t v d p) : ∃ qs : List Bool, Sl W (fun k => k < W.heap.size) v (qs.map Value.bool) := by
  obtain ⟨a0, len0, cap0, rfl⟩ := okWide_slice ht hok
  obtain ⟨fuel, hf⟩ := h
  rcases open_bools ht he hc hf with ⟨hcs, _⟩ | ⟨a, len, cap, B, hcs, _, hl, hm, _, hcell⟩
  · simp [Value.cells] at hcs
    obtain ⟨rfl, rfl, rfl⟩ := hcs
    exact ⟨[], none, 0, 0, rfl, rfl, Nat.le_refl _, by omega, .inl rfl⟩
  · simp [Value.cells] at hcs
    obtain ⟨rfl, rfl, rfl⟩ := hcs
    refine ⟨(List.range len0).map B, _, len0, cap0, rfl, by simp, hl, hm, ?_⟩
    by_cases h0 : len0 = 0
    · exact .inl h0
    · obtain ⟨g, o, sp⟩ := a
      have hsp : sp = none := by simpa [Addr.add] using World.cell?_spot (hcell 0 (by omega))
      subst hsp
      refine .inr ⟨g, o, rfl, World.block_lt_of_cell? _ _ (by have := hcell 0 (by omega); simpa [Addr.add] using this), fun i hi => ?_⟩
      simp at hi
      have := hcell i (by omega)
      have e1 : (⟨g, o, none⟩ : Addr).add i = ⟨g, o + i, none⟩ := by unfold Addr.add; split <;> simp_all
      rw [e1] at this
      rw [this]
      simp
end Go.Proofs.Ytgjkjcdohfccaaa
