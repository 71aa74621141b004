/- From a law's walk to its row: what is read, and that all reads as it did. -/
import Derived.Test.YtpcdbkaeijhmfaaDoorLib
import Derived.ProofKit
import Derived.Carry
import Derived.OpenShut
import Derived.Deep.Matrix
namespace Go.Proofs.YtpcdbkaeijhmfaaDoor
set_option maxRecDepth 100000
set_option linter.unusedVariables false
set_option linter.unusedSimpArgs false
open Go.ChangeShapes Go.WideShapes Go.ChangeAt Go.RowKit Go.Deep
section
variable {H : Type} {enc : TypeId × Value → H} {P : Program}
theorem trodAll_below (hl : laidOutB P = true) {W W' : World} (hB : Below W.heap.size W W') : ∀ {ts : List TypeId} {vs : List Value} {ds : List (DataW H)} {ps : List MemPlace}, ts.all (fun t => P.readableRec t && decide (t < P.types.size)) = true →
    DataW.TrodAll enc P W 0 (fun _ => true) true ts vs ds ps → (∀ x ∈ ps, x.block < W.heap.size) → DataW.TrodAll enc P W' 0 (fun b => decide (b < W.heap.size)) true ts vs ds ps
  | [], vs, ds, ps, _, h, _ => by
    obtain ⟨rfl, rfl, rfl⟩ := trodAll_nil h
    exact trodAll_mk0
  | t :: ts, vs, ds, ps, hr, h, hlt => by
    obtain ⟨v, vs', d, ds', p, q, rfl, rfl, rfl, h1, h2⟩ := trodAll_cons h
    simp only [List.all_cons, Bool.and_eq_true, decide_eq_true_eq] at hr
    exact trodAll_cons_mk (Below.trod hl hr.1.1 hr.1.2 h1 hB fun x hx => hlt x (List.mem_append.2 (.inl hx)))
      (trodAll_below hl hB (by simpa using hr.2) h2 fun x hx => hlt x (List.mem_append.2 (.inr hx)))
/-- A law that answers true, and turns nothing of what was there, meets its row. -/
theorem law_post {f : Func} {s : ChangeSpec} {W W' : World} {args : Array Value} {ds gs : List (DataW H)} {before : List MemPlace} {tb : TypeId}
    (hW : DataW.Whole enc P f.params.toList s.vars false W args.toList ds gs before) (hv : s.vars = []) (hl : laidOutB P = true) (hr : f.params.toList.all (fun t => P.readableRec t && decide (t < P.types.size)) = true)
    (hres : f.resultTypes = #[tb]) (hb : P.underlying tb = some .bool) (hfn : s.fn H (ds ++ []) = { results := [.lit (.bool true)], args := ds }) (hB : Below W.heap.size W W') :
    s.post enc P f false true false false W args (.bool true) W' := by
  have hW' := hW
  obtain ⟨p, q, hA, hV, rfl, hfz, hnd⟩ := hW
  rw [hv] at hV
  obtain ⟨rfl, rfl⟩ := trodVars_none hV
  refine ⟨ds, [], _, [], p, [], hW', ?_, ?_, ?_, hB.frame _, fun h => by cases h⟩
  · rw [hfn, hres]
    exact trodAll_cons_mk (shut_bool hb _) trodAll_mk0
  · rw [hfn]
    exact trodAll_below hl hB hr hA fun x hx => hW'.lt x (by simpa using hx)
  · rw [hfn, hv]
    rfl
theorem read_bool {W : World} {base : Nat} {t : TypeId} {v : Value} {d : DataW H} {p : List MemPlace} (ht : P.underlying t = some .bool) (hok : Value.okWide P W .any base t v) (h : DataW.Trod enc P W 0 (fun _ => true) true t v d p) : ∃ b, v = .bool b := by
  obtain ⟨b, rfl, _⟩ := open_bool ht hok h
  exact ⟨b, rfl⟩
theorem read_int {W : World} {base : Nat} {t : TypeId} {k : IntKind} {v : Value} {d : DataW H} {p : List MemPlace} (ht : P.underlying t = some (.int k)) (hok : Value.okWide P W .any base t v) (h : DataW.Trod enc P W 0 (fun _ => true) true t v d p) : ∃ a, v = .int k a ∧ (Lit.int k a).wf = true := by
  obtain ⟨a, rfl, _, _, w⟩ := open_int ht hok h
  exact ⟨a, rfl, w⟩
theorem i64_range {a : Int} (h : (Lit.int .i64 a).wf = true) : -9223372036854775808 ≤ a ∧ a ≤ 9223372036854775807 := by
  simpa [Lit.wf, IntKind.min, IntKind.max, IntKind.signed, IntKind.bits] using h
theorem u8_of {a : Int} (h : (Lit.int .u8 a).wf = true) : a = ((UInt8.ofNat a.toNat).toNat : Int) := by
  have : 0 ≤ a ∧ a ≤ 255 := by simpa [Lit.wf, IntKind.min, IntKind.max, IntKind.signed, IntKind.bits] using h
  simp
  omega
/-- A slice of integers. -/
theorem read_ints {W : World} {base : Nat} {t e : TypeId} {k : IntKind} {v : Value} {d : DataW H} {p : List MemPlace} (ht : P.underlying t = some (.slice e)) (he : P.underlying e = some (.int k)) (hc : P.cellsOf e = 1) (hok : Value.okWide P W .any base t v)
    (h : DataW.Trod enc P W 0 (fun _ => true) true t v d p) : ∃ qs : List Int, Sl W (fun k => k < W.heap.size) v (qs.map (Value.int k)) ∧ ∀ n ∈ qs, (Lit.int k n).wf = true := by
  obtain ⟨a0, len0, cap0, rfl⟩ := okWide_slice ht hok
  obtain ⟨fuel, hf⟩ := h
  rcases open_ints ht he hc hf with ⟨hcs, _⟩ | ⟨a, len, cap, zs, hcs, _, hl, hm, hz, _, hcell, hw⟩
  · simp [Value.cells] at hcs
    obtain ⟨rfl, rfl, rfl⟩ := hcs
    exact ⟨[], ⟨none, 0, 0, rfl, rfl, Nat.le_refl _, by omega, .inl rfl⟩, fun n hn => by cases hn⟩
  · simp [Value.cells] at hcs
    obtain ⟨rfl, rfl, rfl⟩ := hcs
    simp only [if_true] at hz
    refine ⟨zs.take len0, ⟨_, len0, cap0, rfl, by simp; omega, hl, hm, ?_⟩, fun n hn => hw n (List.mem_of_mem_take hn)⟩
    by_cases h0 : len0 = 0
    · exact .inl h0
    · obtain ⟨g, o, sp⟩ := a
      have hsp : sp = none := by simpa [Addr.add] using World.cell?_spot (hcell 0 (by omega))
      subst hsp
      refine .inr ⟨g, o, rfl, World.block_lt_of_cell? _ _ (by have := hcell 0 (by omega); simpa [Addr.add] using this), fun i hi => ?_⟩
      simp at hi
      have := hcell i (by omega)
      have e1 : (⟨g, o, none⟩ : Addr).add i = ⟨g, o + i, none⟩ := by unfold Addr.add; split <;> simp_all
      rw [e1] at this
      rw [this]
      simp [show i < zs.length by omega]
/-- A slice of bytes. -/
theorem read_bytes {W : World} {base : Nat} {t e : TypeId} {v : Value} {d : DataW H} {p : List MemPlace} (ht : P.underlying t = some (.slice e)) (he : P.underlying e = some (.int .u8)) (hc : P.cellsOf e = 1) (hok : Value.okWide P W .any base t v)
    (h : DataW.Trod enc P W 0 (fun _ => true) true t v d p) : ∃ l : List UInt8, Sl W (fun k => k < W.heap.size) v (bv l) := by
  obtain ⟨qs, h1, h2⟩ := read_ints ht he hc hok h
  refine ⟨qs.map fun n => UInt8.ofNat n.toNat, ?_⟩
  have e : qs.map (Value.int .u8) = bv (qs.map fun n => UInt8.ofNat n.toNat) := by
    simp only [bv, List.map_map]
    refine List.map_congr_left fun n hn => ?_
    have := u8_of (h2 n hn)
    simp only [Function.comp]
    rw [← this]
  rw [← e]
  exact h1
/-- A slice of byte slices. -/
theorem read_rows {W : World} {base : Nat} {t e q : TypeId} {v : Value} {d : DataW H} {p : List MemPlace} (ht : P.underlying t = some (.slice e)) (he : P.underlying e = some (.slice q)) (hq : P.underlying q = some (.int .u8)) (ce : P.cellsOf e = 1) (cq : P.cellsOf q = 1)
    (hok : Value.okWide P W .any base t v) (h : DataW.Trod enc P W 0 (fun _ => true) true t v d p) : ∃ vs L, Sl W (fun k => k < W.heap.size) v vs ∧ Each W (fun k => k < W.heap.size) vs L := by
  obtain ⟨a0, len0, cap0, rfl⟩ := okWide_slice ht hok
  obtain ⟨fuel, hf⟩ := h
  rcases open_int_rows ht he hq ce cq hf with ⟨hcs, _⟩ | ⟨a, len, cap, A, L, C, Z, hcs, _, hl, hm, _, hrow⟩
  · simp [Value.cells] at hcs
    obtain ⟨rfl, rfl, rfl⟩ := hcs
    exact ⟨[], [], ⟨none, 0, 0, rfl, rfl, Nat.le_refl _, by omega, .inl rfl⟩, rfl, fun i v l hv => by simp at hv⟩
  · simp [Value.cells] at hcs
    obtain ⟨rfl, rfl, rfl⟩ := hcs
    refine ⟨(List.range len0).map fun r => .slice (A r) (L r) (C r), (List.range len0).map fun r => ((Z r).take (L r)).map fun n => UInt8.ofNat n.toNat, ⟨_, len0, cap0, rfl, by simp, hl, hm, ?_⟩, by simp, fun i v l hv hl' => ?_⟩
    · by_cases h0 : len0 = 0
      · exact .inl h0
      · obtain ⟨g, o, sp⟩ := a
        have hsp : sp = none := by simpa [Addr.add] using World.cell?_spot (hrow 0 (by omega)).1
        subst hsp
        refine .inr ⟨g, o, rfl, World.block_lt_of_cell? _ _ (by have := (hrow 0 (by omega)).1; simpa [Addr.add] using this), fun i hi => ?_⟩
        simp at hi
        have := (hrow i (by omega)).1
        have e1 : (⟨g, o, none⟩ : Addr).add i = ⟨g, o + i, none⟩ := by unfold Addr.add; split <;> simp_all
        rw [e1] at this
        rw [this]
        simp
    · obtain ⟨hi, rfl⟩ := List.getElem?_eq_some_iff.1 hv
      obtain ⟨hi', rfl⟩ := List.getElem?_eq_some_iff.1 hl'
      simp at hi
      simp only [List.getElem_map, List.getElem_range]
      obtain ⟨_, r1, r2, r3, r4, r5, r6⟩ := hrow i (by omega)
      refine ⟨_, _, _, rfl, by simp; omega, r1, r2, ?_⟩
      by_cases h0 : L i = 0
      · exact .inl h0
      · right
        cases hA : A i with
        | none => exact absurd (r5 hA) (by omega)
        | some a' =>
          obtain ⟨_, hc⟩ := r6 a' hA
          obtain ⟨g, o, sp⟩ := a'
          have hsp : sp = none := by simpa [Addr.add] using World.cell?_spot (hc 0 (by omega))
          subst hsp
          refine ⟨g, o, rfl, World.block_lt_of_cell? _ _ (by have := hc 0 (by omega); simpa [Addr.add] using this), fun j hj => ?_⟩
          simp at hj
          have := hc j (by omega)
          have e1 : (⟨g, o, none⟩ : Addr).add j = ⟨g, o + j, none⟩ := by unfold Addr.add; split <;> simp_all
          rw [e1] at this
          rw [this]
          have hw := r4 ((Z i)[j]'(by omega)) (List.getElem_mem _)
          simp [bv, show j < (Z i).length by omega]
          have := u8_of hw
          simpa using this
end
end Go.Proofs.YtpcdbkaeijhmfaaDoor
