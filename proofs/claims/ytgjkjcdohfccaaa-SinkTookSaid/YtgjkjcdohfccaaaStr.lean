/- A slice of structs of ints, as an argument. -/
import Derived.Test.YtgjkjcdohfccaaaLaw
import Derived.Deep.Slices
import Derived.Deep.Fields
import Derived.ChangeSame
namespace Go.Proofs.Ytgjkjcdohfccaaa
open Go.RowKit Go.ChangeShapes Go.WideShapes Go.Deep
/-- Of one struct that is read: each field's cell holds an int. -/
theorem struct_ints {H : Type} {enc : TypeId × Value → H} {P : Program} {W : World} {base : Nat} {spare : Nat → Bool} {held : Bool} {e : TypeId} {fs : Array Field} {fuel n : Nat} {cs : List Value} {x : DataW H × List MemPlace} {a : Addr}
    (he : P.underlying e = some (.struct fs)) (hone : oneCellFields P fs = true) (hint : ∀ (j : Nat) (f : Field), fs[j]? = some f → P.underlying f.type = some (.int .i64))
    (hc : W.cells? base a n = some cs) (hn : n = fs.size) (h : DataW.trod enc P W base spare held fuel e cs = some x) (j : Nat) (hj : j < fs.size) :
    ∃ z : Int, W.cell? (a.add j) = some (.int .i64 z) ∧ (Lit.int .i64 z).wf = true := by
  obtain ⟨ys, m, _, _, _, hlen, hq⟩ := DataW.trod_struct he h
  have hfj := Array.getElem?_eq_getElem hj
  obtain ⟨o1, o2⟩ := hone_of hone j fs[j] hfj
  have ht := hq j fs[j] hfj
  rw [o1, o2, List.getElem?_eq_getElem (by omega)] at ht
  obtain ⟨z, hz, _, hw⟩ := DataW.trod_int (hint j _ hfj) ht
  refine ⟨z, ?_, hw⟩
  rw [(World.cells?_some hc).2.2 j (by omega)]
  have := congrArg (fun l => l[0]?) hz
  simpa using this
def flatI (ds : List (List Int)) : List Value := ds.flatMap fun d => d.map iv
theorem flatI_cons (d : List Int) (ds : List (List Int)) : flatI (d :: ds) = d.map iv ++ flatI ds := rfl
theorem flatI_length {q : Nat} (ds : List (List Int)) (h : ∀ d ∈ ds, d.length = q) : (flatI ds).length = ds.length * q := by
  induction ds with
  | nil => simp [flatI]
  | cons d ds ih => rw [flatI_cons, List.length_append, ih fun e he => h e (by simp [he]), List.length_map, h d (by simp), List.length_cons, Nat.add_mul]; omega
theorem flatI_at {q : Nat} (ds : List (List Int)) (h : ∀ d ∈ ds, d.length = q) (k j : Nat) (hk : k < ds.length) (hj : j < q) : (flatI ds)[k * q + j]? = some (iv (ds[k].getD j 0)) := by
  induction ds generalizing k with
  | nil => simp at hk
  | cons d ds ih =>
    have hd := h d (by simp)
    rw [flatI_cons]
    cases k with
    | zero =>
      rw [List.getElem?_append_left (by simp; omega)]
      simp [hd, hj]
    | succ k =>
      rw [List.getElem?_append_right (by rw [List.length_map, hd, Nat.add_mul]; omega), List.length_map, hd]
      rw [show (k + 1) * q + j - q = k * q + j from by rw [Nat.add_mul]; omega]
      exact ih (fun e he => h e (by simp [he])) k (by simpa using hk)
theorem flatI_one (ds : List (List Int)) : ∀ u ∈ flatI ds, u.oneCell' = true := by
  intro u hu
  simp [flatI] at hu
  obtain ⟨d, _, x, _, rfl⟩ := hu
  rfl
section
variable {H : Type} {enc : TypeId × Value → H} {P : Program}
/-- A slice of structs all of whose fields are ints. -/
theorem read_int_structs {W : World} {base : Nat} {t e : TypeId} {fs : Array Field} {v : Value} {d : DataW H} {p : List MemPlace} (ht : P.underlying t = some (.slice e)) (he : P.underlying e = some (.struct fs)) (hone : oneCellFields P fs = true) (hC : P.cellsOf e = fs.size) (hpos : fs.size ≠ 0)
    (hint : ∀ (j : Nat) (f : Field), fs[j]? = some f → P.underlying f.type = some (.int .i64)) (hok : Value.okWide P W .any base t v) (h : DataW.Trod enc P W 0 (fun _ => true) true t v d p) :
    ∃ ds : List (List Int), (∀ d ∈ ds, d.length = fs.size ∧ ∀ x ∈ d, (Lit.int .i64 x).wf = true) ∧ SlZ W (fun k => k < W.heap.size) fs.size v (flatI ds) := by
  obtain ⟨a0, len0, cap0, rfl⟩ := okWide_slice ht hok
  obtain ⟨fuel, hf⟩ := h
  rcases open_slice ht hf with ⟨hcs, _⟩ | ⟨a, len, cap, m, n, D, Pl, hcs, _, hl, hm, hmm, _, hrow⟩
  · simp [Value.cells] at hcs
    obtain ⟨rfl, rfl, rfl⟩ := hcs
    exact ⟨[], by simp, SlZ.nil _ _ _⟩
  · simp [Value.cells] at hcs
    obtain ⟨rfl, rfl, rfl⟩ := hcs
    simp only [if_true] at hmm
    subst hmm
    rw [hC] at hrow
    have hcell : ∀ i j, i < len0 → j < fs.size → ∃ x : Int, W.cell? (a.add (i * fs.size + j)) = some (.int .i64 x) ∧ (Lit.int .i64 x).wf = true := fun i j hi hj => by
      obtain ⟨cs, hc, htr⟩ := hrow i (by omega)
      have := struct_ints he hone hint hc rfl htr j hj
      rwa [show ((a.add (i * fs.size)).add j) = a.add (i * fs.size + j) from by unfold Addr.add; split <;> split <;> simp_all [Nat.add_assoc]] at this
    let X : Nat → Nat → Int := fun i j => match W.cell? (a.add (i * fs.size + j)) with | some (.int _ z) => z | _ => 0
    have hX : ∀ i j, i < len0 → j < fs.size → W.cell? (a.add (i * fs.size + j)) = some (.int .i64 (X i j)) ∧ (Lit.int .i64 (X i j)).wf = true := fun i j hi hj => by
      obtain ⟨x, hc, hw⟩ := hcell i j hi hj
      have hxx : X i j = x := by show (match W.cell? (a.add (i * fs.size + j)) with | some (.int _ z) => z | _ => 0) = x; rw [hc]
      rw [hxx]; exact ⟨hc, hw⟩
    have hlen : ∀ d ∈ (List.range len0).map (fun i => (List.range fs.size).map (X i)), d.length = fs.size := fun d hd => by
      obtain ⟨i, _, rfl⟩ := List.mem_map.1 hd; simp
    refine ⟨(List.range len0).map fun i => (List.range fs.size).map (X i), fun d hd => ⟨hlen d hd, fun x hx => ?_⟩, ⟨_, len0, _, rfl, by rw [flatI_length _ hlen]; simp, hl, hm, ?_⟩⟩
    · obtain ⟨i, hi, rfl⟩ := List.mem_map.1 hd
      obtain ⟨j, hj, rfl⟩ := List.mem_map.1 hx
      exact (hX i j (List.mem_range.1 hi) (List.mem_range.1 hj)).2
    · by_cases h0 : len0 = 0
      · exact .inl h0
      · by_cases hs0 : fs.size = 0
        · exact absurd hs0 hpos
        · obtain ⟨g, o, sp⟩ := a
          have hc0 := (hX 0 0 (by omega) (by omega)).1
          have hsp : sp = none := by simpa [Addr.add] using World.cell?_spot hc0
          subst hsp
          have e1 : ∀ i, (⟨g, o, none⟩ : Addr).add i = ⟨g, o + i, none⟩ := fun i => by unfold Addr.add; split <;> simp_all
          refine .inr ⟨g, o, rfl, World.block_lt_of_cell? _ _ (by rw [e1] at hc0; exact hc0), fun i hi => ?_⟩
          rw [flatI_length _ hlen] at hi
          simp only [List.length_map, List.length_range] at hi
          have hq : 0 < fs.size := by omega
          have hdm := Nat.div_add_mod i fs.size
          have hd1 : i / fs.size < len0 := Nat.div_lt_of_lt_mul (by rw [Nat.mul_comm]; exact hi)
          have hd2 : i % fs.size < fs.size := Nat.mod_lt _ hq
          have hc := (hX _ _ hd1 hd2).1
          rw [e1, Nat.mul_comm, hdm] at hc
          rw [hc]
          have hf := flatI_at _ hlen (i / fs.size) (i % fs.size) (by simpa using hd1) hd2
          rw [Nat.mul_comm, hdm] at hf
          obtain ⟨hp, hq2⟩ := List.getElem?_eq_some_iff.1 hf
          rw [hq2]
          simp [hd2, iv]
end
end Go.Proofs.Ytgjkjcdohfccaaa
