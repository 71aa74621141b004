/- Deeds of the queue, as an argument; the walk of small. -/
import Derived.Test.YtchhfhldpkaadaaRead
namespace Go.Proofs.Ytchhfhldpkaadaa
open Go.RowKit Go.ChangeShapes Go.WideShapes Go.Deep
/-- A slice of deeds: what is done, the slice of numbers, these. -/
def DAt (w : World) (A : Option Addr) (n c : Nat) (ds : List (Int × Value × List Int)) : Prop :=
  n = ds.length ∧ n ≤ c ∧ c ≤ 9223372036854775807 ∧ ∀ k (h : k < ds.length), ∃ ga o, A = some ⟨ga, o, none⟩ ∧ ga < w.heap.size ∧ w.cell? ⟨ga, o + k * 2, none⟩ = some (.int .i64 (ds[k]).1) ∧ w.cell? ⟨ga, o + k * 2 + 1, none⟩ = some (ds[k]).2.1 ∧
    Sl w (fun q => q < w.heap.size) (ds[k]).2.1 ((ds[k]).2.2.map iv) ∧ ∀ x ∈ (ds[k]).2.2, (Lit.int .i64 x).wf = true
theorem read_deeds {H : Type} {enc : TypeId × Value → H} {W : World} {base : Nat} {v : Value} {d : DataW H} {p : List MemPlace} (hok : Value.okWide Try.prog W .any base 22 v) (h : DataW.Trod enc Try.prog W 0 (fun _ => true) true 22 v d p) :
    ∃ A n c ds, v = .slice A n c ∧ DAt W A n c ds := by
  have r1 : Rdr enc Try.prog W 31 1 (RSl W 1 (RInt .i64)) := rdr_slice Try.underlying31 (by kernel_rfl) (by omega) (rdr_int Try.underlying3 (by kernel_rfl))
  have r2 : Rdr enc Try.prog W 35 2 (RCons (RInt .i64) (RCons (RSl W 1 (RInt .i64)) RNil)) :=
    rdr_struct Try.underlying35 (by kernel_rfl) (rf_cons (s := 1) (sz := 1) rfl rfl (rdr_int Try.underlying3 (by kernel_rfl)) (rf_cons (s := 1) (sz := 0) rfl rfl r1 rf_nil))
  have r3 := rdr_slice (W := W) (enc := enc) Try.underlying22 (by kernel_rfl) (by omega) r2
  obtain ⟨ys, h1, h2⟩ := rdr_slice_arg Try.underlying22 r3 hok h
  have hlen := flatMap_len ys fun y hy => (h2 y hy).1
  obtain ⟨A, n, c, rfl, hn, hc, hm, hx⟩ := h1
  refine ⟨A, n, c, ys.map fun y => (y.2.1, y.2.2.1.1, y.2.2.1.2.map (·.2)), rfl, by simp; omega, hc, hm, fun k hk => ?_⟩
  simp at hk
  obtain ⟨ga, o, rfl, hg, hcs⟩ := hx.resolve_left (by omega)
  obtain ⟨e1, c0, c1, e2, q0, c2, c3, e3, ⟨q1, q2, q3⟩, q4⟩ := h2 ys[k] (List.getElem_mem hk)
  have hat := fun j hj => flatMap_at ys (fun y hy => (h2 y hy).1) k j hk hj
  have hcc : ∀ j (hj : j < 2), w_cell W ga (o + k * 2 + j) = (ys[k].1)[j]? := fun j hj => by
    have := hat j hj
    rw [← this]
    have hlt : k * 2 + j < (ys.flatMap (·.1)).length := by rw [hlen]; omega
    show W.cell? ⟨ga, o + k * 2 + j, none⟩ = _
    rw [Nat.add_assoc, hcs _ hlt, List.getElem?_eq_getElem hlt]
  obtain ⟨rfl, hw⟩ := q0
  subst q1 e3
  have q4' : c3 = [] := q4
  subst q4'
  simp only [List.getElem_map]
  have hb0 := hcc 0 (by omega)
  have hb1 := hcc 1 (by omega)
  rw [e2] at hb0 hb1
  obtain ⟨s1, s2⟩ := sl_ints q2 q3
  exact ⟨ga, o, rfl, hg, by simpa [w_cell] using hb0, by simpa [w_cell] using hb1, s1, s2⟩
def smallB (ds : List (Int × Value × List Int)) : Bool := decide (∀ d ∈ ds, d.2.2.length ≤ 40) && decide (ds.length ≤ 80)
theorem small_any (A : Option Addr) (n c : Nat) (ds : List (Int × Value × List Int)) (w : World) (h : DAt w A n c ds) :
    Calls Try.prog 7 #[.slice A n c] w fun e w' => e = .returned (.bool (smallB ds)) ∧ w = w' := by
  obtain ⟨hn, hc, hm, hx⟩ := h
  have H := Lib.hid (And.intro hn hx)
  clear hn hx
  go_enter Try.func7, Try.ntmps7
  go_wp2_with fail
  go_loop [3] (fun i => ∃ k : Nat, k ≤ n ∧ i = .int .i64 k ∧ ∀ d ∈ ds.take k, d.2.2.length ≤ 40) (fun i => n - (intOf i).toNat)
  case atStart => exact ⟨0, Nat.zero_le _, rfl, by simp⟩
  case round =>
    obtain ⟨k, hk, rfl, hr⟩ := hrel
    by_cases hlt : k < n
    · obtain ⟨hn, hx⟩ := H.out
      have hkl : k < ds.length := by omega
      obtain ⟨ga, o, rfl, hga, d0, d1, hs, hw⟩ := hx k hkl
      have hts : ds.take (k + 1) = ds.take k ++ [ds[k]] := List.take_succ_eq_append_getElem hkl
      have hmem : ds[k] ∈ ds := List.getElem_mem hkl
      have HR := Lib.hid (And.intro hr (And.intro hts hmem))
      clear hx hn hw hr hts hmem d0
      generalize ds[k] = d at *
      obtain ⟨D, v, l⟩ := d
      obtain ⟨A', n', c', rfl, hn', _, _, _⟩ := id hs
      dsimp only at d1 hn'
      rw [List.length_map] at hn'
      clear hs hkl
      by_cases h40 : (40 : Int) < n'
      · have hf : smallB ds = false := by
          have : ¬ ∀ d ∈ ds, d.2.2.length ≤ 40 := fun h => by have := h _ HR.out.2.2; simp at this; omega
          unfold smallB; rw [decide_eq_false this, Bool.false_and]
        have Hf := Lib.hid hf
        clear hf
        go_wp2_with fail
        go_ret
        exact ⟨by rw [Hf.out]; rfl, rfl⟩
      · have Hn := Lib.hid hn'
        clear hn'
        go_wp2_with fail
        go_round
        case rel => exact ⟨k + 1, by omega, by go_num, by
          rw [HR.out.2.1]
          intro d hd
          rcases List.mem_append.1 hd with h | h
          · exact HR.out.1 d h
          · simp at h; subst h; have := Hn.out; simp; omega⟩
        case measure => simp [intOf]; omega
    · obtain rfl : k = n := by omega
      have hn := H.out.1
      have hf : smallB ds = decide ((k : Int) ≤ 80) := by
        rw [List.take_of_length_le (by omega)] at hr
        have h1 : decide (∀ d ∈ ds, d.2.2.length ≤ 40) = true := decide_eq_true hr
        unfold smallB
        rw [h1, Bool.true_and, decide_eq_decide]; omega
      have Hf := Lib.hid hf
      clear hf hn hr
      go_wp2_with fail
      go_ret
      exact ⟨by rw [Hf.out]; rfl, rfl⟩
end Go.Proofs.Ytchhfhldpkaadaa
