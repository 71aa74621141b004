/- Turns as an argument; turns that are too many. -/
import Derived.Test.YtfclpggbcmbcjaaRead
import Derived.Test.YtfclpggbcmbcjaaIn
namespace Go.Proofs.Ytfclpggbcmbcjaa
open Go.RowKit Go.ChangeShapes Go.WideShapes Go.Deep
/-- As TAt, of whatever lengths. -/
def TAr (w : World) (A : Option Addr) (m c : Nat) (ts : List (Value × List Int × Int)) : Prop :=
  m = ts.length ∧ m ≤ c ∧ c ≤ 9223372036854775807 ∧ ∀ i (h : i < ts.length), ∃ g o, A = some ⟨g, o, none⟩ ∧ g < w.heap.size ∧ w.cell? ⟨g, o + i * 2, none⟩ = some ts[i].1 ∧ w.cell? ⟨g, o + i * 2 + 1, none⟩ = some (.int .i64 ts[i].2.2) ∧
    Sl w (fun q => q < w.heap.size) ts[i].1 (ts[i].2.1.map iv) ∧ (∀ x ∈ ts[i].2.1, Wf x)
theorem TAr.small {w : World} {A : Option Addr} {m c : Nat} {ts : List (Value × List Int × Int)} (h : TAr w A m c ts) (hs : ∀ t ∈ ts, t.2.1.length ≤ 20) : TAt w A m c ts := by
  obtain ⟨h1, h2, h3, h4⟩ := h
  refine ⟨h1, h2, h3, fun i hi => ?_⟩
  obtain ⟨g, o, e, hg, d0, d1, hsl, hw⟩ := h4 i hi
  exact ⟨g, o, e, hg, d0, d1, hsl, hw, by have := hs _ (List.getElem_mem hi); omega⟩
theorem read_turns {H : Type} {enc : TypeId × Value → H} {W : World} {base : Nat} {v : Value} {d : DataW H} {p : List MemPlace} (hok : Value.okWide Try.prog W .any base 27 v) (h : DataW.Trod enc Try.prog W 0 (fun _ => true) true 27 v d p) :
    ∃ A n c ts, v = .slice A n c ∧ TAr W A n c ts := by
  have r1 : Rdr enc Try.prog W 25 1 (RSl W 1 (RInt .i64)) := rdr_slice Try.underlying25 (by kernel_rfl) (by omega) (rdr_int Try.underlying3 (by kernel_rfl))
  have r2 : Rdr enc Try.prog W 34 2 (RCons (RSl W 1 (RInt .i64)) (RCons (RInt .i64) RNil)) :=
    rdr_struct Try.underlying34 (by kernel_rfl) (rf_cons (s := 1) (sz := 1) rfl rfl r1 (rf_cons (s := 1) (sz := 0) rfl rfl (rdr_int Try.underlying3 (by kernel_rfl)) rf_nil))
  have r3 := rdr_slice (W := W) (enc := enc) Try.underlying27 (by kernel_rfl) (by omega) r2
  obtain ⟨ys, h1, h2⟩ := rdr_slice_arg Try.underlying27 r3 hok h
  have hlen := flatMap_len ys fun y hy => (h2 y hy).1
  obtain ⟨A, n, c, rfl, hn, hc, hm, hx⟩ := h1
  refine ⟨A, n, c, ys.map fun y => (y.2.1.1, y.2.1.2.map (·.2), y.2.2.1), rfl, by simp; omega, hc, hm, fun k hk => ?_⟩
  simp at hk
  obtain ⟨ga, o, rfl, hg, hcs⟩ := hx.resolve_left (by omega)
  obtain ⟨e1, c0, c1, e2, ⟨q1, q2, q3⟩, c2, c3, e3, q0, q4⟩ := h2 ys[k] (List.getElem_mem hk)
  have hat := fun j hj => flatMap_at ys (fun y hy => (h2 y hy).1) k j hk hj
  have hcc : ∀ j (hj : j < 2), w_cell W ga (o + k * 2 + j) = (ys[k].1)[j]? := fun j hj => by
    have := hat j hj
    rw [← this]
    have hlt : k * 2 + j < (ys.flatMap (·.1)).length := by rw [hlen]; omega
    show W.cell? ⟨ga, o + k * 2 + j, none⟩ = _
    rw [Nat.add_assoc, hcs _ hlt, List.getElem?_eq_getElem hlt]
  obtain ⟨q0, hw⟩ := q0
  subst q1 e3
  have q4' : c3 = [] := q4
  subst q4' q0
  simp only [List.getElem_map]
  have hb0 := hcc 0 (by omega)
  have hb1 := hcc 1 (by omega)
  rw [e2] at hb0 hb1
  obtain ⟨s1, s2⟩ := sl_ints q2 q3
  exact ⟨ga, o, rfl, hg, by simpa [w_cell] using hb0, by simpa [w_cell] using hb1, s1, s2⟩
def GreatPost (m : Nat) (ts : List (Value × List Int × Int)) (w : World) (e : Ending) (w' : World) : Prop :=
  ∃ b, e = .returned (.bool b) ∧ w = w' ∧ (b = false → m ≤ 80 ∧ ∀ t ∈ ts, t.2.1.length ≤ 20)
theorem great_any (A : Option Addr) (m c : Nat) (ts : List (Value × List Int × Int)) (w : World) (h : TAr w A m c ts) :
    Calls Try.prog 10 #[.slice A m c, .slice none 0 0] w (GreatPost m ts w) := by
  obtain ⟨hmt, hmc, hcm, hx⟩ := h
  have H := Lib.hid (And.intro hmt hx)
  clear hmt hx
  go_enter Try.func10, Try.ntmps10
  go_wp2_with fail
  go_loop [5] (fun i => ∃ k : Nat, k ≤ m ∧ k ≤ 81 ∧ i = .int .i64 k ∧ Hid (∀ t ∈ ts.take k, t.2.1.length ≤ 20)) (fun i => m - (intOf i).toNat)
  case atStart => exact ⟨0, Nat.zero_le _, by omega, rfl, Lib.hid (by simp)⟩
  case round =>
    obtain ⟨k, hk, hk81, rfl, hr⟩ := hrel
    by_cases hlt : k < m
    · by_cases h80 : k ≤ 80
      · have hd8 : decide ((k : Int) ≤ 80) = true := by simp; omega
        obtain ⟨hmt, hx⟩ := H.out
        have hkl : k < ts.length := by omega
        obtain ⟨g, o, rfl, hg, d0, d1, hsl, hwf⟩ := hx k hkl
        have hts : ts.take (k + 1) = ts.take k ++ [ts[k]] := List.take_succ_eq_append_getElem hkl
        have HR := Lib.hid hts
        clear hx hmt hwf hts d1
        generalize ts[k] = t at *
        obtain ⟨v, l, p⟩ := t
        obtain ⟨A', n', c', rfl, hn', -, -, -⟩ := id hsl
        dsimp only at d0 hn'
        rw [List.length_map] at hn'
        clear hsl hkl
        by_cases h20 : 20 < n'
        · have hd2 : decide ((20 : Int) < n') = true := by simp; omega
          have hd3 : decide (20 < n') = true := by simp; omega
          clear hn'
          go_wp2_with fail
          go_ret
          exact ⟨true, rfl, rfl, fun h => by cases h⟩
        · have hd2 : decide ((20 : Int) < n') = false := by simp; omega
          have hd3 : decide (20 < n') = false := by simp; omega
          have Hn := Lib.hid hn'
          clear hn'
          go_wp2_with fail
          go_round
          case rel => exact ⟨k + 1, by omega, by omega, by go_num, Lib.hid (by
            rw [HR.out]
            intro d hd
            rcases List.mem_append.1 hd with h | h
            · exact hr.out d h
            · simp at h; subst h; have := Hn.out; simp; omega)⟩
          case measure => simp [intOf]; omega
      · have hd8 : decide ((k : Int) ≤ 80) = false := by simp; omega
        have hm8 : decide (80 < m) = true := by simp; omega
        go_wp2_with fail
        go_loop [6] (fun i => i = .int .i64 0) (fun _ => 0)
        case atStart => rfl
        case round =>
          subst hrel
          go_wp2_with fail
          go_ret
          exact ⟨true, rfl, rfl, fun h => by cases h⟩
    · obtain rfl : k = m := by omega
      have hall : ∀ t ∈ ts, t.2.1.length ≤ 20 := by have := hr.out; rwa [List.take_of_length_le (by have := H.out.1; omega)] at this
      have HA := Lib.hid hall
      clear hall hr
      go_wp2_with fail
      go_loop [6] (fun i => i = .int .i64 0) (fun _ => 0)
      case atStart => rfl
      case round =>
        subst hrel
        by_cases h8 : 80 < k
        · have hm8 : decide (80 < k) = true := by simpa using h8
          go_wp2_with fail
          go_ret
          exact ⟨_, rfl, rfl, fun h => by first | cases h | (have := of_decide_eq_false h; omega)⟩
        · have hm8 : decide (80 < k) = false := by simpa using h8
          go_wp2_with fail
          go_ret
          exact ⟨_, rfl, rfl, fun _ => ⟨by omega, HA.out⟩⟩
end Go.Proofs.Ytfclpggbcmbcjaa
