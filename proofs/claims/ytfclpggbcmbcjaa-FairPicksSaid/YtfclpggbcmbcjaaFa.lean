/- Least, greatest, round: what they come to, and the walks. -/
import Derived.Test.YtfclpggbcmbcjaaLib
namespace Go.Proofs.Ytfclpggbcmbcjaa
open Go.RowKit
def minL : List Int → Int
  | [] => 0
  | x :: t => t.foldl min x
def maxL : List Int → Int
  | [] => 0
  | x :: t => t.foldl max x
theorem minL_snoc (l : List Int) (x : Int) (h : l ≠ []) : minL (l ++ [x]) = min (minL l) x := by
  cases l with
  | nil => exact absurd rfl h
  | cons y t => simp [minL]
theorem maxL_snoc (l : List Int) (x : Int) (h : l ≠ []) : maxL (l ++ [x]) = max (maxL l) x := by
  cases l with
  | nil => exact absurd rfl h
  | cons y t => simp [maxL]
/-- The least number above z, so far. -/
def stepR (z : Int) (a : Option Int) (n : Int) : Option Int := if z < n ∧ (a.isSome = false ∨ n < a.getD 0) then some n else a
def aboveL (z : Int) (l : List Int) : Option Int := l.foldl (stepR z) none
def roundL (z : Int) (l : List Int) : Int := (aboveL z l).getD (minL l)
theorem aboveL_snoc (z : Int) (l : List Int) (x : Int) : aboveL z (l ++ [x]) = stepR z (aboveL z l) x := by simp [aboveL]
def ValPost (x : Int) (w : World) (e : Ending) (w' : World) : Prop := e = .returned (.int .i64 x) ∧ w = w'
set_option maxHeartbeats 400000 in
theorem min_any (v : Value) (K : Nat → Prop) (l : List Int) (hl0 : l ≠ []) (w : World) (h : Sl w K v (l.map iv)) :
    Calls Try.prog 20 #[v] w (ValPost (minL l) w) := by
  obtain ⟨A, n, c, rfl, hn, hc, hm, hx⟩ := h
  rw [List.length_map] at hn
  have hpos : 0 < l.length := List.length_pos_iff.2 hl0
  obtain ⟨g, o, rfl, _, hx⟩ := hx.resolve_left (by omega)
  have c0 : w.cell? ⟨g, o, none⟩ = some (.int .i64 l[0]) := by have := hx 0 (by simpa using hpos); simpa [iv] using this
  have H := Lib.hid (And.intro hn hx)
  have hn1 : 1 ≤ n := by omega
  have hnn : decide (n < 1) = false := by simp; omega
  have HS : Hid (∃ m0, m0 = minL (l.take 1) ∧ m0 = l[0]) := Lib.hid (by
    cases l with
    | nil => exact absurd rfl hl0
    | cons y t => exact ⟨y, by simp [minL], rfl⟩)
  clear hn hx
  generalize l[0] = y at *
  go_enter Try.func20, Try.ntmps20
  go_wp2_with fail
  go_loop [3, 4] (fun m i => ∃ k : Nat, 1 ≤ k ∧ k ≤ n ∧ i = .int .i64 k ∧ m = .int .i64 (minL (l.take k))) (fun _ i => n - (intOf i).toNat)
  case atStart => obtain ⟨m0, e1, e2⟩ := HS.out; exact ⟨1, by omega, by omega, rfl, by rw [← e1, e2]⟩
  case round =>
    obtain ⟨k, hk1, hk, rfl, rfl⟩ := hrel
    by_cases hlt : k < n
    · obtain ⟨hn, hx⟩ := H.out
      have hkx : k < l.length := by omega
      have c1 : w.cell? ⟨g, o + k, none⟩ = some (.int .i64 l[k]) := by rw [hx k (by simpa using hkx)]; simp [iv]
      have e1 : minL (l.take (k + 1)) = min (minL (l.take k)) l[k] := by rw [List.take_succ_eq_append_getElem hkx, minL_snoc _ _ (by intro h; rcases List.take_eq_nil_iff.1 h with h | h; omega; exact hl0 h)]
      have E1 := Lib.hid e1
      clear hx hn e1
      generalize l[k] = x at *
      generalize minL (l.take k) = m at *
      go_wp2_with fail
      go_round
      case rel => exact ⟨k + 1, by omega, by omega, by go_num, by rw [E1.out]; congr 1; split <;> omega⟩
      case measure => simp [intOf]; omega
    · obtain rfl : k = n := by omega
      have e : minL (l.take k) = minL l := by obtain ⟨hn, _⟩ := H.out; rw [List.take_of_length_le (by omega)]
      rw [e]
      go_wp2_with fail
      go_ret
      exact ⟨rfl, rfl⟩
set_option maxHeartbeats 400000 in
theorem max_any (v : Value) (K : Nat → Prop) (l : List Int) (hl0 : l ≠ []) (w : World) (h : Sl w K v (l.map iv)) :
    Calls Try.prog 21 #[v] w (ValPost (maxL l) w) := by
  obtain ⟨A, n, c, rfl, hn, hc, hm, hx⟩ := h
  rw [List.length_map] at hn
  have hpos : 0 < l.length := List.length_pos_iff.2 hl0
  obtain ⟨g, o, rfl, _, hx⟩ := hx.resolve_left (by omega)
  have c0 : w.cell? ⟨g, o, none⟩ = some (.int .i64 l[0]) := by have := hx 0 (by simpa using hpos); simpa [iv] using this
  have H := Lib.hid (And.intro hn hx)
  have hn1 : 1 ≤ n := by omega
  have hnn : decide (n < 1) = false := by simp; omega
  have HS : Hid (∃ m0, m0 = maxL (l.take 1) ∧ m0 = l[0]) := Lib.hid (by
    cases l with
    | nil => exact absurd rfl hl0
    | cons y t => exact ⟨y, by simp [maxL], rfl⟩)
  clear hn hx
  generalize l[0] = y at *
  go_enter Try.func21, Try.ntmps21
  go_wp2_with fail
  go_loop [3, 4] (fun m i => ∃ k : Nat, 1 ≤ k ∧ k ≤ n ∧ i = .int .i64 k ∧ m = .int .i64 (maxL (l.take k))) (fun _ i => n - (intOf i).toNat)
  case atStart => obtain ⟨m0, e1, e2⟩ := HS.out; exact ⟨1, by omega, by omega, rfl, by rw [← e1, e2]⟩
  case round =>
    obtain ⟨k, hk1, hk, rfl, rfl⟩ := hrel
    by_cases hlt : k < n
    · obtain ⟨hn, hx⟩ := H.out
      have hkx : k < l.length := by omega
      have c1 : w.cell? ⟨g, o + k, none⟩ = some (.int .i64 l[k]) := by rw [hx k (by simpa using hkx)]; simp [iv]
      have e1 : maxL (l.take (k + 1)) = max (maxL (l.take k)) l[k] := by rw [List.take_succ_eq_append_getElem hkx, maxL_snoc _ _ (by intro h; rcases List.take_eq_nil_iff.1 h with h | h; omega; exact hl0 h)]
      have E1 := Lib.hid e1
      clear hx hn e1
      generalize l[k] = x at *
      generalize maxL (l.take k) = m at *
      go_wp2_with fail
      go_round
      case rel => exact ⟨k + 1, by omega, by omega, by go_num, by rw [E1.out]; congr 1; split <;> omega⟩
      case measure => simp [intOf]; omega
    · obtain rfl : k = n := by omega
      have e : maxL (l.take k) = maxL l := by obtain ⟨hn, _⟩ := H.out; rw [List.take_of_length_le (by omega)]
      rw [e]
      go_wp2_with fail
      go_ret
      exact ⟨rfl, rfl⟩
set_option maxHeartbeats 800000 in
theorem round_any (b : Nat) (v : Value) (K : Nat → Prop) (l : List Int) (hl0 : l ≠ []) (z : Int) (w : World) (h : Sl w K v (l.map iv)) (hb : w.cell? ⟨b, 2, none⟩ = some (.int .i64 z)) :
    Calls Try.prog 22 #[.pointer (some ⟨b, 0, none⟩), v] w (ValPost (roundL z l) w) := by
  have hmin := min_any v K l hl0 w h
  obtain ⟨A, n, c, rfl, hn, hc, hm, hx⟩ := h
  rw [List.length_map] at hn
  have hpos : 0 < l.length := List.length_pos_iff.2 hl0
  obtain ⟨g, o, rfl, _, hx⟩ := hx.resolve_left (by omega)
  have H := Lib.hid (And.intro hn hx)
  have Hm := Lib.hid hmin
  have hn1 : 1 ≤ n := by omega
  clear hn hx hmin
  go_enter Try.func22, Try.ntmps22
  go_wp2_with fail
  refine Hm.out.mono ?_
  rintro e w' ⟨rfl, rfl⟩
  have HM : Hid (∃ m, m = minL l) := ⟨_, rfl⟩
  obtain ⟨m, hm0⟩ := HM.out
  rw [← hm0]
  have Hm0 := Lib.hid hm0
  clear hm0 HM Hm
  go_wp2_with fail
  go_loop [6, 7, 14] (fun a f i => ∃ k : Nat, k ≤ n ∧ i = .int .i64 k ∧ a = .int .i64 ((aboveL z (l.take k)).getD 0) ∧ f = .bool (aboveL z (l.take k)).isSome) (fun _ _ i => n - (intOf i).toNat)
  case atStart => exact ⟨0, by omega, rfl, rfl, rfl⟩
  case round =>
    obtain ⟨k, hk, rfl, rfl, rfl⟩ := hrel
    by_cases hlt : k < n
    · obtain ⟨hn, hx⟩ := H.out
      have hkx : k < l.length := by omega
      have c1 : w.cell? ⟨g, o + k, none⟩ = some (.int .i64 l[k]) := by rw [hx k (by simpa using hkx)]; simp [iv]
      have e1 : aboveL z (l.take (k + 1)) = stepR z (aboveL z (l.take k)) l[k] := by rw [List.take_succ_eq_append_getElem hkx, aboveL_snoc]
      have E1 := Lib.hid e1
      clear hx hn e1
      generalize l[k] = x at *
      generalize aboveL z (l.take k) = a at *
      by_cases h1 : z < x
      · have hd : decide (z < x) = true := by simpa using h1
        have Hd := Lib.hid h1
        clear h1
        cases a with
        | none =>
          go_wp2_with fail
          go_round
          case rel => exact ⟨k + 1, by omega, by go_num, by rw [E1.out, stepR, if_pos ⟨Hd.out, .inl rfl⟩]; rfl, by rw [E1.out, stepR, if_pos ⟨Hd.out, .inl rfl⟩]; rfl⟩
          case measure => simp [intOf]; omega
        | some y =>
          by_cases h2 : x < y
          · have hd2 : decide (x < y) = true := by simpa using h2
            have Hd2 := Lib.hid h2
            clear h2
            go_wp2_with fail
            go_round
            case rel => exact ⟨k + 1, by omega, by go_num, by rw [E1.out, stepR, if_pos ⟨Hd.out, .inr Hd2.out⟩]; rfl, by rw [E1.out, stepR, if_pos ⟨Hd.out, .inr Hd2.out⟩]; rfl⟩
            case measure => simp [intOf]; omega
          · have hd2 : decide (x < y) = false := by simpa using h2
            have e2 : stepR z (some y) x = some y := if_neg (by rintro ⟨_, h | h⟩; cases h; exact h2 h)
            have E2 := Lib.hid e2
            clear h2 e2
            go_wp2_with fail
            go_round
            case rel => exact ⟨k + 1, by omega, by go_num, by rw [E1.out, E2.out], by rw [E1.out, E2.out]⟩
            case measure => simp [intOf]; omega
      · have hd : decide (z < x) = false := by simpa using h1
        have e2 : stepR z a x = a := if_neg (by rintro ⟨h, _⟩; exact h1 h)
        have E2 := Lib.hid e2
        clear h1 e2
        go_wp2_with fail
        go_round
        case rel => exact ⟨k + 1, by omega, by go_num, by rw [E1.out, E2.out], by rw [E1.out, E2.out]⟩
        case measure => simp [intOf]; omega
    · obtain rfl : k = n := by omega
      have e : aboveL z (l.take k) = aboveL z l := by obtain ⟨hn, _⟩ := H.out; rw [List.take_of_length_le (by omega)]
      rw [e]
      have e3 : roundL z l = (aboveL z l).getD m := by rw [Hm0.out]; rfl
      have E3 := Lib.hid e3
      clear e e3
      generalize aboveL z l = a at *
      cases a with
      | none =>
        go_wp2_with fail
        go_ret
        exact ⟨by rw [E3.out]; rfl, rfl⟩
      | some y =>
        go_wp2_with fail
        go_ret
        exact ⟨by rw [E3.out]; rfl, rfl⟩
end Go.Proofs.Ytfclpggbcmbcjaa
