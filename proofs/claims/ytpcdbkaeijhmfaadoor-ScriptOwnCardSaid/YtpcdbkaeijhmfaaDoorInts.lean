/- The walk of teaselref01.Ints. -/
import Derived.Test.YtpcdbkaeijhmfaaDoorLib
namespace Go.Proofs.YtpcdbkaeijhmfaaDoor
set_option maxRecDepth 100000
set_option linter.unusedVariables false
set_option linter.unusedSimpArgs false
open Go.RowKit
def IntsPost (xs ys : List Int) (w : World) (e : Ending) (w' : World) : Prop := e = .returned (.bool (decide (xs = ys))) ∧ ∃ k, w' = w.drewN k
set_option maxHeartbeats 400000 in
theorem ints_any (v u : Value) (K K' : Nat → Prop) (xs ys : List Int) (w : World) (h : Sl w K v (xs.map iv)) (h' : Sl w K' u (ys.map iv)) :
    Calls Tryd.prog 32 #[v, u] w (IntsPost xs ys w) := by
  obtain ⟨A, n, c, rfl, hn, hc, hm, hx⟩ := h
  obtain ⟨B, m, d, rfl, hn', hc', hm', hx'⟩ := h'
  rw [List.length_map] at hn hn'
  by_cases hnm : n = m
  · subst hnm
    have hd : decide (n = n) = true := by simp
    have H := Lib.hid (And.intro hn (And.intro hn' (And.intro hx hx')))
    clear hn hn' hx hx'
    go_enter Tryd.func32, Tryd.ntmps32
    go_wp2_with fail
    go_loopw [5] (fun i wr => ∃ k q : Nat, k ≤ n ∧ i = .int .i64 k ∧ xs.take k = ys.take k ∧ wr = w.drewN q) (fun i _ => n - (intOf i).toNat)
    case atStart => exact ⟨0, 0, Nat.zero_le _, rfl, by simp, rfl⟩
    case round =>
      obtain ⟨k, q, hk, rfl, ht, rfl⟩ := hrel
      by_cases hlt : k < n
      · obtain ⟨hn, hn', hx, hx'⟩ := H.out
        obtain ⟨g, o, rfl, _, hx⟩ := hx.resolve_left (by omega)
        obtain ⟨g', o', rfl, _, hx'⟩ := hx'.resolve_left (by omega)
        have hkx : k < xs.length := by omega
        have hky : k < ys.length := by omega
        have c1 : w.cell? ⟨g, o + k, none⟩ = some (.int .i64 xs[k]) := by rw [hx k (by simpa using hkx)]; simp [iv]
        have c2 : w.cell? ⟨g', o' + k, none⟩ = some (.int .i64 ys[k]) := by rw [hx' k (by simpa using hky)]; simp [iv]
        have e1 : xs.take (k + 1) = xs.take k ++ [xs[k]] := List.take_succ_eq_append_getElem hkx
        have e2 : ys.take (k + 1) = ys.take k ++ [ys[k]] := List.take_succ_eq_append_getElem hky
        have hne : xs[k] ≠ ys[k] → xs ≠ ys := fun h1 h2 => by subst h2; exact h1 rfl
        have H2 := Lib.hid (And.intro ht (And.intro e1 (And.intro e2 hne)))
        clear hx hx' hn hn' ht e1 e2 hne
        generalize xs[k] = x at *
        generalize ys[k] = y at *
        by_cases hxy : x = y
        · subst hxy
          have hb : (x != x) = false := by simp
          go_wp2_with fail
          go_quiet (fail)
          rename_i nq
          go_wp2_with fail
          go_roundw
          case rel => exact ⟨k + 1, q + nq, by omega, by go_num, by rw [H2.out.2.1, H2.out.2.2.1, H2.out.1], rfl⟩
          case measure => simp [intOf]; omega
        · have hb : (x != y) = true := by simpa using hxy
          have hf : decide (xs = ys) = false := by simpa using H2.out.2.2.2 hxy
          have Hf := Lib.hid hf
          clear hxy hf
          go_wp2_with fail
          go_quiet (fail)
          rename_i nq
          go_wp2_with fail
          go_ret
          exact ⟨by rw [Hf.out]; rfl, q + nq, by rw [World.drewN_drewN]⟩
      · obtain rfl : k = n := by omega
        have hf : decide (xs = ys) = true := by
          obtain ⟨hn, hn', _⟩ := H.out
          rw [List.take_of_length_le (by omega), List.take_of_length_le (by omega)] at ht
          simpa using ht
        have Hf := Lib.hid hf
        clear ht hf
        go_wp2_with fail
        go_ret
        exact ⟨by rw [Hf.out]; rfl, q, rfl⟩
  · have hb : ((n : Int) != (m : Int)) = true := by simp; omega
    have hf : decide (xs = ys) = false := by
      simp only [decide_eq_false_iff_not]
      intro h; subst h; omega
    have Hf := Lib.hid hf
    clear hnm hf hx hx' hn hn'
    go_enter Tryd.func32, Tryd.ntmps32
    go_wp2_with fail
    go_ret
    exact ⟨by rw [Hf.out]; rfl, 0, rfl⟩
end Go.Proofs.YtpcdbkaeijhmfaaDoor
