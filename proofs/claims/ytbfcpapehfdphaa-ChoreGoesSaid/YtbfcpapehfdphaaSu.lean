/- The walk of slices.Equal at uint32. -/
import Derived.Test.YtbfcpapehfdphaaSe
namespace Go.Proofs.Ytbfcpapehfdphaa
open Go.RowKit
set_option maxHeartbeats 1000000 in
theorem equal_u (K K' : Nat → Prop) (v u : Value) (xs ys : List Int) (w : World) (h : Sl w K v (uv xs)) (h' : Sl w K' u (uv ys)) :
    Calls Try.prog 35 #[v, u] w (EqPost xs ys w) := by
  obtain ⟨A, n, c, rfl, hn, hc, hm, hx⟩ := h
  obtain ⟨B, m, d, rfl, hn', hc', hm', hx'⟩ := h'
  rw [uv_length] at hn hn'
  by_cases hnm : n = m
  · subst hnm
    have hd : decide (n = n) = true := by simp
    have H := Lib.hid (And.intro hn (And.intro hn' (And.intro hx hx')))
    clear hn hn' hx hx'
    go_enter Try.func35, Try.ntmps35
    go_wp2_with fail
    go_loopw [13] (fun i wr => ∃ k q : Nat, k ≤ n ∧ i = .int .i64 k ∧ xs.take k = ys.take k ∧ wr = w.drewN q) (fun i _ => n - (intOf i).toNat)
    case atStart => exact ⟨0, 0, Nat.zero_le _, rfl, by simp, rfl⟩
    case round =>
      obtain ⟨k, q, hk, rfl, ht, rfl⟩ := hrel
      by_cases hlt : k < n
      · obtain ⟨hn, hn', hx, hx'⟩ := H.out
        obtain ⟨g, o, rfl, _, hx⟩ := hx.resolve_left (by omega)
        obtain ⟨g', o', rfl, _, hx'⟩ := hx'.resolve_left (by omega)
        have hkx : k < xs.length := by omega
        have hky : k < ys.length := by omega
        have c1 : w.cell? ⟨g, o + k, none⟩ = some (.int .u32 xs[k]) := by rw [hx k (by rw [uv_length]; exact hkx)]; simp [uv]
        have c2 : w.cell? ⟨g', o' + k, none⟩ = some (.int .u32 ys[k]) := by rw [hx' k (by rw [uv_length]; exact hky)]; simp [uv]
        have e1 : xs.take (k + 1) = xs.take k ++ [xs[k]] := List.take_succ_eq_append_getElem hkx
        have e2 : ys.take (k + 1) = ys.take k ++ [ys[k]] := List.take_succ_eq_append_getElem hky
        have hne : xs[k] ≠ ys[k] → xs ≠ ys := fun h1 h2 => by subst h2; exact h1 rfl
        have H2 := Lib.hid (And.intro ht (And.intro e1 (And.intro e2 hne)))
        clear hx hx' hn hn' ht e1 e2 hne
        generalize xs[k] = x at *
        generalize ys[k] = y at *
        by_cases hxy : x = y
        · subst hxy
          have hb : (x != x) = false := by simp
          go_wp2_with fail
          go_quiet (fail)
          rename_i nq
          go_wp2_with fail
          go_roundw
          case rel => exact ⟨k + 1, q + nq, by omega, by go_num, by rw [H2.out.2.1, H2.out.2.2.1, H2.out.1], rfl⟩
          case measure => simp [intOf]; omega
        · have hb : (x != y) = true := by simpa using hxy
          have Hf : Hid (decide (xs = ys) = false) := Lib.hid (by simpa using H2.out.2.2.2 hxy)
          clear hxy
          go_wp2_with fail
          go_quiet (fail)
          rename_i nq
          go_wp2_with fail
          go_ret
          exact ⟨by rw [Hf.out]; rfl, q + nq, by rw [World.drewN_drewN]⟩
      · obtain rfl : k = n := by omega
        have Hf : Hid (decide (xs = ys) = true) := Lib.hid (by
          obtain ⟨hn, hn', _⟩ := H.out
          rw [List.take_of_length_le (by omega), List.take_of_length_le (by omega)] at ht
          simpa using ht)
        clear ht
        go_wp2_with fail
        go_ret
        exact ⟨by rw [Hf.out]; rfl, q, rfl⟩
  · have hb : ((n : Int) != (m : Int)) = true := by simp; omega
    have Hf : Hid (decide (xs = ys) = false) := Lib.hid (by
      simp only [decide_eq_false_iff_not]
      intro h; subst h; omega)
    clear hnm hx hx' hn hn'
    go_enter Try.func35, Try.ntmps35
    go_wp2_with fail
    go_ret
    exact ⟨by rw [Hf.out]; rfl, 0, rfl⟩
end Go.Proofs.Ytbfcpapehfdphaa
