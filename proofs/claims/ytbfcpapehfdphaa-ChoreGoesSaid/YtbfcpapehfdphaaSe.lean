/- The walk of slices.Equal at errands. -/
import Derived.Test.YtbfcpapehfdphaaEr
namespace Go.Proofs.Ytbfcpapehfdphaa
open Go.RowKit
def EqPost {α : Type} [DecidableEq α] (xs ys : List α) (w : World) (e : Ending) (w' : World) : Prop := e = .returned (.bool (decide (xs = ys))) ∧ ∃ k, w' = w.drewN k
set_option maxHeartbeats 1000000 in
theorem equal_e (K K' : Nat → Prop) (v u : Value) (xs ys : List Er) (w : World) (h : RAt w K v xs) (h' : RAt w K' u ys) :
    Calls Try.prog 32 #[v, u] w (EqPost xs ys w) := by
  obtain ⟨A, n, c, rfl, -⟩ := id h
  obtain ⟨B, m, d, rfl, -⟩ := id h'
  obtain ⟨hn, hc, hm, hx⟩ := h.cells
  obtain ⟨hn', hc', hm', hx'⟩ := h'.cells
  clear h h'
  by_cases hnm : n = m
  · subst hnm
    have hd : decide (n = n) = true := by simp
    have H := Lib.hid (And.intro hn (And.intro hn' (And.intro hx hx')))
    clear hn hn' hx hx'
    go_enter Try.func32, Try.ntmps32
    go_wp2_with fail
    go_loopw [13] (fun i wr => ∃ k q : Nat, k ≤ n ∧ i = .int .i64 k ∧ xs.take k = ys.take k ∧ wr = w.drewN q) (fun i _ => n - (intOf i).toNat)
    case atStart => exact ⟨0, 0, Nat.zero_le _, rfl, by simp, rfl⟩
    case round =>
      obtain ⟨k, q, hk, rfl, ht, rfl⟩ := hrel
      by_cases hlt : k < n
      · obtain ⟨hn, hn', hx, hx'⟩ := H.out
        have hkx : k < xs.length := by omega
        have hky : k < ys.length := by omega
        obtain ⟨g, o, rfl, _, c1, c2, c3⟩ := hx k hkx
        obtain ⟨g', o', rfl, _, b1, b2, b3⟩ := hx' k hky
        have e1 : xs.take (k + 1) = xs.take k ++ [xs[k]] := List.take_succ_eq_append_getElem hkx
        have e2 : ys.take (k + 1) = ys.take k ++ [ys[k]] := List.take_succ_eq_append_getElem hky
        have hne : xs[k] ≠ ys[k] → xs ≠ ys := fun h1 h2 => by subst h2; exact h1 rfl
        have H2 := Lib.hid (And.intro ht (And.intro e1 (And.intro e2 hne)))
        clear hx hx' hn hn' ht e1 e2 hne
        generalize xs[k] = x at *
        generalize ys[k] = y at *
        obtain ⟨x1, x2, x3⟩ := x
        obtain ⟨y1, y2, y3⟩ := y
        dsimp only at c1 c2 c3 b1 b2 b3
        have fin : (⟨x1, x2, x3⟩ : Er) ≠ ⟨y1, y2, y3⟩ → decide (xs = ys) = false := fun h => by simpa using H2.out.2.2.2 h
        have H3 := Lib.hid fin
        clear fin
        cases h1 : (x1 == y1)
        · have Hf := Lib.hid (H3.out (by intro h; injection h with h h'; subst h; simp at h1))
          go_wp2_with fail
          go_quiet (fail)
          rename_i nq
          go_wp2_with fail
          go_ret
          exact ⟨by rw [Hf.out]; rfl, q + nq, by rw [World.drewN_drewN]⟩
        · cases h2 : (x2 == y2)
          · have Hf := Lib.hid (H3.out (by intro h; injection h with h h'; subst h'; simp at h2))
            go_wp2_with fail
            go_quiet (fail)
            rename_i nq
            go_wp2_with fail
            go_ret
            exact ⟨by rw [Hf.out]; rfl, q + nq, by rw [World.drewN_drewN]⟩
          · cases h3 : (x3 == y3)
            · have Hf := Lib.hid (H3.out (by intro h; injection h with h h' h''; subst h''; simp at h3))
              go_wp2_with fail
              go_quiet (fail)
              rename_i nq
              go_wp2_with fail
              go_ret
              exact ⟨by rw [Hf.out]; rfl, q + nq, by rw [World.drewN_drewN]⟩
            · have Hxy : Hid (x1 = y1 ∧ x2 = y2 ∧ x3 = y3) := Lib.hid ⟨by simpa using h1, by simpa using h2, by simpa using h3⟩
              go_wp2_with fail
              go_quiet (fail)
              rename_i nq
              go_wp2_with fail
              go_roundw
              case rel => exact ⟨k + 1, q + nq, by omega, by go_num, by rw [H2.out.2.1, H2.out.2.2.1, H2.out.1, Hxy.out.1, Hxy.out.2.1, Hxy.out.2.2], rfl⟩
              case measure => simp [intOf]; omega
      · obtain rfl : k = n := by omega
        have Hf : Hid (decide (xs = ys) = true) := Lib.hid (by
          obtain ⟨hn, hn', _⟩ := H.out
          rw [List.take_of_length_le (by omega), List.take_of_length_le (by omega)] at ht
          simpa using ht)
        clear ht
        go_wp2_with fail
        go_ret
        exact ⟨by rw [Hf.out]; rfl, q, rfl⟩
  · have hb : ((n : Int) != (m : Int)) = true := by simp; omega
    have Hf : Hid (decide (xs = ys) = false) := Lib.hid (by
      simp only [decide_eq_false_iff_not]
      intro h; subst h; omega)
    clear hnm hx hx' hn hn'
    go_enter Try.func32, Try.ntmps32
    go_wp2_with fail
    go_ret
    exact ⟨by rw [Hf.out]; rfl, 0, rfl⟩
end Go.Proofs.Ytbfcpapehfdphaa
