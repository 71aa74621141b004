/- The walks of errand and of may. -/
import Derived.Test.YtnibllkcacalhaaGA
namespace Go.Proofs.Ytnibllkcacalhaa
set_option maxRecDepth 100000
open Go.RowKit
theorem mayB_1 (m q n : Int) : mayB m ⟨1, q, n⟩ = (decide (0 ≤ q) && decide (q < m)) := by simp [mayB]
theorem mayB_2 (m q n : Int) : mayB m ⟨2, q, n⟩ = ((n == 0) && (decide (0 ≤ q) && decide (q < m))) := by simp [mayB]
theorem mayB_3 (m q n : Int) : mayB m ⟨3, q, n⟩ = (q == 0) := by simp [mayB]
theorem mayB_4 (m q n : Int) : mayB m ⟨4, q, n⟩ = ((n == 0) && (decide (0 ≤ q) && decide (q < m))) := by simp [mayB]
theorem mayB_5 (m q n : Int) : mayB m ⟨5, q, n⟩ = ((q == 0) && (n == 0)) := by simp [mayB]
theorem mayB_no (m d q n : Int) (h1 : d ≠ 1) (h2 : d ≠ 2) (h3 : d ≠ 3) (h4 : d ≠ 4) (h5 : d ≠ 5) : mayB m ⟨d, q, n⟩ = false := by simp [mayB, h1, h2, h3, h4, h5]
set_option maxHeartbeats 1600000 in
theorem errand_any (d q n m : Int) (w : World) : Calls Try.prog 75 #[.agg #[.int .u8 d, .int .i64 q, .int .u32 n], .int .i64 m] w fun e w' => e = .returned (.bool (mayB m ⟨d, q, n⟩)) ∧ Frm (fun _ => False) w w' := by
  have hq : (decide (0 ≤ q) = true ∧ (0 ≤ q)) ∨ (decide (0 ≤ q) = false ∧ ¬ (0 ≤ q)) := by by_cases h : 0 ≤ q <;> simp [h]
  have hm : (decide (q < m) = true) ∨ (decide (q < m) = false) := by by_cases h : q < m <;> simp [h]
  have hn : ((n == 0) = true ∧ n = 0) ∨ ((n == 0) = false ∧ (0 == n) = false) := by by_cases h : n = 0 <;> simp [h]; omega
  have hq0 : ((q == 0) = true ∧ q = 0) ∨ ((q == 0) = false ∧ (0 == q) = false) := by by_cases h : q = 0 <;> simp [h]; omega
  by_cases h1 : d = 1
  · subst h1
    rw [mayB_1]
    clear hn hq0
    rcases hq with ⟨hq, -⟩ | ⟨hq, -⟩ <;> rcases hm with hm | hm
    all_goals
      go_enter Try.func75, Try.ntmps75
      go_wp2_with fail
      go_ret
      exact ⟨by simp [hq, hm], by first | exact ((Frm.refl _ w).alloc _).alloc _⟩
  · by_cases h2 : d = 2
    · subst h2
      rw [mayB_2]
      clear hq0
      rcases hn with ⟨hn, rfl⟩ | ⟨hn, hn'⟩ <;> (rcases hq with ⟨hq, -⟩ | ⟨hq, -⟩ <;> rcases hm with hm | hm)
      all_goals
        go_enter Try.func75, Try.ntmps75
        go_wp2_with fail
        go_ret
        exact ⟨by simp [hn, hq, hm], by first | exact ((Frm.refl _ w).alloc _).alloc _ | exact (Frm.refl _ w).alloc _⟩
    · by_cases h4 : d = 4
      · subst h4
        rw [mayB_4]
        clear hq0
        rcases hn with ⟨hn, rfl⟩ | ⟨hn, hn'⟩ <;> (rcases hq with ⟨hq, -⟩ | ⟨hq, -⟩ <;> rcases hm with hm | hm)
        all_goals
          go_enter Try.func75, Try.ntmps75
          go_wp2_with fail
          go_ret
          exact ⟨by simp [hn, hq, hm], by first | exact ((Frm.refl _ w).alloc _).alloc _ | exact (Frm.refl _ w).alloc _⟩
      · by_cases h3 : d = 3
        · subst h3
          rw [mayB_3]
          clear hn hq hm
          rcases hq0 with ⟨hq0, rfl⟩ | ⟨hq0, hq0'⟩
          all_goals
            go_enter Try.func75, Try.ntmps75
            go_wp2_with fail
            go_ret
            exact ⟨by simp [hq0], by first | exact ((Frm.refl _ w).alloc _).alloc _ | exact (Frm.refl _ w).alloc _⟩
        · by_cases h5 : d = 5
          · subst h5
            rw [mayB_5]
            clear hq hm
            rcases hq0 with ⟨hq0, rfl⟩ | ⟨hq0, hq0'⟩ <;> (rcases hn with ⟨hn, rfl⟩ | ⟨hn, hn'⟩)
            all_goals
              go_enter Try.func75, Try.ntmps75
              go_wp2_with fail
              go_ret
              exact ⟨by simp [hq0, hn], by first | exact ((Frm.refl _ w).alloc _).alloc _ | exact (Frm.refl _ w).alloc _⟩
          · rw [mayB_no m d q n h1 h2 h3 h4 h5]
            have e1 : (d == 1) = false := by simp [h1]
            have e2 : (d == 2) = false := by simp [h2]
            have e3 : (d == 3) = false := by simp [h3]
            have e4 : (d == 4) = false := by simp [h4]
            have e5 : (d == 5) = false := by simp [h5]
            have hd : (decide (d < 1) = true ∧ decide (6 ≤ d) = false) ∨ (decide (d < 1) = false ∧ decide (6 ≤ d) = true) := by
              by_cases h : d < 1
              · left; simp [h]; omega
              · right; simp [h]; omega
            clear hq hm hn hq0
            go_enter Try.func75, Try.ntmps75
            go_wp2_with fail
            go_ret
            exact ⟨by simp, by first | exact ((Frm.refl _ w).alloc _).alloc _ | exact (Frm.refl _ w).alloc _⟩
end Go.Proofs.Ytnibllkcacalhaa
