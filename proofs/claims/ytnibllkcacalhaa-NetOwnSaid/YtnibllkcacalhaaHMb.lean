/- The walk of may. -/
import Derived.Test.YtnibllkcacalhaaHMa
namespace Go.Proofs.Ytnibllkcacalhaa
set_option maxRecDepth 100000
open Go.RowKit
set_option maxHeartbeats 1600000 in
theorem may_any (d q n m : Int) (w : World) : Calls Try.prog 62 #[.agg #[.int .u8 d, .int .i64 q, .int .u32 n], .int .i64 m] w fun e w' => e = .returned (.bool (mayB m ⟨d, q, n⟩)) ∧ Frm (fun _ => False) w w' := by
  have hr : (decide (q < 0) = true ∧ decide (0 ≤ q) = false ∧ True) ∨ (decide (q < 0) = false ∧ decide (0 ≤ q) = true ∧ decide (m ≤ q) = true ∧ decide (q < m) = false) ∨ (decide (q < 0) = false ∧ decide (0 ≤ q) = true ∧ decide (m ≤ q) = false ∧ decide (q < m) = true) := by
    by_cases h : q < 0
    · left; simp [h]
    · right
      by_cases h2 : m ≤ q
      · left; simp [h, h2]; omega
      · right; simp [h, h2]; omega
  have hn : ((n == 0) = true ∧ n = 0) ∨ ((n == 0) = false ∧ (0 == n) = false) := by by_cases h : n = 0 <;> simp [h]; omega
  have hq0 : ((q == 0) = true ∧ q = 0) ∨ ((q == 0) = false ∧ (q != 0) = true) := by by_cases h : q = 0 <;> simp [h]
  by_cases h1 : d = 1
  · subst h1
    rw [mayB_1]
    clear hq0
    rcases hn with ⟨hn, rfl⟩ | ⟨hn, hn'⟩ <;> (rcases hr with ⟨hr, hr', -⟩ | ⟨hr, hr', hr2, hr3⟩ | ⟨hr, hr', hr2, hr3⟩)
    all_goals
      go_enter Try.func62, Try.ntmps62
      go_wp2_with fail
      go_ret
      exact ⟨by simp [*], (Frm.refl _ w).alloc _⟩
  · by_cases h2 : d = 2
    · subst h2
      rw [mayB_2]
      clear hq0
      rcases hn with ⟨hn, rfl⟩ | ⟨hn, hn'⟩ <;> (rcases hr with ⟨hr, hr', -⟩ | ⟨hr, hr', hr2, hr3⟩ | ⟨hr, hr', hr2, hr3⟩)
      all_goals
        go_enter Try.func62, Try.ntmps62
        go_wp2_with fail
        go_ret
        exact ⟨by simp [*], (Frm.refl _ w).alloc _⟩
    · by_cases h4 : d = 4
      · subst h4
        rw [mayB_4]
        clear hq0
        rcases hn with ⟨hn, rfl⟩ | ⟨hn, hn'⟩ <;> (rcases hr with ⟨hr, hr', -⟩ | ⟨hr, hr', hr2, hr3⟩ | ⟨hr, hr', hr2, hr3⟩)
        all_goals
          go_enter Try.func62, Try.ntmps62
          go_wp2_with fail
          go_ret
          exact ⟨by simp [*], (Frm.refl _ w).alloc _⟩
      · by_cases h3 : d = 3
        · subst h3
          rw [mayB_3]
          clear hr
          rcases hq0 with ⟨hq0, rfl⟩ | ⟨hq0, hq0'⟩ <;> (rcases hn with ⟨hn, rfl⟩ | ⟨hn, hn'⟩)
          all_goals
            go_enter Try.func62, Try.ntmps62
            go_wp2_with fail
            go_ret
            exact ⟨by simp [*], (Frm.refl _ w).alloc _⟩
        · by_cases h5 : d = 5
          · subst h5
            rw [mayB_5]
            clear hr
            rcases hq0 with ⟨hq0, rfl⟩ | ⟨hq0, hq0'⟩ <;> (rcases hn with ⟨hn, rfl⟩ | ⟨hn, hn'⟩)
            all_goals
              go_enter Try.func62, Try.ntmps62
              go_wp2_with fail
              go_ret
              exact ⟨by simp [*], (Frm.refl _ w).alloc _⟩
          · rw [mayB_no m d q n h1 h2 h3 h4 h5]
            have e1 : (d == 1) = false := by simp [h1]
            have e2 : (d == 2) = false := by simp [h2]
            have e3 : (d == 3) = false := by simp [h3]
            have e4 : (d == 4) = false := by simp [h4]
            have hd : (decide (d < 1) = true ∧ decide (6 ≤ d) = false) ∨ (decide (d < 1) = false ∧ decide (6 ≤ d) = true) := by
              by_cases h : d < 1
              · left; simp [h]; omega
              · right; simp [h]; omega
            clear hr hn hq0
            rcases hd with ⟨hd, hd'⟩ | ⟨hd, hd'⟩
            all_goals
              go_enter Try.func62, Try.ntmps62
              go_wp2_with fail
              go_ret
              exact ⟨by simp, (Frm.refl _ w).alloc _⟩
end Go.Proofs.Ytnibllkcacalhaa
