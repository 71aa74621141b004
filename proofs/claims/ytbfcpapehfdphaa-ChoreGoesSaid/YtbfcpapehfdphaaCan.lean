/- The walk of can. -/
import Derived.Test.YtbfcpapehfdphaaEr
namespace Go.Proofs.Ytbfcpapehfdphaa
open Go.RowKit
theorem canB_at (d : Int) (k : Nat) (n : Int) (l : List Pi) (p : Pi) (hd : d = 1 ∨ d = 2) (hp : l[k]? = some p) : canB ⟨d, k, n⟩ l = canP d p := by
  unfold canB
  rw [if_pos hd]
  simp [hp]
set_option maxHeartbeats 1600000 in
theorem can_any (d q n : Int) (A : Option Addr) (n1 c1 : Nat) (ps : List Pk) (w : World) (h : PAt w (fun q => q < w.heap.size) (.slice A n1 c1) ps) (hq : d = 1 ∨ d = 2 → 0 ≤ q ∧ q < (n1 : Int)) :
    Calls Try.prog 28 #[.agg #[.int .u8 d, .int .i64 q, .int .u32 n], .slice A n1 c1] w fun e w' => e = .returned (.bool (canB ⟨d, q, n⟩ (ps.map (·.p)))) ∧ Frm (fun _ => False) w w' := by
  obtain ⟨hps, hnc, hcm, hcs⟩ := h.cells
  by_cases hd : d = 1 ∨ d = 2
  · obtain ⟨k, rfl⟩ : ∃ k : Nat, q = k := ⟨q.toNat, by have := hq hd; omega⟩
    have hk : k < n1 := by have := hq hd; omega
    have hkx : k < ps.length := by omega
    obtain ⟨g, o, rfl, hg, d0, d1, d2⟩ := hcs k hkx
    obtain ⟨a2, n2, c2, hv, hn2, -⟩ := h.2 ps[k] (List.getElem_mem hkx)
    rw [uv_length] at hn2
    rw [hv] at d1
    rw [canB_at d k n (ps.map (·.p)) ps[k].p hd (by rw [List.getElem?_map, List.getElem?_eq_getElem hkx]; rfl)]
    have Hc : Hid (canP d ps[k].p = if d = 1 then ps[k].p.closed || decide ((n2 : Int) < ps[k].p.room) else ps[k].p.closed || decide (0 < n2)) := Lib.hid (by unfold canP; rw [hn2])
    clear h hps hcs hv hn2 hq
    generalize ps[k].p.room = r at *
    generalize ps[k].p.closed = cl at *
    generalize canP d ps[k].p = B at *
    have hF0 : Frm (fun _ => False) w (w.alloc (.cells #[.int .u8 d, .int .i64 k, .int .u32 n] 43)) := (Frm.refl _ w).alloc _
    have e0 := hF0.cell d0 id
    have e1 := hF0.cell d1 id
    have e2 := hF0.cell d2 id
    have hrm : decide ((n2 : Int) < r) = true ∨ decide ((n2 : Int) < r) = false := by by_cases h : (n2 : Int) < r <;> simp [h]
    clear d0 d1 d2
    rcases hd with rfl | rfl
    · cases cl <;> rcases hrm with hrm | hrm
      all_goals
        go_enter Try.func28, Try.ntmps28
        go_wp2_with fail
        go_ret
        exact ⟨by rw [Hc.out]; simp [hrm], ((Frm.refl _ w).alloc _).alloc _⟩
    · rcases Nat.eq_zero_or_pos n2 with rfl | hn2
      · cases cl
        all_goals
          go_enter Try.func28, Try.ntmps28
          go_wp2_with fail
          go_ret
          exact ⟨by rw [Hc.out]; simp, ((Frm.refl _ w).alloc _).alloc _⟩
      · have g1 : decide ((0 : Int) < n2) = true := by simp; omega
        have g2 : decide (0 < n2) = true := by simp; omega
        go_enter Try.func28, Try.ntmps28
        go_wp2_with fail
        go_ret
        exact ⟨by rw [Hc.out]; simp [g2], ((Frm.refl _ w).alloc _).alloc _⟩
  · have e1 : (d == 1) = false := by simp; omega
    have e2 : (d == 2) = false := by simp; omega
    have hB : canB ⟨d, q, n⟩ (ps.map (·.p)) = true := by unfold canB; rw [if_neg hd]
    rw [hB]
    clear h hps hcs hq hd hB
    go_enter Try.func28, Try.ntmps28
    go_wp2_with fail
    go_ret
    exact ⟨rfl, (Frm.refl _ w).alloc _⟩
end Go.Proofs.Ytbfcpapehfdphaa
