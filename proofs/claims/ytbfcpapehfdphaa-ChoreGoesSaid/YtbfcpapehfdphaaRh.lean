/- The walk of teaselref23.Right. -/
import Derived.Test.YtbfcpapehfdphaaRg
import Derived.Test.YtbfcpapehfdphaaMb
namespace Go.Proofs.Ytbfcpapehfdphaa
open Go.RowKit
set_option maxHeartbeats 1600000 in
theorem rright_any (A : Option Addr) (n c : Nat) (a s r m : Int) (es : List Er) (w : World) (h : RAt w (fun q => q < w.heap.size) (.slice A n c) es) :
    Calls Try.prog 15 #[.agg #[.slice A n c, .int .i64 a, .int .u32 s, .int .i64 r], .int .i64 m] w fun e w' => e = .returned (.bool (rightB m ⟨es, a, s, r⟩)) ∧ Frm (fun _ => False) w w' := by
  obtain ⟨hes, hnc, hcm, hcs⟩ := h.cells
  obtain ⟨gc, hgc⟩ : ∃ g, g = w.heap.size := ⟨_, rfl⟩
  obtain ⟨W0, hW0⟩ : ∃ W, W = w.alloc (.cells #[.slice A n c, .int .i64 a, .int .u32 s, .int .i64 r] 25) := ⟨_, rfl⟩
  obtain ⟨hF0, hk0, c0, c1, -, c3⟩ := chore_box w W0 gc A n c a s r hgc hW0
  have H := Lib.hid (And.intro hes (And.intro hcs (And.intro hk0 hF0)))
  clear h hes hcs hk0 hF0
  by_cases hh : es.length ≤ 64 ∧ 0 ≤ a ∧ a ≤ es.length ∧ 0 ≤ r ∧ r ≤ 64
  · obtain ⟨k1, k2, k3, k4, k5⟩ := hh
    have g1 : decide ((64 : Int) < n) = false := by have := H.out.1; simp; omega
    have g2 : decide (a < 0) = false := by simp; omega
    have g3 : decide ((n : Int) < a) = false := by have := H.out.1; simp; omega
    have g4 : decide (r < 0) = false := by simp; omega
    have g5 : decide (64 < r) = false := by simp; omega
    have Hy := Lib.hid (head_yes es a s r m ⟨k1, k2, k3, k4, k5⟩)
    clear k1 k2 k3 k4 k5
    go_enter Try.func15, Try.ntmps15
    go_upto_region 1 with fail
    rw [← hgc, ← hW0]
    clear hgc hW0
    go_wp2_with fail
    clear g1 g2 g3 g4 g5
    go_loopw [5] (fun i wr => ∃ k : Nat, k ≤ n ∧ i = .int .i64 k ∧ Hid (Frm (fun _ => False) W0 wr ∧ (es.take k).all (mayB m) = true)) (fun i _ => n - (intOf i).toNat)
    case atStart => exact ⟨0, Nat.zero_le _, rfl, Lib.hid ⟨Frm.refl _ _, rfl⟩⟩
    case round =>
      obtain ⟨k, hk, rfl, hT⟩ := hrel
      replace c0 := hT.out.1.cell c0 id
      clear c1 c3
      by_cases hlt : k < n
      · obtain ⟨hes, hcs, hk0, hF0⟩ := H.out
        have hkx : k < es.length := by omega
        obtain ⟨g, o, rfl, hg, d0, d1, d2⟩ := hcs k hkx
        have hFr := hF0.trans hT.out.1 fun _ h => h.elim
        replace d0 := hFr.cell d0 id
        replace d1 := hFr.cell d1 id
        replace d2 := hFr.cell d2 id
        have hts : es.take (k + 1) = es.take k ++ [es[k]] := List.take_succ_eq_append_getElem hkx
        have hno := take_all_no (mayB m) es k hkx
        have HS := Lib.hid (And.intro hts hno)
        clear hes hcs hk0 hF0 hFr hts hg hno
        generalize es[k] = y at *
        obtain ⟨d, q, z⟩ := y
        dsimp only at d0 d1 d2
        go_wp2_with fail
        refine (may_any d q z m _).mono ?_
        rintro e w2 ⟨rfl, hF2⟩
        have HF := Lib.hid (hT.out.1.trans hF2 fun _ h => h.elim)
        clear hF2
        cases hm : mayB m ⟨d, q, z⟩ with
        | false =>
          have Hr := Lib.hid (all_no es a s r m (HS.out.2 hm))
          clear hm
          go_wp2_with fail
          go_ret
          exact ⟨by rw [Hr.out]; rfl, H.out.2.2.2.trans HF.out fun _ h => h.elim⟩
        | true =>
          have Hm := Lib.hid hm
          clear hm
          go_wp2_with fail
          go_roundw
          case rel => exact ⟨k + 1, by omega, by go_num, Lib.hid ⟨HF.out, by rw [HS.out.1, List.all_append, hT.out.2]; simp [Hm.out]⟩⟩
          case measure => simp [intOf]; omega
      · obtain rfl : k = n := by omega
        have hal : es.all (mayB m) = true := by have := hT.out.2; rwa [List.take_of_length_le (by have := H.out.1; omega)] at this
        have HF := Lib.hid (And.intro (H.out.2.2.2.trans hT.out.1 fun _ h => h.elim) hal)
        clear hal hT
        go_wp2_with fail
        go_ret
        exact ⟨by rw [Hy.out, HF.out.2]; rfl, HF.out.1⟩
  · have hno : rightB m ⟨es, a, s, r⟩ = false := head_no es a s r m fun h h2 => hh ⟨h, h2⟩
    rw [hno]
    have Hh := Lib.hid hh
    clear hno hh
    have hcases : decide ((64 : Int) < n) = true ∨ (decide ((64 : Int) < n) = false ∧ decide (a < 0) = true) ∨ (decide ((64 : Int) < n) = false ∧ decide (a < 0) = false ∧ decide ((n : Int) < a) = true) ∨ (decide ((64 : Int) < n) = false ∧ decide (a < 0) = false ∧ decide ((n : Int) < a) = false ∧ decide (r < 0) = true) ∨
        (decide ((64 : Int) < n) = false ∧ decide (a < 0) = false ∧ decide ((n : Int) < a) = false ∧ decide (r < 0) = false ∧ decide (64 < r) = true) := by
      have := Hh.out
      have := H.out.1
      simp only [decide_eq_true_eq, decide_eq_false_iff_not]
      omega
    rcases hcases with g1 | ⟨g1, g2⟩ | ⟨g1, g2, g3⟩ | ⟨g1, g2, g3, g4⟩ | ⟨g1, g2, g3, g4, g5⟩
    all_goals
      go_enter Try.func15, Try.ntmps15
      go_upto_region 1 with fail
      rw [← hgc, ← hW0]
      clear hgc hW0
      go_wp2_with fail
      go_ret
      exact ⟨rfl, H.out.2.2.2⟩
end Go.Proofs.Ytbfcpapehfdphaa
