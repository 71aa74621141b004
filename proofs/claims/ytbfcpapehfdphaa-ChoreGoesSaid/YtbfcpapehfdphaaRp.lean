/- The walk of teaselref23.Pipes. -/
import Derived.Test.YtbfcpapehfdphaaPip
import Derived.Test.YtbfcpapehfdphaaPlan
namespace Go.Proofs.Ytbfcpapehfdphaa
open Go.RowKit
set_option maxHeartbeats 1600000 in
theorem rpipes_any (A : Option Addr) (n c : Nat) (ps : List Pk) (w : World) (h : PAt w (fun q => q < w.heap.size) (.slice A n c) ps) (hn : n ≤ 1000000) : Calls Try.prog 17 #[.slice A n c] w (PipesPost ps w) := by
  obtain ⟨hps, hnc, hcm, hcs⟩ := h.cells
  have H := Lib.hid (And.intro hps (And.intro hcs h.2))
  clear h hps hcs
  go_enter Try.func17, Try.ntmps17
  go_wp2_with fail
  go_loopw [3] (fun i wr => ∃ k : Nat, k ≤ n ∧ i = .int .i64 k ∧ Hid (Frm (fun _ => False) w wr ∧ (ps.take k).all pipeH = true)) (fun i _ => n - (intOf i).toNat)
  case atStart => exact ⟨0, Nat.zero_le _, rfl, Lib.hid ⟨Frm.refl _ _, rfl⟩⟩
  case round =>
    obtain ⟨k, hk, rfl, hT⟩ := hrel
    by_cases hlt : k < n
    · obtain ⟨hps, hcs, hsl⟩ := H.out
      have hkx : k < ps.length := by omega
      obtain ⟨g, o, rfl, hg, d0, d1, -⟩ := hcs k hkx
      replace d0 := hT.out.1.cell d0 id
      replace d1 := hT.out.1.cell d1 id
      obtain ⟨a2, n2, c2, hv, hn2, -⟩ := hsl ps[k] (List.getElem_mem hkx)
      rw [uv_length] at hn2
      rw [hv] at d1
      have hpc := pipeH_cases ps[k] n2 hn2
      have hts : ps.take (k + 1) = ps.take k ++ [ps[k]] := List.take_succ_eq_append_getElem hkx
      have hno : pipeH ps[k] = false → pipesB (ps.map (·.p)) = false := fun hp => by
        unfold pipesB
        rw [List.all_map]
        have : ps.all (pipeB ∘ fun x => x.p) = false := by
          rw [List.all_eq_false]
          exact ⟨_, List.getElem_mem hkx, by have h : pipeB ps[k].p = false := hp; simp [h]⟩
        rw [this, Bool.false_and]
      have HS := Lib.hid (And.intro hts (And.intro hno (rfl : pipeH ps[k] = pipeH ps[k])))
      clear hps hcs hsl hv hn2 hts hg hno
      generalize ps[k].p.room = r at *
      generalize hB : pipeH ps[k] = B at hpc HS
      have hB' := Lib.hid hB
      clear hB
      rcases hpc with ⟨rfl, h1, h2, h3⟩ | ⟨rfl, h1 | ⟨h1, h2⟩ | ⟨h1, h2, h3⟩⟩
      · go_wp2_with fail
        go_quiet (fail)
        go_wp2_with fail
        go_roundw
        case rel => exact ⟨k + 1, by omega, by go_num, Lib.hid ⟨hT.out.1.trans ((Frm.refl (fun _ => False) wr).drewN _) fun _ h => h.elim, by rw [HS.out.1, List.all_append, hT.out.2]; simp [hB'.out]⟩⟩
        case measure => simp [intOf]; omega
      all_goals
        have Hr := Lib.hid (HS.out.2.1 rfl)
        go_wp2_with fail
        go_quiet (fail)
        go_wp2_with fail
        go_ret
        exact ⟨by rw [Hr.out]; rfl, hT.out.1.trans ((Frm.refl (fun _ => False) wr).drewN _) fun _ h => h.elim⟩
    · obtain rfl : k = n := by omega
      have hp : pipesB (ps.map (·.p)) = decide ((k : Int) ≤ 8) := by
        have hps := H.out.1
        unfold pipesB
        rw [List.all_map, List.length_map]
        have h2 := hT.out.2
        rw [List.take_of_length_le (by omega)] at h2
        have : ps.all (pipeB ∘ fun x => x.p) = true := h2
        rw [this, Bool.true_and]
        by_cases h : k ≤ 8
        · rw [decide_eq_true (by omega), decide_eq_true (by omega)]
        · rw [decide_eq_false (by omega), decide_eq_false (by omega)]
      have Hp := Lib.hid hp
      clear hp
      go_wp2_with fail
      go_ret
      exact ⟨by rw [Hp.out]; rfl, hT.out.1⟩
end Go.Proofs.Ytbfcpapehfdphaa
