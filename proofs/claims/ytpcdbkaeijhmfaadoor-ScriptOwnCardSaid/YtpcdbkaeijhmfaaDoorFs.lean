/- teaselref04.Same. -/
import Derived.Test.YtpcdbkaeijhmfaaDoorLr
namespace Go.Proofs.YtpcdbkaeijhmfaaDoor
set_option maxRecDepth 100000
set_option linter.unusedVariables false
set_option linter.unusedSimpArgs false
open Go.RowKit
attribute [local go_sem] Oper.semAt_some
set_option maxHeartbeats 3200000 in
theorem sameT_any (K : Nat → Prop) (v v' : Value) (l l' : List By) (w : World) (h : TxS w K v l) (h' : TxS w K v' l') (hl : l.length ≤ 1000000) :
    Calls Tryd.prog 31 #[v, v'] w fun e w' => e = .returned (.bool (decide (l = l'))) ∧ ∃ q, w' = w.drewN q := by
  obtain ⟨A, c, rfl, hn1, hn2⟩ := h.form
  obtain ⟨A', c', rfl, hn1', hn2'⟩ := h'.form
  obtain ⟨n, hn⟩ : ∃ n, n = l.length := ⟨_, rfl⟩
  obtain ⟨n', hn'⟩ : ∃ n, n = l'.length := ⟨_, rfl⟩
  have hnm : n ≤ 1000000 := by omega
  have hnm' : n' ≤ 9223372036854775807 := by omega
  obtain ⟨R, hR⟩ : ∃ R, R = decide (l = l') := ⟨_, rfl⟩
  rw [← hR]
  rw [← hn] at h ⊢
  rw [← hn'] at h' ⊢
  have H := Lib.hid (And.intro h (And.intro h' (And.intro hn (And.intro hn' hR))))
  clear h h' hn1 hn2 hn1' hn2' hR hl
  by_cases hnn : n = n'
  · subst hnn
    have hne : ((n : Int) != (n : Int)) = false := by simp
    clear hn hn'
    go_enter Tryd.func31, Tryd.ntmps31
    go_wp2_with fail
    go_loopw [5] (fun i wr => ∃ k : Nat, k ≤ n ∧ i = .int .i64 k ∧ (∃ q, wr = w.drewN q) ∧ Hid (l.take k = l'.take k)) (fun i _ => n - (intOf i).toNat)
    case atStart => exact ⟨0, Nat.zero_le _, rfl, ⟨0, rfl⟩, Lib.hid (by simp)⟩
    case round =>
      obtain ⟨k, hk, rfl, ⟨q0, rfl⟩, hT⟩ := hrel
      obtain ⟨h, h', hn, hn', hR⟩ := H.out
      by_cases hlt : k < n
      · have hkx : k < l.length := by omega
        have hky : k < l'.length := by omega
        obtain ⟨u, g, o, rfl, hKg, hc, hu⟩ := h.at_ k hkx
        obtain ⟨u', g', o', rfl, hKg', hc', hu'⟩ := h'.at_ k hky
        have e1 : ∀ m, (convert 43 9 u).run Tryd.prog (w.drewN m) = .ok (.string ⟨(l[k]).toArray⟩) (w.drewN m) := fun m => run_conv (P := Tryd.prog) Tryd.underlying43 Tryd.underlying5 Tryd.underlying9 (hu.kept (w' := w.drewN m) fun _ _ => rfl)
        have e2 : ∀ m, (convert 43 9 u').run Tryd.prog (w.drewN m) = .ok (.string ⟨(l'[k]).toArray⟩) (w.drewN m) := fun m => run_conv (P := Tryd.prog) Tryd.underlying43 Tryd.underlying5 Tryd.underlying9 (hu'.kept (w' := w.drewN m) fun _ _ => rfl)
        obtain ⟨B, m1, d, rfl, -⟩ := id hu
        obtain ⟨B', m2, d', rfl, -⟩ := id hu'
        have hst := str_eq' l[k] l'[k]
        obtain ⟨z, hz⟩ : ∃ z, z = decide (l[k] = l'[k]) := ⟨_, rfl⟩
        rw [← hz] at hst
        generalize (⟨(l[k]).toArray⟩ : ByteArray) = S1 at *
        generalize (⟨(l'[k]).toArray⟩ : ByteArray) = S2 at *
        have H1 := Lib.hid (show ∃ (a : k < l.length) (b : k < l'.length), l.take k = l'.take k ∧ R = decide (l = l') ∧ z = decide (l[k] = l'[k]) ∧ k < n from ⟨hkx, hky, hT.out, hR, hz, hlt⟩)
        clear h h' hn hn' hR hkx hky hKg hKg' hu hu' hz hT
        cases z with
        | true =>
          have hbne : (S1.toList != S2.toList) = false := by rw [bne, hst]; rfl
          go_wp2_with fail
          go_quiet (fail)
          rename_i nq
          obtain ⟨hkx, hky, hT, hR, hz, hlt⟩ := H1.out
          have Ht := Lib.hid (take_same hkx hky hT (of_decide_eq_true hz.symm))
          clear hkx hky hT hR hz e1 e2 hst hbne
          go_wp2_with fail
          go_roundw
          case rel => exact ⟨k + 1, by omega, by go_num, ⟨q0 + nq, rfl⟩, Ht⟩
          case measure => simp [intOf]; omega
        | false =>
          have hbne : (S1.toList != S2.toList) = true := by rw [bne, hst]; rfl
          go_wp2_with fail
          go_quiet (fail)
          rename_i nq
          obtain ⟨hkx, hky, hT, hR, hz, hlt⟩ := H1.out
          have Hn := Lib.hid (show R = false by rw [hR]; exact decide_eq_false (take_ne hkx hky (of_decide_eq_false hz.symm)))
          clear hkx hky hT hR hz e1 e2 hst hbne
          go_wp2_with fail
          go_ret
          exact ⟨by rw [Hn.out]; rfl, q0 + nq, by first | rfl | rw [World.drewN_drewN]⟩
      · obtain rfl : k = n := by omega
        have He := Lib.hid (show R = true by
          rw [hR]
          refine decide_eq_true ?_
          have := hT.out
          rwa [List.take_of_length_le (by omega), List.take_of_length_le (by omega)] at this)
        clear h h' hn hn' hR
        go_wp2_with fail
        go_ret
        exact ⟨by rw [He.out]; rfl, q0, rfl⟩
  · have hne : ((n : Int) != (n' : Int)) = true := by simp; omega
    have Hn := Lib.hid (show R = false by
      obtain ⟨h, h', hn, hn', hR⟩ := H.out
      rw [hR]; exact decide_eq_false fun e => hnn (by rw [hn, hn', e]))
    clear hn hn' hnn
    go_enter Tryd.func31, Tryd.ntmps31
    go_wp2_with fail
    go_ret
    exact ⟨by rw [Hn.out]; rfl, 0, rfl⟩
end Go.Proofs.YtpcdbkaeijhmfaaDoor
