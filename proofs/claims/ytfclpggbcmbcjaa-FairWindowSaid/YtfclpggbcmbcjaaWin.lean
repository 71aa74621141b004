/- The walk of teasellaw25.FairWindow. -/
import Derived.Test.YtfclpggbcmbcjaaGr
import Derived.Test.YtfclpggbcmbcjaaFm
import Derived.Test.YtfclpggbcmbcjaaWk
import Derived.Deep.DeepCutAuto
import Derived.Deep.CutBlock
import Derived.Outline
namespace Go.Proofs.Ytfclpggbcmbcjaa
open Go.RowKit
theorem turns_get {ts : List (Value × List Int × Int)} {k : Nat} (hk : k < (Turns ts).length) (hk' : k < ts.length) : (Turns ts)[k] = ts[k].2 := by simp [Turns]
set_option maxRecDepth 100000 in
set_option maxHeartbeats 4000000 in
theorem window_law_any (A : Option Addr) (m c : Nat) (ts : List (Value × List Int × Int)) (w : World) (h : TAr w A m c ts) :
    Calls Try.prog 4 #[.slice A m c] w fun e w' => e = .returned (.bool true) ∧ Frm (fun _ => False) w w' := by
  have hg := great_any A m c ts w h
  have H := Lib.hid (And.intro h hg)
  clear h hg
  go_enter Try.func4, Try.ntmps4
  go_wp2_with fail
  refine H.out.2.mono ?_
  rintro e w' ⟨b, rfl, rfl, hb⟩
  cases b with
  | true =>
    clear hb
    go_wp2_with fail
    refine (wakes_any _).mono ?_
    rintro e w' ⟨rfl, hF⟩
    go_wp2_with fail
    go_ret
    exact ⟨rfl, hF⟩
  | false =>
    obtain ⟨hm80, hs⟩ := hb rfl
    have hT := H.out.1.small hs
    have hw1 := window_any A m c ts w hT (by omega)
    have HW := Lib.hid (And.intro hT hw1)
    have hbd := (wait_bnd (Turns ts)).2
    have hlen : (Turns ts).length = m := by rw [hT.1]; simp [Turns]
    rw [hlen] at hbd
    have hrl := run_le (Turns ts)
    have hra := run_at (Turns ts)
    have hw2 : ∀ w, TAt w A m c ts → Calls Try.prog 11 #[.slice A m c] w (WaitPost ts w) := fun w h => wait_any A m c ts w h (by omega)
    have Hw2 := Lib.hid hw2
    clear hb hs hT hw1 hw2
    unfold WinPost at HW
    unfold WaitPost at Hw2
    obtain ⟨T, hTn⟩ : ∃ T : Nat, (waitL (Turns ts)).2.1 = T := ⟨(waitL (Turns ts)).2.1.toNat, by have := hbd.1; omega⟩
    rw [hTn] at HW Hw2 hrl hra hbd
    have HL := Lib.hid hlen
    generalize (waitL (Turns ts)).2.2 = N at *
    have hTm : T ≤ m := by have := hbd.2; omega
    clear hTn hbd
    have HR := Lib.hid hrl
    have HA : Hid (∃ i0 k0 : Nat, T ≠ 0 → i0 + T ≤ m ∧ (∀ k (hk : k < (Turns ts).length), i0 ≤ k → k < i0 + T → wtB (Turns ts)[k] N = true) ∧ ∃ (hi : i0 < (Turns ts).length) (hk : k0 < (Turns ts)[i0].1.length), (Turns ts)[i0].1[k0] = N) := Lib.hid (by
      by_cases h0 : T = 0
      · exact ⟨0, 0, fun h => absurd h0 h⟩
      · obtain ⟨i, r, h1, h2, h3, h4⟩ := hra (by omega)
        obtain rfl : r = T := by omega
        have hi : i < (Turns ts).length := by omega
        have h5 := h4 i hi (Nat.le_refl _) (by omega)
        simp [wtB] at h5
        obtain ⟨k0, hk0, e⟩ := List.getElem_of_mem h5.1
        exact ⟨i, k0, fun _ => ⟨by omega, h4, hi, hk0, e⟩⟩)
    obtain ⟨i0, k0, hA⟩ := HA.out
    have HA := Lib.hid hA
    clear hrl hra hA hlen
    go_wp2_with fail
    refine HW.out.2.mono ?_
    rintro e w2 ⟨rfl, hF2⟩
    have HT2 := Lib.hid (HW.out.1.kept hF2)
    have HF2 := Lib.hid hF2
    clear hF2
    go_wp2_with fail
    refine (Hw2.out w2 HT2.out).mono ?_
    rintro e w3 ⟨rfl, hF3⟩
    have HT3 := Lib.hid (HT2.out.kept hF3)
    have HF3 := Lib.hid (HF2.out.trans hF3 fun _ h => h.elim)
    clear hF3 HT2 HF2 HW Hw2
    have q1 : decide ((T : Int) + 1 < 1) = false := by simp; omega
    have q2 : decide ((m : Int) + 1 < (T : Int) + 1) = false := by simp; omega
    obtain ⟨fb0, hfb⟩ : ∃ fb : Bool, ((T : Int) + 1 == 1) = fb := ⟨_, rfl⟩
    have HFB : Hid (fb0 = true ∨ T ≠ 0) := Lib.hid (by
      by_cases h0 : T = 0
      · left; rw [← hfb, h0]; rfl
      · exact .inr h0)
    go_wp2_with fail
    clear hfb q1 q2
    go_loop [6, 7] (fun f i => ∃ k : Nat, k ≤ m ∧ i = .int .i64 k ∧ ∃ fb, f = .bool fb ∧ Hid (fb = true ∨ (T ≠ 0 ∧ k ≤ i0))) (fun _ i => m - (intOf i).toNat)
    case atStart => exact ⟨0, Nat.zero_le _, rfl, _, rfl, Lib.hid (HFB.out.imp id fun h => ⟨h, Nat.zero_le _⟩)⟩
    case round =>
      clear HFB
      obtain ⟨k, hk, rfl, fb, rfl, hfb⟩ := hrel
      by_cases hlt : k < m
      · obtain ⟨hmt, hmc, hcm, hx⟩ := HT3.out
        have hkl : k < ts.length := by omega
        obtain ⟨g, o, rfl, hg, d0, d1, hsl, hwf, hl6⟩ := hx k hkl
        have hkk := turns_get (ts := ts) (by rw [HL.out]; exact hlt) hkl
        have Hk := Lib.hid hkk
        clear hx hmt hwf d1 hg hkk
        generalize ts[k] = t at *
        obtain ⟨v, l, p⟩ := t
        obtain ⟨A', n', c', rfl, hn', hc', hcm', hrow⟩ := id hsl
        dsimp only at d0 hn' hl6
        rw [List.length_map] at hn'
        have Hr := Lib.hid (And.intro hn' hrow)
        have hn6 : n' ≤ 1000000 := by omega
        clear hsl hkl hn' hrow hl6
        go_wp2_with fail
        go_loop [6, 8] (fun f j => ∃ q : Nat, q ≤ n' ∧ j = .int .i64 q ∧ ∃ fb, f = .bool fb ∧ Hid (fb = true ∨ (T ≠ 0 ∧ (k < i0 ∨ k = i0 ∧ q ≤ k0)))) (fun _ j => n' - (intOf j).toNat)
        case atStart => exact ⟨0, Nat.zero_le _, rfl, _, rfl, Lib.hid (hfb.out.imp id fun h => ⟨h.1, by omega⟩)⟩
        case round =>
          clear hfb
          obtain ⟨q, hq, rfl, fb, rfl, hfb⟩ := hrel
          by_cases hql : q < n'
          · obtain ⟨hn', hrow⟩ := Hr.out
            obtain ⟨g', o', rfl, hg', hcs⟩ := hrow.resolve_left (by omega)
            have hql2 : q < l.length := by omega
            have c1 : w3.cell? ⟨g', o' + q, none⟩ = some (.int .i64 l[q]) := by rw [hcs q (by simpa using hql2)]; simp [iv]
            have HU : Hid (∃ u, u = l[q]) := ⟨_, rfl⟩
            obtain ⟨u, hu⟩ := HU.out
            rw [← hu] at c1
            have Hu : Hid (∃ h : q < l.length, u = l[q]) := Lib.hid ⟨hql2, hu⟩
            clear hu HU hcs hrow hn' hg' hql2
            go_upto_block 4 with fail
            go_cut [10] (fun t wc => wc = w3 ∧ ∃ r : Nat, t = .int .i64 r ∧ r ≤ T ∧ Hid (T ≠ 0 → k = i0 → q = k0 → r = T ∧ u = N))
            case first =>
              clear hfb
              go_wp2_with fail
              go_loop [10] (fun t => ∃ r : Nat, k + r ≤ m ∧ t = .int .i64 r ∧ Hid (∀ i (hi : i < (Turns ts).length), k ≤ i → i < k + r → wtB (Turns ts)[i] u = true)) (fun t => m - (intOf t).toNat)
              case atStart => exact ⟨0, by omega, rfl, Lib.hid fun i _ h1 h2 => by omega⟩
              case round =>
                obtain ⟨r, hr, rfl, hrun⟩ := hrel
                have hrT : r ≤ T := by have := HR.out u k r (by rw [HL.out]; exact hr) hrun.out; omega
                have HE : Hid ((T ≠ 0 → k = i0 → q = k0 → u = N) ∧ (T ≠ 0 → k = i0 → q = k0 → r < T → ∃ h : k + r < (Turns ts).length, wtB (Turns ts)[k + r] u = true)) := by
                  have key : T ≠ 0 → k = i0 → q = k0 → u = N := fun h0 h1 h2 => by
                    obtain ⟨b1, b2, hi, hkk, e⟩ := HA.out h0
                    obtain ⟨b3, b4⟩ := Hu.out
                    subst h1 h2
                    have := Hk.out
                    rw [b4, ← e]
                    simp [this]
                  refine Lib.hid ⟨key, fun h0 h1 h2 h3 => ?_⟩
                  obtain ⟨b1, b2, hi, hkk, e⟩ := HA.out h0
                  have hlt2 : k + r < (Turns ts).length := by rw [HL.out]; omega
                  refine ⟨hlt2, ?_⟩
                  rw [key h0 h1 h2]
                  exact b2 _ hlt2 (by omega) (by omega)
                by_cases hrm : k + r < m
                · obtain ⟨hmt, -, -, hx⟩ := HT3.out
                  obtain ⟨g2, o2, he2, -, e0, e1, hsl2, -, -⟩ := hx (k + r) (by omega)
                  cases he2
                  have hkk := turns_get (ts := ts) (by rw [HL.out]; exact hrm) (show k + r < ts.length by omega)
                  have Hk2 := Lib.hid hkk
                  have hin := in_any _ _ _ u w3 hsl2
                  clear hx hkk hsl2
                  generalize ts[k + r] = t2 at *
                  clear hmt
                  obtain ⟨v2, l2, p2⟩ := t2
                  dsimp only at e0 e1 hin
                  have Hin := Lib.hid hin
                  clear hin
                  go_wp2_with fail
                  refine Hin.out.mono ?_
                  rintro e w' ⟨rfl, rfl⟩
                  by_cases hm2 : u ∈ l2
                  · rw [decide_eq_true hm2]
                    by_cases hp2 : p2 = u
                    · have hb2 : (p2 != u) = false := by simp [hp2]
                      have hno : Hid (∀ h : k + r < (Turns ts).length, wtB (Turns ts)[k + r] u = false) := Lib.hid fun h => by rw [Hk2.out]; simp [wtB, hp2]
                      clear hm2 hp2
                      go_wp2_with fail
                      go_meet
                      case rel => exact ⟨rfl, r, rfl, hrT, Lib.hid fun h0 h1 h2 => ⟨Decidable.byContradiction fun h3 => (by
                        obtain ⟨b1, b2⟩ := HE.out.2 h0 h1 h2 (by omega)
                        rw [hno.out b1] at b2; cases b2), HE.out.1 h0 h1 h2⟩⟩
                    · have hb2 : (p2 != u) = true := by simp [hp2]
                      have hyes : Hid (∀ h : k + r < (Turns ts).length, wtB (Turns ts)[k + r] u = true) := Lib.hid fun h => by rw [Hk2.out]; simp [wtB, hp2, hm2]
                      clear hm2 hp2
                      go_wp2_with fail
                      go_round
                      case rel => exact ⟨r + 1, by omega, by go_num, Lib.hid fun i hi h1 h2 => (by
                        by_cases hir : i = k + r
                        · subst hir; exact hyes.out hi
                        · exact hrun.out i hi h1 (by omega))⟩
                      case measure => simp [intOf]; omega
                  · rw [decide_eq_false hm2]
                    have hno : Hid (∀ h : k + r < (Turns ts).length, wtB (Turns ts)[k + r] u = false) := Lib.hid fun h => by rw [Hk2.out]; simp [wtB, hm2]
                    clear hm2
                    go_wp2_with fail
                    go_meet
                    case rel => exact ⟨rfl, r, rfl, hrT, Lib.hid fun h0 h1 h2 => ⟨Decidable.byContradiction fun h3 => (by
                      obtain ⟨b1, b2⟩ := HE.out.2 h0 h1 h2 (by omega)
                      rw [hno.out b1] at b2; cases b2), HE.out.1 h0 h1 h2⟩⟩
                · have Hrm : Hid (r < T → T ≠ 0 → k ≠ i0) := Lib.hid fun h1 h2 h3 => by
                    obtain ⟨b1, -⟩ := HA.out h2
                    omega
                  go_wp2_with fail
                  go_meet
                  case rel => exact ⟨rfl, r, rfl, hrT, Lib.hid fun h0 h1 h2 => ⟨Decidable.byContradiction fun h3 => Hrm.out (by omega) h0 h1, HE.out.1 h0 h1 h2⟩⟩
            case rest =>
              obtain ⟨rfl, r, rfl, hrT, Hrr⟩ := hcut
              have t1 : decide ((T : Int) + 1 ≤ (r : Int)) = false := by simp; omega
              cases fb with
              | true =>
                go_wp2_with fail
                go_round
                case rel => exact ⟨q + 1, by omega, by go_num, true, rfl, Lib.hid (.inl rfl)⟩
                case measure => simp [intOf]; omega
              | false =>
                obtain ⟨h0, hpos⟩ := hfb.out.resolve_left (by intro h; cases h)
                have Hp := Lib.hid (And.intro h0 hpos)
                clear h0 hpos hfb
                by_cases hrT2 : r = T
                · have e1 : ((r : Int) == (T : Int)) = true := by simp [hrT2]
                  have hN : Hid (Hid (((u == N) = true) ∨ T ≠ 0 ∧ (k < i0 ∨ k = i0 ∧ q + 1 ≤ k0))) := Lib.hid (Lib.hid (by
                    by_cases hh : k = i0 ∧ q = k0
                    · left; simpa using (Hrr.out Hp.out.1 hh.1 hh.2).2
                    · right; have := Hp.out; omega))
                  subst hrT2
                  go_wp2_with fail
                  go_round
                  case rel => exact ⟨q + 1, by omega, by go_num, _, rfl, hN.out⟩
                  case measure => simp [intOf]; omega
                · have e1 : ((r : Int) == (T : Int)) = false := by simp; omega
                  have hN : Hid (k < i0 ∨ k = i0 ∧ q + 1 ≤ k0) := Lib.hid (by
                    by_cases hh : k = i0 ∧ q = k0
                    · exact absurd (Hrr.out Hp.out.1 hh.1 hh.2).1 hrT2
                    · have := Hp.out; omega)
                  go_wp2_with fail
                  go_round
                  case rel => exact ⟨q + 1, by omega, by go_num, _, rfl, Lib.hid (.inr ⟨Hp.out.1, hN.out⟩)⟩
                  case measure => simp [intOf]; omega
          · obtain rfl : q = n' := by omega
            have hN : Hid (fb = true ∨ T ≠ 0 ∧ k + 1 ≤ i0) := Lib.hid (hfb.out.imp id fun ⟨h1, h2⟩ => ⟨h1, by
              obtain ⟨b1, b2, hi, hkk, e⟩ := HA.out h1
              rcases h2 with h2 | ⟨h2, h3⟩
              · omega
              · subst h2
                have e2 := Hk.out
                have e3 := Hr.out.1
                simp only [e2] at hkk
                omega⟩)
            clear hfb
            go_wp2_with fail
            go_round
            case rel => exact ⟨_, _, _, ⟨k + 1, by omega, by go_num, by
              rcases hN.out with rfl | ⟨h1, h2⟩
              · exact .inr ⟨rfl, Lib.hid trivial⟩
              · cases fb with
                | true => exact .inr ⟨rfl, Lib.hid trivial⟩
                | false => exact .inl ⟨rfl, Lib.hid ⟨h1, h2⟩⟩⟩, rfl, rfl, rfl⟩
            case measure => simp [intOf]; omega
      · obtain rfl : k = m := by omega
        obtain rfl : fb = true := by
          rcases hfb.out with h | ⟨h1, h2⟩
          · exact h
          · obtain ⟨b1, b2, hi, hkk, e⟩ := HA.out h1
            rw [HL.out] at hi
            omega
        clear hfb
        go_wp2_with fail
        refine (wakes_any _).mono ?_
        rintro e w' ⟨rfl, hF⟩
        go_wp2_with fail
        go_ret
        exact ⟨rfl, HF3.out.trans hF fun _ h => h.elim⟩
end Go.Proofs.Ytfclpggbcmbcjaa
