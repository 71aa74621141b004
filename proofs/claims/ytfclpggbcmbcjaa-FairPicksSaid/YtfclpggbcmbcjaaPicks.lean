/- The walk of teasellaw25.FairPicks. -/
import Derived.Test.YtfclpggbcmbcjaaWk
import Derived.Test.YtfclpggbcmbcjaaFl
import Derived.Deep.DeepCutAuto
import Derived.Deep.CutBlock
import Derived.BigQuiet
namespace Go.Proofs.Ytfclpggbcmbcjaa
open Go.RowKit
/-- What Next answers of a list that is not empty, in one form. -/
theorem next_uni (k s z : Int) (v : Value) (l : List Int) (w1 : World) (hl : l ≠ []) (h : Calls Try.prog 13 #[.agg #[.int .u8 k, .int .u32 s, .int .i64 z], v] w1 (NextPost k s z (pickK k s z l) w1)) :
    ∃ (mb : Bool) (y s2 z2 : Int), Calls Try.prog 13 #[.agg #[.int .u8 k, .int .u32 s, .int .i64 z], v] w1 (fun e w' => e = .returned (.tuple #[.agg #[.int .u8 k, .int .u32 s2, .int .i64 z2], .int .i64 y, .bool mb]) ∧ Frm (fun _ => False) w1 w') ∧
      mb = decide (1 ≤ k ∧ k < 5) ∧ (mb = true → y ∈ l ∧ z2 = y) ∧ (mb = false → s2 = s ∧ z2 = z ∧ y = 0) ∧ (k ≠ 4 → s2 = s) ∧ (k = 1 → ∀ x ∈ l, y ≤ x) ∧ (k = 2 → ∀ x ∈ l, x ≤ y) ∧ (k = 3 → ∀ x ∈ l, z < x → z < y ∧ y ≤ x) := by
  cases hp : pickK k s z l with
  | none =>
    rw [hp] at h
    have hno := pickK_no hp hl
    refine ⟨false, 0, s, z, h, (by simp; omega), fun h => (by cases h), fun _ => ⟨rfl, rfl, rfl⟩, fun _ => rfl, fun h => (by omega), fun h => (by omega), fun h => (by omega)⟩
  | some px =>
    obtain ⟨y, s'⟩ := px
    rw [hp] at h
    obtain ⟨_, h1, h2, h3, h4, h5, h6, h7⟩ := pickK_law hp
    exact ⟨true, y, s', y, h, (by simp; omega), fun _ => ⟨h3, rfl⟩, fun h => (by cases h), h4, h5, h6, h7⟩
set_option maxRecDepth 100000 in
set_option maxHeartbeats 4000000 in
theorem picks_any (x k s z : Int) (hxr : -9223372036854775808 ≤ x ∧ x ≤ 9223372036854775807) (v : Value) (l : List Int) (w : World) (h : Sl w (fun q => q < w.heap.size) v (l.map iv)) :
    Calls Try.prog 5 #[.int .i64 x, .agg #[.int .u8 k, .int .u32 s, .int .i64 z], v] w fun e w' => e = .returned (.bool true) ∧ Frm (fun _ => False) w w' := by
  obtain ⟨A, n, c, rfl, hn, hc, hm, hrow⟩ := id h
  rw [List.length_map] at hn
  have H := Lib.hid (And.intro h (And.intro hn hrow))
  clear h hn hrow
  by_cases hbig : 60 < n
  · have hb : decide (60 < n) = true := by simpa using hbig
    go_enter Try.func5, Try.ntmps5
    go_wp2_with fail
    refine (wakes_any _).mono ?_
    rintro e w' ⟨rfl, hF⟩
    go_wp2_with fail
    go_ret
    exact ⟨rfl, ((Frm.refl _ w).alloc _).trans hF fun _ h => h.elim⟩
  · have hb : decide (60 < n) = false := by simpa using hbig
    have hn60 : n ≤ 60 := by omega
    clear hbig
    have hF1 : Frm (fun _ => False) w (w.alloc (.cells #[.int .u8 k, .int .u32 s, .int .i64 z] 31)) := (Frm.refl _ w).alloc _
    have hP1 : PlanAt (w.alloc (.cells #[.int .u8 k, .int .u32 s, .int .i64 z] 31)) w.heap.size 31 k s z := Blk.new w _ _
    have hs1 : (w.alloc (.cells #[.int .u8 k, .int .u32 s, .int .i64 z] 31)).heap.size = w.heap.size + 1 := by simp
    go_enter Try.func5, Try.ntmps5
    go_wp2_with fail
    generalize w.alloc (.cells #[.int .u8 k, .int .u32 s, .int .i64 z] 31) = w1 at *
    have hsl1 : Sl w1 (fun q => q < w.heap.size) (.slice A n c) (l.map iv) := H.out.1.kept fun q hq => hF1.block q hq id
    have hpk := pickn_any x _ _ l w1 hsl1 (by have := H.out.2.1; omega)
    have hnx := next_any k s z _ _ l w1 hsl1 (by have := H.out.2.1; omega) (fun q hq => by omega)
    have H1 := Lib.hid (And.intro hF1 (And.intro hP1 (And.intro hs1 hsl1)))
    have Hn := Lib.hid hnx
    have Hp := Lib.hid hpk
    clear hF1 hP1 hs1 hsl1 hnx hpk
    generalize w.heap.size = b0 at *
    obtain ⟨c0, c1, c2, -, -⟩ := H1.out.2.1.cells
    refine Hp.out.mono ?_
    by_cases hl0 : l = []
    · rintro e w' ⟨rfl, rfl⟩
      have e0 : pickK k s z l = none := by unfold pickK; rw [if_pos hl0]
      rw [e0] at Hn
      rw [if_pos hl0]
      have hn0 : n = 0 := by have := H.out.2.1; rw [hl0] at this; simpa using this
      subst hn0
      clear hl0 e0 Hp
      go_wp2_with fail
      refine Hn.out.mono ?_
      rintro e w2 ⟨rfl, hF2⟩
      have hP2 : PlanAt w2 b0 31 k s z := Blk.kept H1.out.2.1 hF2 id
      have HP2 := Lib.hid (And.intro hP2 (H1.out.1.trans hF2 fun _ h => h.elim))
      obtain ⟨d0, d1, d2, -, -⟩ := hP2.cells
      have hlt : b0 < w2.heap.size := by have := H1.out.2.2.1; have := hF2.size; omega
      clear c0 c1 c2 hF2 hP2
      go_wp2_with fail
      refine (wakes_any _).mono ?_
      rintro e w3 ⟨rfl, hF3⟩
      go_wp2_with fail
      go_ret
      exact ⟨rfl, (HP2.out.2.alloc _).trans hF3 fun _ h => h.elim⟩
    · have hmem := pickN_mem x l hl0
      rintro e w' ⟨rfl, rfl⟩
      rw [if_neg hl0]
      have hn1 : 1 ≤ n := by have := H.out.2.1; have := List.length_pos_iff.2 hl0; omega
      have hnn : ((n : Int) == 0) = false := by simp; omega
      generalize hpx : pickN x l = a at *
      have Hpx := Lib.hid (And.intro hpx (And.intro hmem hl0))
      clear hpx hmem Hp
      obtain ⟨mb, y, s2, z2, hcall, hmb, hyes, hno, h4, h1, h2, h3⟩ := next_uni k s z (.slice A n c) l w1 Hpx.out.2.2 Hn.out
      have HU := Lib.hid (And.intro hyes (And.intro h4 (And.intro h1 (And.intro h2 h3))))
      have Hc := Lib.hid hcall
      clear hcall hyes h4 h1 h2 h3 Hn hl0
      go_wp2_with fail
      refine Hc.out.mono ?_
      rintro e w2 ⟨rfl, hF2⟩
      have hP2 : PlanAt w2 b0 31 k s z := Blk.kept H1.out.2.1 hF2 id
      have hsl2 : Sl w2 (fun q => q < b0) (.slice A n c) (l.map iv) := H1.out.2.2.2.kept fun q hq => hF2.block q (by have := H1.out.2.2.1; omega) id
      have hlt : b0 < w2.heap.size := by have := H1.out.2.2.1; have := hF2.size; omega
      have hO := Blk.new w2 31 #[.int .u8 k, .int .u32 s2, .int .i64 z2]
      have H2 := Lib.hid (And.intro hP2 (And.intro (H1.out.1.trans hF2 fun _ h => h.elim) (And.intro hsl2 hO)))
      have hg3 : Frm (fun _ => False) w2 (w2.alloc (.cells #[.int .u8 k, .int .u32 s2, .int .i64 z2] 31)) := (Frm.refl _ w2).alloc _
      obtain ⟨d0, d1, d2, -, -⟩ := (show PlanAt _ b0 31 k s z from Blk.kept hP2 hg3 id).cells
      obtain ⟨e0, e1, e2, -, -⟩ := (show PlanAt _ w2.heap.size 31 k s2 z2 from hO).cells
      have hsl3 : Sl (w2.alloc (.cells #[.int .u8 k, .int .u32 s2, .int .i64 z2] 31)) (fun q => q < b0) (.slice A n c) (l.map iv) := hsl2.kept fun q hq => hg3.block q (by omega) id
      have hi1 := in_any _ _ l a _ hsl3
      have hi2 := in_any _ _ l y _ hsl3
      have H3 := Lib.hid (And.intro hi1 (And.intro hi2 (And.intro hsl3 hg3)))
      clear c0 c1 c2 hF2 hP2 hsl2 hO hg3 hsl3 hi1 hi2 Hc
      have ha : decide (a ∈ l) = true := by simpa using Hpx.out.2.1
      have Ha := Lib.hid ha
      clear ha
      have HA : Hid (mb = true ∧ (z2 != y) = false ∧ decide (y ∈ l) = true ∨ mb = false ∧ s = s2 ∧ z = z2 ∧ (y != 0) = false) := Lib.hid (by
        cases mb with
        | true => obtain ⟨h1, h2⟩ := HU.out.1 rfl; exact .inl ⟨rfl, by simp [h2], by simpa using h1⟩
        | false => obtain ⟨h1, h2, h3⟩ := hno rfl; exact .inr ⟨rfl, h1.symm, h2.symm, by simp [h3]⟩)
      clear hno
      have HK : Hid (mb = true ∧ decide (1 ≤ k) = true ∧ decide (k < 5) = true ∨ mb = false ∧ decide (1 ≤ k) = true ∧ decide (k < 5) = false ∨ mb = false ∧ decide (1 ≤ k) = false) := Lib.hid (by
        subst hmb
        by_cases h1 : 1 ≤ k <;> by_cases h5 : k < 5 <;> simp [h1, h5])
      clear hmb
      go_upto_region 5 with fail
      generalize w2.alloc (.cells #[.int .u8 k, .int .u32 s2, .int .i64 z2] 31) = w3 at *
      generalize w2.heap.size = b9 at *
      have HL : Hid (l.length = n ∧ ∀ j (h : j < l.length), ∃ g o, A = some ⟨g, o, none⟩ ∧ w3.cell? ⟨g, o + j, none⟩ = some (.int .i64 l[j]) ∧ l[j] ∈ l) := Lib.hid ⟨H.out.2.1.symm, fun j hj => by
        obtain ⟨A', n', c', e, e2, -, -, hrow⟩ := H3.out.2.2.1
        cases e
        obtain ⟨g, o, rfl, -, hx⟩ := hrow.resolve_left (by omega)
        exact ⟨g, o, rfl, by have := hx j (by simpa using hj); simpa [iv] using this, List.getElem_mem hj⟩⟩
      go_upto_region 8 with fail
      go_cut [13] (fun t wc => wc = w3 ∧ t = .bool mb)
      case first => as_aux_lemma =>
        rcases HK.out with ⟨rfl, g1, g2⟩ | ⟨rfl, g1, g2⟩ | ⟨rfl, g1⟩
        all_goals
          clear HK HA
          go_wp2_with fail
          go_meet
          case rel => exact ⟨rfl, rfl⟩
      case rest =>
        obtain ⟨rfl, rfl⟩ := hcut
        go_upto_region 9 with fail
        go_cut [115] (fun t w9 => w9 = wc ∧ t = .bool false)
        case first => as_aux_lemma =>
          rcases HA.out with ⟨rfl, hzy, hyd⟩ | ⟨rfl, q1, q2, hy0⟩
          · have Hy := Lib.hid hyd
            clear hyd HK HA
            go_wp2_with fail
            refine H3.out.1.mono ?_
            rintro e w' ⟨rfl, rfl⟩
            rw [Ha.out]
            go_wp2_with fail
            refine H3.out.2.1.mono ?_
            rintro e w' ⟨rfl, rfl⟩
            rw [Hy.out]
            go_wp2_with fail
            go_meet
            case rel => exact ⟨rfl, rfl⟩
          · subst q1 q2
            clear HK HA
            go_wp2_with fail
            refine H3.out.1.mono ?_
            rintro e w' ⟨rfl, rfl⟩
            rw [Ha.out]
            go_wp2_with fail
            go_meet
            case rel => exact ⟨rfl, rfl⟩
        case rest =>
          obtain ⟨rfl, rfl⟩ := hcut
          clear HK HA
          go_upto_region 11 with fail
          go_cut [121] (fun t wc' => wc' = wc ∧ ∃ xb, Hid (xb = true → 0 ≤ x ∧ x < 4611686018427387904) ∧ t = .bool xb)
          case first => as_aux_lemma =>
            by_cases hx0 : 0 ≤ x
            · by_cases hx1 : x < 4611686018427387904
              · have hd0 : decide (0 ≤ x) = true := by simpa using hx0
                have hd1 : decide (x < 4611686018427387904) = true := by simpa using hx1
                have HX := Lib.hid (And.intro hx0 hx1)
                clear hx0 hx1
                go_wp2_with fail
                go_meet
                case rel => exact ⟨rfl, true, Lib.hid (fun _ => HX.out), rfl⟩
              · have hd0 : decide (0 ≤ x) = true := by simpa using hx0
                have hd1 : decide (x < 4611686018427387904) = false := by simpa using hx1
                clear hx0 hx1
                go_wp2_with fail
                go_meet
                case rel => exact ⟨rfl, false, Lib.hid (fun h => by cases h), rfl⟩
            · have hd0 : decide (0 ≤ x) = false := by simpa using hx0
              clear hx0
              go_wp2_with fail
              go_meet
              case rel => exact ⟨rfl, false, Lib.hid (fun h => by cases h), rfl⟩
          case rest =>
            obtain ⟨rfl, xb, Hxb, rfl⟩ := hcut
            go_upto_if 121 with fail
            go_cut [] (fun w1' => w1' = wc)
            case first => as_aux_lemma =>
              cases xb with
              | false =>
                go_wp2_with fail
                go_meet
                case rel => rfl
              | true =>
                obtain ⟨hx0, hx1⟩ := Hxb.out rfl
                obtain ⟨j, rfl⟩ := Int.eq_ofNat_of_zero_le hx0
                have hp2 := pickn_any ((j : Int) + n) _ _ l wc H3.out.2.2.1 (by have := HL.out.1; omega)
                have HP2 := Lib.hid hp2
                have Hpj : Hid (pickN ((j : Int) + n) l = a) := Lib.hid (by rw [← Hpx.out.1, ← HL.out.1]; exact pickN_add _ _)
                clear hp2
                unfold PickNPost at HP2
                rw [Hpj.out, if_neg Hpx.out.2.2] at HP2
                go_wp2_with fail
                refine HP2.out.mono ?_
                rintro e w' ⟨rfl, rfl⟩
                by_cases hjn : j < n
                · obtain ⟨hlen, hx⟩ := HL.out
                  obtain ⟨g, o, rfl, hc1, -⟩ := hx j (by omega)
                  have hja : l[j]'(by omega) = a := by rw [← Hpx.out.1]; exact (pickN_small j l (by omega)).symm
                  rw [hja] at hc1
                  have hd1 : decide (j < n) = true := by simpa using hjn
                  clear hja hx hlen hx0 hx1 hxr
                  go_wp2_with fail
                  go_meet
                  case rel => rfl
                · have hd1 : decide (j < n) = false := by simpa using hjn
                  clear hx0 hx1 hxr
                  go_wp2_with fail
                  go_meet
                  case rel => rfl
            case rest => as_aux_lemma =>
              subst hcut
              clear Hxb Ha Hpx
              go_wp2_with fail
              go_loopw [16] (fun i wr => ∃ j : Nat, j ≤ n ∧ i = .int .i64 j ∧ ∃ q, wr = wc.drewN q) (fun i _ => n - (intOf i).toNat)
              case atStart => exact ⟨0, Nat.zero_le _, rfl, 0, rfl⟩
              case round =>
                obtain ⟨j, hj, rfl, q, rfl⟩ := hrel
                by_cases hlt : j < n
                · obtain ⟨hlen, hx⟩ := HL.out
                  obtain ⟨g, o, rfl, hc1, hmem⟩ := hx j (by omega)
                  obtain ⟨u, hu⟩ : ∃ u, u = l[j]'(by omega) := ⟨_, rfl⟩
                  rw [← hu] at hc1 hmem
                  have Hm := Lib.hid (And.intro hlen hmem)
                  have hj0 : 0 ≤ (j : Int) := by omega
                  clear hx hlen hmem hu
                  by_cases k1 : k = 1
                  · subst k1
                    have t1 : decide (u < y) = false := decide_eq_false (by have := HU.out.2.2.1 rfl u Hm.out.2; omega)
                    go_upto_region 18 with fail
                    go_quiet (fail)
                    go_wp2_with fail
                    go_roundw
                    case rel => exact ⟨j + 1, by omega, by go_num, q + nq, rfl⟩
                    case measure => simp [intOf]; omega
                  · have b1 : (k == 1) = false := by simpa using k1
                    by_cases k2 : k = 2
                    · subst k2
                      have t1 : decide (y < u) = false := decide_eq_false (by have := HU.out.2.2.2.1 rfl u Hm.out.2; omega)
                      clear b1
                      go_upto_region 18 with fail
                      go_quiet (fail)
                      go_wp2_with fail
                      go_roundw
                      case rel => exact ⟨j + 1, by omega, by go_num, q + nq, rfl⟩
                      case measure => simp [intOf]; omega
                    · have b2 : (k == 2) = false := by simpa using k2
                      by_cases k3 : k = 3
                      · subst k3
                        clear b1 b2
                        by_cases hz : z < u
                        · have t1 : decide (z < u) = true := by simpa using hz
                          obtain ⟨r1, r2⟩ := HU.out.2.2.2.2 rfl u Hm.out.2 hz
                          have t2 : decide (y ≤ z) = false := decide_eq_false (by omega)
                          have t3 : decide (u < y) = false := decide_eq_false (by omega)
                          clear r1 r2 hz
                          go_upto_region 18 with fail
                          go_quiet (fail)
                          go_wp2_with fail
                          go_roundw
                          case rel => exact ⟨j + 1, by omega, by go_num, q + nq, rfl⟩
                          case measure => simp [intOf]; omega
                        · have t1 : decide (z < u) = false := by simpa using hz
                          clear hz
                          go_upto_region 18 with fail
                          go_quiet (fail)
                          go_wp2_with fail
                          go_roundw
                          case rel => exact ⟨j + 1, by omega, by go_num, q + nq, rfl⟩
                          case measure => simp [intOf]; omega
                      · have b3 : (k == 3) = false := by simpa using k3
                        clear k1 k2 k3
                        go_upto_region 18 with fail
                        go_quiet (fail)
                        go_wp2_with fail
                        go_roundw
                        case rel => exact ⟨j + 1, by omega, by go_num, q + nq, rfl⟩
                        case measure => simp [intOf]; omega
                · obtain rfl : j = n := by omega
                  by_cases hk4 : k = 4
                  · subst hk4
                    go_wp2_with fail
                    refine (wakes_any _).mono ?_
                    rintro e w4 ⟨rfl, hF⟩
                    go_wp2_with fail
                    go_ret
                    exact ⟨rfl, (((H2.out.2.1.trans H3.out.2.2.2 (fun _ h => h.elim)).drewN q).trans hF (fun _ h => h.elim))⟩
                  · have hkb : (k == 4) = false := by simpa using hk4
                    have hsb : (s2 == s) = true := by simpa using HU.out.2.1 hk4
                    clear hk4
                    go_wp2_with fail
                    refine (wakes_any _).mono ?_
                    rintro e w4 ⟨rfl, hF⟩
                    go_wp2_with fail
                    go_ret
                    exact ⟨rfl, (((H2.out.2.1.trans H3.out.2.2.2 (fun _ h => h.elim)).drewN q).trans hF (fun _ h => h.elim))⟩
end Go.Proofs.Ytfclpggbcmbcjaa
