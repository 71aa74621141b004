/- teaselref30.Great. -/
import Derived.Deep.DeepCutAuto
import Derived.Deep.CutBlock
import Derived.Test.YtpcdbkaeijhmfaaGreatDoorGG
namespace Go.Proofs.YtpcdbkaeijhmfaaGreatDoor
set_option maxRecDepth 100000
set_option linter.unusedVariables false
set_option linter.unusedSimpArgs false
open Go.RowKit
def capS (l : List By) : Nat := (l.map fun x => min x.length 9000).sum
def greatN (st : St) : Nat := capS (st.words.take 81) + capS (st.reads.take 81)
def greatS (st : St) : Bool := decide (3000 < greatN st) || decide (80 < st.words.length) || decide (80 < st.reads.length) || decide (60 < st.answers.length) || decide (400 < st.picks.length)
theorem capS_snoc (l : List By) (k : Nat) (h : k < l.length) : capS (l.take (k + 1)) = capS (l.take k) + min l[k].length 9000 := by
  unfold capS
  rw [List.take_succ_eq_append_getElem h, List.map_append, List.sum_append]
  simp only [List.map_cons, List.map_nil, List.sum_cons, List.sum_nil, Nat.add_zero]
theorem capS_le (l : List By) (k : Nat) : capS (l.take k) ≤ 9000 * k := by
  unfold capS
  have : ∀ m : List By, (m.map fun x => min x.length 9000).sum ≤ 9000 * m.length := by
    intro m
    induction m with
    | nil => simp
    | cons a r ih => rw [List.map_cons, List.sum_cons, List.length_cons]; omega
  have h1 := this (l.take k)
  rw [List.length_take] at h1
  have : 9000 * min k l.length ≤ 9000 * k := Nat.mul_le_mul_left _ (Nat.min_le_left _ _)
  omega
set_option maxHeartbeats 3200000 in
theorem greatS_any (st : St) (wv rv av pv : Value) (w : World) (hL : LsR w (InW w) st wv rv av pv) :
    Calls Tryz.prog 4 #[.agg (stCells st wv rv av pv)] w fun e w' => e = .returned (.bool (greatS st)) ∧ Frm (fun _ => False) w w' := by
  obtain ⟨Aw, cw, rfl, hw1, hw2⟩ := hL.words.form
  obtain ⟨Ar, cr, rfl, hr1, hr2⟩ := hL.reads.form
  obtain ⟨Aa, na, ca, rfl, ha1, ha2, ha3, -⟩ := id hL.answers
  obtain ⟨Ap, np, cp, rfl, hp1, hp2, hp3, -⟩ := id hL.picks
  rw [bvs, List.length_map] at ha1
  rw [ivs, List.length_map] at hp1
  obtain ⟨nw, hnw⟩ : ∃ nw, nw = st.words.length := ⟨_, rfl⟩
  obtain ⟨nr, hnr⟩ : ∃ nr, nr = st.reads.length := ⟨_, rfl⟩
  obtain ⟨C, hC⟩ : ∃ C, C = stCells st (.slice Aw st.words.length cw) (.slice Ar st.reads.length cr) (.slice Aa na ca) (.slice Ap np cp) := ⟨_, rfl⟩
  rw [← hC]
  have c1 : (w.alloc (.cells C 33)).cell? ⟨w.heap.size, 1, none⟩ = some (.slice Aw nw cw) := by rw [(Blk.new w 33 C).cell, hC, hnw]; rfl
  have c10 : (w.alloc (.cells C 33)).cell? ⟨w.heap.size, 10, none⟩ = some (.slice Ar nr cr) := by rw [(Blk.new w 33 C).cell, hC, hnr]; rfl
  have c11 : (w.alloc (.cells C 33)).cell? ⟨w.heap.size, 11, none⟩ = some (.slice Aa na ca) := by rw [(Blk.new w 33 C).cell, hC]; rfl
  have c12 : (w.alloc (.cells C 33)).cell? ⟨w.heap.size, 12, none⟩ = some (.slice Ap np cp) := by rw [(Blk.new w 33 C).cell, hC]; rfl
  have hF : Frm (fun _ => False) w (w.alloc (.cells C 33)) := (Frm.refl _ w).alloc _
  obtain ⟨g, hg⟩ : ∃ g, g = w.heap.size := ⟨_, rfl⟩
  rw [← hg] at c1 c10 c11 c12
  have hwT := hL.words.keptTo (w' := w.alloc (.cells C 33)) (K' := fun _ => True) fun q hq => ⟨hF.block q hq id, trivial⟩
  have hrT := hL.reads.keptTo (w' := w.alloc (.cells C 33)) (K' := fun _ => True) fun q hq => ⟨hF.block q hq id, trivial⟩
  rw [← hnw] at hwT
  rw [← hnr] at hrT
  have H := Lib.hid (And.intro hwT (And.intro hrT (And.intro hnw (And.intro hnr (And.intro ha1 (And.intro hp1 hF))))))
  have b1 : nw ≤ 9223372036854775807 := by omega
  have b2 : nr ≤ 9223372036854775807 := by omega
  have b3 : na ≤ 9223372036854775807 := by omega
  have b4 : np ≤ 9223372036854775807 := by omega
  clear hL hw1 hw2 hr1 hr2 ha1 ha2 ha3 hp1 hp2 hp3 hF hC hwT hrT hnw hnr
  go_enter Tryz.func4, Tryz.ntmps4
  go_upto_region 1 with fail
  rw [← hg]
  have Hg := Lib.hid hg
  generalize w.alloc (.cells C 33) = W at *
  clear hg
  go_upto_block 0 with fail
  go_cut [3, 4] from 6 to 25 (fun t _ wc => t = .int .i64 ((capS (st.words.take 81) : Nat) : Int) ∧ wc = W)
  case first =>
    go_wp2_with fail
    go_loopw [3, 4] (fun t i wr => ∃ k : Nat, k ≤ nw ∧ k ≤ 81 ∧ i = .int .i64 k ∧ t = .int .i64 ((capS (st.words.take k) : Nat) : Int) ∧ wr = W) (fun _ i _ => nw - (intOf i).toNat)
    case atStart => exact ⟨0, Nat.zero_le _, by omega, by first | rfl | trivial, by first | rfl | simp [capS], by first | rfl | trivial⟩
    case round =>
      obtain ⟨k, hk, hk8, rfl, rfl, rfl⟩ := hrel
      have hcb := capS_le st.words k
      by_cases hlt : k < nw
      · by_cases hk9 : k ≤ 80
        · have hkl : k < st.words.length := by have := H.out.2.2.1; omega
          obtain ⟨u, g1, o1, rfl, -, hc, hu⟩ := H.out.1.at_ k hkl
          have hsn := capS_snoc st.words k hkl
          obtain ⟨B, m, d, rfl, hm, hm1, hm2, -⟩ := hu
          rw [bv_length] at hm
          obtain ⟨x, hx⟩ : ∃ x, x = capS (st.words.take k) := ⟨_, rfl⟩
          rw [← hm] at hsn
          rw [← hx]
          have hx9 : x ≤ 2000000 := by rw [hx]; omega
          have H2 := Lib.hid (And.intro hsn hx)
          have hmm : m ≤ 9223372036854775807 := by omega
          clear hm hx hsn hkl hcb
          go_wp2_with fail
          refine ⟨⟨k + 1, by omega, by omega, by go_num, ?_, by first | rfl | trivial⟩, by simp [intOf]; omega⟩
          obtain ⟨h1, h2⟩ := H2.out
          rw [h1]
          congr 1
          omega
        · have e : st.words.take 81 = st.words.take k := by rw [show k = 81 by omega]
          have He := Lib.hid e
          clear e hcb
          go_wp2_with fail
          go_meet
          case rel => exact ⟨by rw [He.out], rfl⟩
      · have e : st.words.take 81 = st.words.take k := by
          have := H.out.2.2.1
          rw [List.take_of_length_le (by omega), List.take_of_length_le (by omega)]
        have He := Lib.hid e
        obtain rfl : k = nw := by omega
        clear e hcb
        go_wp2_with fail
        go_meet
        case rel => exact ⟨by rw [He.out], rfl⟩
  case rest =>
    obtain ⟨rfl, hwc⟩ := hcut
    rw [hwc]
    clear hwc
    obtain ⟨s1, hs1⟩ : ∃ s1, s1 = capS (st.words.take 81) := ⟨_, rfl⟩
    have hs9 : s1 ≤ 729000 := by have := capS_le st.words 81; omega
    rw [← hs1]
    have Hs1 := Lib.hid hs1
    clear hs1
    go_upto_block 2 with fail
    go_cut [3, 5] from 26 to 47 (fun t _ wc => t = .int .i64 ((s1 + capS (st.reads.take 81) : Nat) : Int) ∧ wc = W)
    case first =>
      go_wp2_with fail
      go_loopw [3, 5] (fun t i wr => ∃ k : Nat, k ≤ nr ∧ k ≤ 81 ∧ i = .int .i64 k ∧ t = .int .i64 ((s1 + capS (st.reads.take k) : Nat) : Int) ∧ wr = W) (fun _ i _ => nr - (intOf i).toNat)
      case atStart => exact ⟨0, Nat.zero_le _, by omega, by first | rfl | trivial, by first | rfl | simp [capS], by first | rfl | trivial⟩
      case round =>
        obtain ⟨k, hk, hk8, rfl, rfl, rfl⟩ := hrel
        have hcb := capS_le st.reads k
        by_cases hlt : k < nr
        · by_cases hk9 : k ≤ 80
          · have hkl : k < st.reads.length := by have := H.out.2.2.2.1; omega
            obtain ⟨u, g1, o1, rfl, -, hc, hu⟩ := H.out.2.1.at_ k hkl
            have hsn := capS_snoc st.reads k hkl
            obtain ⟨B, m, d, rfl, hm, hm1, hm2, -⟩ := hu
            rw [bv_length] at hm
            obtain ⟨x, hx⟩ : ∃ x, x = s1 + capS (st.reads.take k) := ⟨_, rfl⟩
            rw [← hm] at hsn
            rw [← hx]
            have hx9 : x ≤ 2000000 := by rw [hx]; omega
            have H2 := Lib.hid (And.intro hsn hx)
            have hmm : m ≤ 9223372036854775807 := by omega
            clear hm hx hsn hkl hcb
            go_wp2_with fail
            refine ⟨⟨k + 1, by omega, by omega, by go_num, ?_, by first | rfl | trivial⟩, by simp [intOf]; omega⟩
            obtain ⟨h1, h2⟩ := H2.out
            rw [h1]
            congr 1
            omega
          · have e : st.reads.take 81 = st.reads.take k := by rw [show k = 81 by omega]
            have He := Lib.hid e
            clear e hcb
            go_wp2_with fail
            go_meet
            case rel => exact ⟨by rw [He.out], rfl⟩
        · have e : st.reads.take 81 = st.reads.take k := by
            have := H.out.2.2.2.1
            rw [List.take_of_length_le (by omega), List.take_of_length_le (by omega)]
          have He := Lib.hid e
          obtain rfl : k = nr := by omega
          clear e hcb
          go_wp2_with fail
          go_meet
          case rel => exact ⟨by rw [He.out], rfl⟩
    case rest =>
      obtain ⟨rfl, hwc⟩ := hcut
      rw [hwc]
      clear hwc
      have hs2 := capS_le st.reads 81
      obtain ⟨T, hT⟩ : ∃ T, T = s1 + capS (st.reads.take 81) := ⟨_, rfl⟩
      rw [← hT]
      have hT9 : T ≤ 2000000 := by omega
      have HG := Lib.hid (show greatS st = (decide (3000 < T) || decide (80 < nw) || decide (80 < nr) || decide (60 < na) || decide (400 < np)) by
        unfold greatS greatN
        rw [hT, Hs1.out, H.out.2.2.1, H.out.2.2.2.1, H.out.2.2.2.2.1, H.out.2.2.2.2.2.1])
      clear hs2 hT
      by_cases g0 : 3000 < T
      · have d0 : decide ((T : Int) > 3000) = true := decide_eq_true (by omega)
        have Hr := Lib.hid (show greatS st = true by rw [HG.out, decide_eq_true g0]; simp)
        clear g0
        go_wp2_with fail
        go_ret
        exact ⟨by rw [Hr.out]; rfl, H.out.2.2.2.2.2.2⟩
      have d0 : decide ((T : Int) > 3000) = false := decide_eq_false (by omega)
      by_cases g1 : 80 < nw
      · have d1 : decide ((nw : Int) > 80) = true := decide_eq_true (by omega)
        have Hr := Lib.hid (show greatS st = true by rw [HG.out, decide_eq_true g1]; simp)
        clear g1
        go_wp2_with fail
        go_ret
        exact ⟨by rw [Hr.out]; rfl, H.out.2.2.2.2.2.2⟩
      have d1 : decide ((nw : Int) > 80) = false := decide_eq_false (by omega)
      by_cases g2 : 80 < nr
      · have d2 : decide ((nr : Int) > 80) = true := decide_eq_true (by omega)
        have Hr := Lib.hid (show greatS st = true by rw [HG.out, decide_eq_true g2]; simp)
        clear g2
        go_wp2_with fail
        go_ret
        exact ⟨by rw [Hr.out]; rfl, H.out.2.2.2.2.2.2⟩
      have d2 : decide ((nr : Int) > 80) = false := decide_eq_false (by omega)
      by_cases g3 : 60 < na
      · have d3 : decide ((na : Int) > 60) = true := decide_eq_true (by omega)
        have Hr := Lib.hid (show greatS st = true by rw [HG.out, decide_eq_true g3]; simp)
        clear g3
        go_wp2_with fail
        go_ret
        exact ⟨by rw [Hr.out]; rfl, H.out.2.2.2.2.2.2⟩
      have d3 : decide ((na : Int) > 60) = false := decide_eq_false (by omega)
      by_cases g4 : 400 < np
      · have d4 : decide ((np : Int) > 400) = true := decide_eq_true (by omega)
        have Hr := Lib.hid (show greatS st = true by rw [HG.out, decide_eq_true g4]; simp)
        clear g4
        go_wp2_with fail
        go_ret
        exact ⟨by rw [Hr.out]; rfl, H.out.2.2.2.2.2.2⟩
      have d4 : decide ((np : Int) > 400) = false := decide_eq_false (by omega)
      have Hr := Lib.hid (show greatS st = false by rw [HG.out, decide_eq_false g0, decide_eq_false g1, decide_eq_false g2, decide_eq_false g3, decide_eq_false g4]; rfl)
      clear g0 g1 g2 g3 g4
      go_wp2_with fail
      go_ret
      exact ⟨by rw [Hr.out]; rfl, H.out.2.2.2.2.2.2⟩
end Go.Proofs.YtpcdbkaeijhmfaaGreatDoor
