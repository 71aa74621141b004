/- block.Right, of whatever block. -/
import Derived.Test.YtecpbnkkgdppoaaRt
import Derived.Test.YtecpbnkkgdppoaaRig
namespace Go.Proofs.Ytecpbnkkgdppoaa
open Go.RowKit
def RuPost (S L n : Nat) (Wm : Int) (D : Nat) (w : World) (e : Ending) (w' : World) : Prop := e = .returned (.bool (decide (Wm = (warmN S L n : Nat) ∧ Wm + 1 ≤ D ∧ D ≤ Wm + S))) ∧ Frm (fun _ => False) w w'
set_option maxRecDepth 100000 in
set_option maxHeartbeats 1600000 in
theorem bright_mid (S L n : Nat) (Wm s1 : Int) (A1 : Option Addr) (D c1 : Nat) (w : World) (hC : Cut S L 0) (hn : n ≤ 2147483647) (h1 : ((n * S : Nat) : Int) ≤ s1) (h2 : s1 ≤ ((n * S : Nat) : Int) + 4611686018427387904) (hD : D ≤ 9223372036854775807) :
    Calls Try.prog 18 #[.agg #[.int .i64 n, .int .i64 s1, .int .i64 Wm, .slice A1 D c1], .int .i64 S, .int .i64 L] w (RuPost S L n Wm D w) := by
  have hm : sizesB S L = true := by obtain ⟨h1, h2, h3, h4, h5⟩ := hC; unfold sizesB; exact decide_eq_true (by omega)
  have hP : n * S ≤ 2147483647 * 256 := Nat.mul_le_mul hn hC.s2
  have hwm := fun w => warm_any S L 0 n w ⟨hC.l1, hC.l2⟩ (by omega)
  have k1 : IntKind.i64.wrap ((n : Int) * (S : Int)) = ((n * S : Nat) : Int) := by rw [Int.natCast_mul]; exact IntWalk.i64_in _ (by rw [← Int.natCast_mul]; omega)
  have k2 : wrap64 ((n : Int) * (S : Int)) = ((n * S : Nat) : Int) := by rw [Int.natCast_mul]; exact IntWalk.wrap64_in _ (by rw [← Int.natCast_mul]; omega)
  have hS := hC.s2
  have hSn : (S : Int) ≤ 256 := by omega
  have hs1 := hC.s1
  unfold RuPost
  have hp0 : (0 : Int) ≤ ((n * S : Nat) : Int) := Int.natCast_nonneg _
  have hP : ((n * S : Nat) : Int) ≤ 2147483647 * 256 := by omega
  generalize ((n * S : Nat) : Int) = P at *
  have hn0 : decide ((n : Int) < 0) = false := by simp
  have hn1 : decide (2147483647 < (n : Int)) = false := by simp; omega
  have e1 : decide (s1 < P) = false := by simp; omega
  have hp2 : IntKind.i64.wrap (P + 4611686018427387904) = P + 4611686018427387904 := IntWalk.i64_in _ (by omega)
  have e2 : decide (P + 4611686018427387904 < s1) = false := by simp; omega
  obtain ⟨W, hWW⟩ : ∃ W, W = warmN S L n := ⟨_, rfl⟩
  have hW2 := warm_le S L n
  have hl2 := hC.l2
  rw [← hWW] at hwm hW2 ⊢
  have hWb : W ≤ 32 := by omega
  obtain ⟨rb, hrb⟩ : ∃ rb, rb = decide (Wm = W ∧ Wm + 1 ≤ D ∧ D ≤ Wm + S) := ⟨_, rfl⟩
  rw [← hrb]
  have Hm := Lib.hid hm
  have Hw := Lib.hid hwm
  have HR := Lib.hid hrb
  clear hm hwm hrb hC hWW hW2 hl2 h1 h2
  go_enter Try.func18, Try.ntmps18
  go_upto_region 1 with fail
  have hFa : Frm (fun _ => False) w (w.alloc (.cells #[.int .i64 n, .int .i64 s1, .int .i64 Wm, .slice A1 D c1] 40)) := (Frm.refl _ w).alloc _
  have hb := Blk.new w 40 #[.int .i64 n, .int .i64 s1, .int .i64 Wm, .slice A1 D c1]
  obtain ⟨g, hg⟩ : ∃ g, g = w.heap.size := ⟨_, rfl⟩
  rw [← hg] at hb
  rw [← hg]
  generalize w.alloc (.cells #[.int .i64 n, .int .i64 s1, .int .i64 Wm, .slice A1 D c1] 40) = wa at *
  obtain ⟨p0, p1, p2, p3, -⟩ := blk4 hb
  have HB := Lib.hid (And.intro hFa hb)
  clear hFa hb hg
  go_wp2_with fail
  refine (sizes_any _ _ _).mono ?_
  rintro e w' ⟨rfl, rfl⟩
  rw [Hm.out]
  go_upto_region 4 with fail
  have hFb : Frm (fun _ => False) wa (wa.alloc (.cells #[.int .i64 S, .int .i64 L, .int .i64 0] 56)) := (Frm.refl _ wa).alloc _
  have hq := Blk.new wa 56 #[.int .i64 S, .int .i64 L, .int .i64 0]
  have hb := HB.out.2.kept hFb id
  obtain ⟨g2, hg2⟩ : ∃ g2, g2 = wa.heap.size := ⟨_, rfl⟩
  rw [← hg2] at hq
  rw [← hg2]
  generalize wa.alloc (.cells #[.int .i64 S, .int .i64 L, .int .i64 0] 56) = wb at *
  clear p0 p1 p2 p3
  obtain ⟨p0, p1, p2, p3, -⟩ := blk4 hb
  obtain ⟨q0, q1, q2⟩ : wb.cell? ⟨g2, 0, none⟩ = some (.int .i64 S) ∧ wb.cell? ⟨g2, 1, none⟩ = some (.int .i64 L) ∧ wb.cell? ⟨g2, 2, none⟩ = some (.int .i64 0) := ⟨hq.cell 0, hq.cell 1, hq.cell 2⟩
  have HC := Lib.hid (And.intro HB.out.1 hFb)
  clear hFb hq hb hg2 HB
  go_upto_region 5 with fail
  go_region_held3 (fun w' => w'.cell? ⟨g, 0, none⟩ = some (.int .i64 n) ∧ w'.cell? ⟨g, 1, none⟩ = some (.int .i64 s1) ∧ w'.cell? ⟨g, 2, none⟩ = some (.int .i64 Wm) ∧ w'.cell? ⟨g, 3, none⟩ = some (.slice A1 D c1) ∧ w'.cell? ⟨g2, 0, none⟩ = some (.int .i64 S) ∧ w'.cell? ⟨g2, 1, none⟩ = some (.int .i64 L) ∧ w'.cell? ⟨g2, 2, none⟩ = some (.int .i64 0)) (first | exact ⟨p0, p1, p2, p3, q0, q1, q2⟩ | exact ⟨d0, d1, d2, d3, d4, d5, d6⟩)
    ((go_at_call 34; refine (Hw.out _).mono ?_; rintro e w2 ⟨rfl, hF⟩; have d0 := hF.cell p0 id; have d1 := hF.cell p1 id; have d2 := hF.cell p2 id; have d3 := hF.cell p3 id; have d4 := hF.cell q0 id; have d5 := hF.cell q1 id; have d6 := hF.cell q2 id))
  all_goals
    by_cases hWm : Wm = W
    · have e3 : (Wm != (W : Int)) = false := by simp; omega
      have hF2 := Lib.hid (((HC.out.1.trans HC.out.2 fun _ h => h.elim).drew).trans hF fun _ h => h.elim)
      clear hF p0 p1 p2 p3 q0 q1 q2
      have hbb : IntKind.i64.wrap ((D : Int) - Wm) = (D : Int) - Wm := IntWalk.i64_in _ (by omega)
      go_wp2_with fail
      all_goals
        go_ret
        refine ⟨ret_bool ?_, hF2.out⟩
        rw [HR.out]
        first
        | (rw [decide_eq_decide]; omega)
        | (symm; rw [decide_eq_false_iff_not]; omega)
        | (symm; rw [decide_eq_true_iff]; omega)
    · have e3 : (Wm != (W : Int)) = true := by simp; omega
      have hF2 := Lib.hid (((HC.out.1.trans HC.out.2 fun _ h => h.elim).drew).trans hF fun _ h => h.elim)
      clear hF p0 p1 p2 p3 q0 q1 q2
      go_wp2_with fail
      all_goals
        go_ret
        refine ⟨ret_bool ?_, hF2.out⟩
        rw [HR.out]
        symm; rw [decide_eq_false_iff_not]; omega
set_option maxRecDepth 100000 in
set_option maxHeartbeats 1600000 in
theorem bright_gen (K : Nat → Prop) (s l : Int) (x : Bk) (w : World) (hx : Sl w K x.v (bv x.c.data)) :
    Calls Try.prog 18 #[bEnc x, .int .i64 s, .int .i64 l] w (RightPost s l x.c w) := by
  obtain ⟨vx, n1, s1, w1, l1⟩ := x
  dsimp only [bEnc] at *
  obtain ⟨A1, m1, c1, rfl, hm, hmc, hcm, -⟩ := id hx
  rw [bv_length] at hm
  clear hx
  have hnew : ∀ w, Frm (fun _ => False) w (w.alloc (.cells #[.int .i64 n1, .int .i64 s1, .int .i64 w1, .slice A1 m1 c1] 40)) := fun w => (Frm.refl _ w).alloc _
  have Hn := Lib.hid hnew
  clear hnew
  unfold RightPost
  cases hz : sizesB s l with
  | false =>
    have hr : rightB s l ⟨n1, s1, w1, l1⟩ = false := by
      unfold sizesB at hz
      unfold rightB mayB
      rw [decide_eq_false_iff_not] at hz
      rw [Bool.and_eq_false_iff]
      left
      rw [decide_eq_false_iff_not]
      rintro ⟨a, b, c, d, -⟩
      exact hz ⟨a, b, c, d⟩
    rw [hr]
    have Hz := Lib.hid hz
    clear hz hr hm hmc hcm
    go_enter Try.func18, Try.ntmps18
    go_wp2_with fail
    refine (sizes_any _ _ _).mono ?_
    rintro e w' ⟨rfl, rfl⟩
    rw [Hz.out]
    go_wp2_with fail
    go_ret
    exact ⟨rfl, Hn.out w⟩
  | true =>
    have hz' := of_decide_eq_true hz
    obtain ⟨S, rfl⟩ : ∃ S : Nat, s = S := ⟨s.toNat, by omega⟩
    obtain ⟨L, rfl⟩ : ∃ L : Nat, l = L := ⟨l.toNat, by omega⟩
    have hC : Cut S L 0 := ⟨by omega, by omega, by omega, by omega, by omega⟩
    have hmay : mayB S L 0 = true := decide_eq_true (by omega)
    by_cases hn : 0 ≤ n1 ∧ n1 ≤ 2147483647
    · obtain ⟨n, rfl⟩ : ∃ n : Nat, n1 = n := ⟨n1.toNat, by omega⟩
      have hP : n * S ≤ 2147483647 * 256 := Nat.mul_le_mul (by omega) hC.s2
      by_cases hs : ((n * S : Nat) : Int) ≤ s1 ∧ s1 ≤ ((n * S : Nat) : Int) + 4611686018427387904
      · refine (bright_mid S L n w1 s1 A1 m1 c1 w hC (by omega) hs.1 hs.2 (by omega)).mono ?_
        rintro e w' ⟨rfl, hF⟩
        refine ⟨ret_bool ?_, hF⟩
        unfold rightB
        rw [hmay, Bool.true_and, decide_eq_decide]
        have e1 : min ((L : Int) - 1) ((n : Int) * (S : Int)) = ((warmN S L n : Nat) : Int) := by
          have := hC.l1
          unfold warmN
          rw [← Int.natCast_mul]
          omega
        dsimp only
        rw [e1, ← Int.natCast_mul, ← hm]
        constructor
        · rintro ⟨a, b, c⟩; exact ⟨by omega, by omega, hs.1, hs.2, a, b, c⟩
        · rintro ⟨-, -, -, -, h⟩; exact h
      · have hr : rightB S L ⟨n, s1, w1, l1⟩ = false := by
          unfold rightB
          rw [hmay, Bool.true_and, decide_eq_false_iff_not]
          rintro ⟨-, -, a, b, -⟩
          dsimp only at a b
          rw [← Int.natCast_mul] at a b
          exact hs ⟨a, b⟩
        rw [hr]
        have k1 : IntKind.i64.wrap ((n : Int) * (S : Int)) = ((n * S : Nat) : Int) := by rw [Int.natCast_mul]; exact IntWalk.i64_in _ (by rw [← Int.natCast_mul]; omega)
        have k2 : wrap64 ((n : Int) * (S : Int)) = ((n * S : Nat) : Int) := by rw [Int.natCast_mul]; exact IntWalk.wrap64_in _ (by rw [← Int.natCast_mul]; omega)
        have hp0 : (0 : Int) ≤ ((n * S : Nat) : Int) := Int.natCast_nonneg _
        have hP : ((n * S : Nat) : Int) ≤ 2147483647 * 256 := by omega
        generalize ((n * S : Nat) : Int) = P at *
        have hn0 : decide ((n : Int) < 0) = false := by simp
        have hn1 : decide (2147483647 < (n : Int)) = false := by simp; omega
        have hp2 : IntKind.i64.wrap (P + 4611686018427387904) = P + 4611686018427387904 := IntWalk.i64_in _ (by omega)
        have Hz := Lib.hid hz
        clear hz hz' hm hmay hr hC hn
        go_enter Try.func18, Try.ntmps18
        go_upto_region 1 with fail
        have hFa := Hn.out w
        have hb := Blk.new w 40 #[.int .i64 n, .int .i64 s1, .int .i64 w1, .slice A1 m1 c1]
        obtain ⟨g, hg⟩ : ∃ g, g = w.heap.size := ⟨_, rfl⟩
        rw [← hg] at hb
        rw [← hg]
        generalize w.alloc (.cells #[.int .i64 n, .int .i64 s1, .int .i64 w1, .slice A1 m1 c1] 40) = wa at *
        obtain ⟨p0, p1, p2, p3, -⟩ := blk4 hb
        have HB := Lib.hid (And.intro hFa hb)
        clear hFa hb hg
        go_wp2_with fail
        refine (sizes_any _ _ _).mono ?_
        rintro e w' ⟨rfl, rfl⟩
        rw [Hz.out]
        go_upto_region 4 with fail
        have hFb : Frm (fun _ => False) wa (wa.alloc (.cells #[.int .i64 S, .int .i64 L, .int .i64 0] 56)) := (Frm.refl _ wa).alloc _
        have hb := HB.out.2.kept hFb id
        generalize wa.alloc (.cells #[.int .i64 S, .int .i64 L, .int .i64 0] 56) = wb at *
        clear p0 p1 p2 p3
        obtain ⟨p0, p1, p2, p3, -⟩ := blk4 hb
        have HC := Lib.hid (HB.out.1.trans hFb fun _ h => h.elim)
        clear hFb hb HB
        by_cases h1 : s1 < P
        · have e1 : decide (s1 < P) = true := by simpa using h1
          clear hs
          go_upto_region 5 with fail
          go_quiet (fail)
          go_wp2_with fail
          go_ret
          exact ⟨rfl, HC.out.drewN _⟩
        · have e1 : decide (s1 < P) = false := by simp; omega
          have e2 : decide (P + 4611686018427387904 < s1) = true := by simp; omega
          clear hs
          go_upto_region 5 with fail
          go_quiet (fail)
          go_wp2_with fail
          go_ret
          exact ⟨rfl, HC.out.drewN _⟩
    · have hr : rightB S L ⟨n1, s1, w1, l1⟩ = false := by
        unfold rightB
        rw [hmay, Bool.true_and, decide_eq_false_iff_not]
        rintro ⟨a, b, -⟩
        exact hn ⟨a, b⟩
      rw [hr]
      have Hz := Lib.hid hz
      clear hz hz' hm hmay hr hC
      by_cases h0 : n1 < 0
      · have g0 : decide (n1 < 0) = true := by simpa using h0
        clear hn
        go_enter Try.func18, Try.ntmps18
        go_wp2_with fail
        refine (sizes_any _ _ _).mono ?_
        rintro e w' ⟨rfl, rfl⟩
        rw [Hz.out]
        go_wp2_with fail
        go_ret
        exact ⟨rfl, Hn.out w⟩
      · have g0 : decide (n1 < 0) = false := by simp; omega
        have g1 : decide (2147483647 < n1) = true := by simp; omega
        clear hn
        go_enter Try.func18, Try.ntmps18
        go_wp2_with fail
        refine (sizes_any _ _ _).mono ?_
        rintro e w' ⟨rfl, rfl⟩
        rw [Hz.out]
        go_wp2_with fail
        go_ret
        exact ⟨rfl, Hn.out w⟩
end Go.Proofs.Ytecpbnkkgdppoaa
