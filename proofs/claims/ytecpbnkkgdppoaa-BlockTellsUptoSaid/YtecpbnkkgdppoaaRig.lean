/- May a block be? -/
import Derived.Test.YtecpbnkkgdppoaaAll
namespace Go.Proofs.Ytecpbnkkgdppoaa
open Go.RowKit
/-- May a block be one of a cutting? -/
def rightB (s l : Int) (x : Bc) : Bool :=
  mayB s l 0 && decide (0 ≤ x.num ∧ x.num ≤ 2147483647 ∧ x.num * s ≤ x.start ∧ x.start ≤ x.num * s + 4611686018427387904 ∧ x.warm = min (l - 1) (x.num * s) ∧ x.warm + 1 ≤ (x.data.length : Int) ∧ (x.data.length : Int) ≤ x.warm + s)
def RightPost (s l : Int) (x : Bc) (w : World) (e : Ending) (w' : World) : Prop := e = .returned (.bool (rightB s l x)) ∧ Frm (fun _ => False) w w'
theorem mul_bnd2 {n s : Int} (h0 : 0 ≤ n) (h1 : n ≤ 2147483647) (h2 : 1 ≤ s) (h3 : s ≤ 256) : 0 ≤ n * s ∧ n * s ≤ 2147483647 * 256 :=
  ⟨Int.mul_nonneg h0 (by omega), Int.mul_le_mul h1 h3 (by omega) (by omega)⟩
set_option maxHeartbeats 1600000 in
theorem rright_any (K : Nat → Prop) (s l : Int) (x : Bk) (w : World) (hx : Sl w K x.v (bv x.c.data)) :
    Calls Try.prog 19 #[bEnc x, .int .i64 s, .int .i64 l] w (RightPost s l x.c w) := by
  obtain ⟨vx, n1, s1, w1, l1⟩ := x
  dsimp only [bEnc] at *
  obtain ⟨A1, m1, c1, rfl, hm, hmc, hcm, -⟩ := id hx
  rw [bv_length] at hm
  obtain ⟨rb, hrb⟩ : ∃ rb, rb = rightB s l ⟨n1, s1, w1, l1⟩ := ⟨_, rfl⟩
  unfold RightPost
  rw [← hrb]
  obtain ⟨mb, hmb⟩ : ∃ mb, mb = mayB s l 0 := ⟨_, rfl⟩
  have hmay := fun w => may_any s l 0 w
  rw [← hmb] at hmay
  unfold rightB at hrb
  rw [← hmb, ← hm] at hrb
  have HM := Lib.hid hmay
  have HB := Lib.hid (And.intro hrb hmb)
  clear hx hrb hmb hmay hm
  cases mb with
  | false =>
    go_enter Try.func19, Try.ntmps19
    go_wp2_with fail
    refine (HM.out _).mono ?_
    rintro e w' ⟨rfl, rfl⟩
    go_wp2_with fail
    go_ret
    exact ⟨ret_bool (by rw [HB.out.1]; rfl), (Frm.refl _ w).alloc _⟩
  | true =>
    have hmm := of_decide_eq_true HB.out.2.symm
    obtain ⟨m1', m2', m3', m4', -, -⟩ := hmm
    by_cases hn : 0 ≤ n1 ∧ n1 ≤ 2147483647
    · obtain ⟨hn0, hn1⟩ := hn
      obtain ⟨p0, p1⟩ := mul_bnd2 hn0 hn1 m1' m2'
      have hmul : wrap64 (n1 * s) = n1 * s := IntWalk.wrap64_in _ ⟨by omega, by omega⟩
      have hmul4 : IntKind.i64.wrap (n1 * s) = n1 * s := IntWalk.i64_in _ (by omega)
      obtain ⟨P, hP⟩ : ∃ P, P = n1 * s := ⟨_, rfl⟩
      rw [← hP] at p0 p1
      have hmul2 : wrap64 (n1 * s) = P := hmul.trans hP.symm
      have hmul3 : IntKind.i64.wrap (n1 * s) = P := hmul4.trans hP.symm
      clear hmul hmul4
      have HP : Hid (rb = decide (P ≤ s1 ∧ s1 ≤ P + 4611686018427387904 ∧ w1 = min (l - 1) P ∧ w1 + 1 ≤ (m1 : Int) ∧ (m1 : Int) ≤ w1 + s)) := Lib.hid (by
        rw [HB.out.1, Bool.true_and, decide_eq_decide, hP]
        constructor
        · rintro ⟨-, -, h⟩; exact h
        · intro h; exact ⟨hn0, hn1, h⟩)
      clear HB hP
      go_enter Try.func19, Try.ntmps19
      go_wp2_with fail
      refine (HM.out _).mono ?_
      rintro e w' ⟨rfl, rfl⟩
      go_wp2_with fail
      all_goals
        go_ret
        refine ⟨ret_bool ?_, (Frm.refl _ w).alloc _⟩
        rw [HP.out]
        first
        | (rw [decide_eq_decide]; omega)
        | (symm; rw [decide_eq_false_iff_not]; omega)
    · have HP : Hid (rb = false) := Lib.hid (by
        rw [HB.out.1, Bool.true_and, decide_eq_false_iff_not]
        rintro ⟨h1, h2, -⟩
        exact hn ⟨h1, h2⟩)
      clear HB
      go_enter Try.func19, Try.ntmps19
      go_wp2_with fail
      refine (HM.out _).mono ?_
      rintro e w' ⟨rfl, rfl⟩
      by_cases h0 : 0 ≤ n1
      · have h1 : 2147483647 < n1 := by omega
        have g0 : decide (n1 < 0) = false := by simpa using h0
        have g1 : decide (2147483647 < n1) = true := by simpa using h1
        clear hn
        go_wp2_with fail
        go_ret
        exact ⟨ret_bool HP.out.symm, (Frm.refl _ w).alloc _⟩
      · have g0 : decide (n1 < 0) = true := by simp; omega
        clear hn
        go_wp2_with fail
        go_ret
        exact ⟨ret_bool HP.out.symm, (Frm.refl _ w).alloc _⟩
end Go.Proofs.Ytecpbnkkgdppoaa
