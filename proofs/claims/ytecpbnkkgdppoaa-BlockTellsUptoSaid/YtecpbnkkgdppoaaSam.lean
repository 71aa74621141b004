/- The same block? All the same? -/
import Derived.Test.YtecpbnkkgdppoaaClo
namespace Go.Proofs.Ytecpbnkkgdppoaa
open Go.RowKit
theorem str_eq (l l' : List UInt8) : ((⟨l.toArray⟩ : ByteArray).toList == (⟨l'.toArray⟩ : ByteArray).toList) = decide (l = l') := by
  rw [ByteArray.toList_mk, ByteArray.toList_mk, Bool.eq_iff_iff, beq_iff_eq, decide_eq_true_iff]
theorem bc_eq (x y : Bc) : (x = y) ↔ x.num = y.num ∧ x.start = y.start ∧ x.warm = y.warm ∧ x.data = y.data := by
  cases x; cases y; simp
def SamePost (x y : Bc) (w : World) (e : Ending) (w' : World) : Prop := e = .returned (.bool (decide (x = y))) ∧ Frm (fun _ => False) w w'
set_option maxHeartbeats 800000 in
theorem rsame_any (K : Nat → Prop) (x y : Bk) (w : World) (hx : Sl w K x.v (bv x.c.data)) (hy : Sl w K y.v (bv y.c.data)) (hK : ∀ q, K q → q < w.heap.size) :
    Calls Try.prog 21 #[bEnc x, bEnc y] w (SamePost x.c y.c w) := by
  obtain ⟨vx, n1, s1, w1, l1⟩ := x
  obtain ⟨vy, n2, s2, w2, l2⟩ := y
  dsimp only [bEnc] at *
  obtain ⟨A1, m1, c1, rfl, -⟩ := id hx
  obtain ⟨A2, m2, c2, rfl, -⟩ := id hy
  have hF : Frm (fun _ => False) w ((w.alloc (.cells #[.int .i64 n1, .int .i64 s1, .int .i64 w1, .slice A1 m1 c1] 40)).alloc (.cells #[.int .i64 n2, .int .i64 s2, .int .i64 w2, .slice A2 m2 c2] 40)) := ((Frm.refl _ w).alloc _).alloc _
  have b1 := (Blk.new w 40 #[.int .i64 n1, .int .i64 s1, .int .i64 w1, .slice A1 m1 c1]).alloc (.cells #[.int .i64 n2, .int .i64 s2, .int .i64 w2, .slice A2 m2 c2] 40)
  have b2 := Blk.new (w.alloc (.cells #[.int .i64 n1, .int .i64 s1, .int .i64 w1, .slice A1 m1 c1] 40)) 40 #[.int .i64 n2, .int .i64 s2, .int .i64 w2, .slice A2 m2 c2]
  rw [World.size_alloc] at b2
  have H := Lib.hid (And.intro hx (And.intro hy hK))
  clear hx hy hK
  go_enter Try.func21, Try.ntmps21
  go_upto_region 1 with fail
  generalize (w.alloc (.cells #[.int .i64 n1, .int .i64 s1, .int .i64 w1, .slice A1 m1 c1] 40)).alloc (.cells #[.int .i64 n2, .int .i64 s2, .int .i64 w2, .slice A2 m2 c2] 40) = w3 at *
  have e1 := run_conv (P := Try.prog) Try.underlying22 Try.underlying5 Try.underlying9 (H.out.1.kept fun q hq => hF.block q (H.out.2.2 q hq) id)
  have e2 := run_conv (P := Try.prog) Try.underlying22 Try.underlying5 Try.underlying9 (H.out.2.1.kept fun q hq => hF.block q (H.out.2.2 q hq) id)
  obtain ⟨p0, p1, p2, p3, -⟩ := blk4 b1
  obtain ⟨q0, q1, q2, q3, -⟩ := blk4 b2
  have Hs := Lib.hid (str_eq l1 l2)
  generalize (⟨l1.toArray⟩ : ByteArray) = S1 at *
  generalize (⟨l2.toArray⟩ : ByteArray) = S2 at *
  have HF := Lib.hid hF
  clear hF b1 b2
  unfold SamePost
  have HD : Hid (∀ b : Bool, (b = true ↔ n1 = n2 ∧ s1 = s2 ∧ w1 = w2 ∧ l1 = l2) → b = decide ((⟨n1, s1, w1, l1⟩ : Bc) = ⟨n2, s2, w2, l2⟩)) := Lib.hid fun b hb => by
    rw [Bool.eq_iff_iff, hb, decide_eq_true_iff, bc_eq]
  by_cases h1 : n1 = n2
  · have g1 : (n1 == n2) = true := by simpa using h1
    by_cases h2 : s1 = s2
    · have g2 : (s1 == s2) = true := by simpa using h2
      by_cases h3 : w1 = w2
      · have g3 : (w1 == w2) = true := by simpa using h3
        have H3 := Lib.hid (And.intro h1 (And.intro h2 h3))
        clear h1 h2 h3
        go_wp2_with fail
        go_ret
        exact ⟨ret_bool (HD.out _ (by rw [Hs.out, decide_eq_true_iff]; obtain ⟨a, b, c⟩ := H3.out; simp [a, b, c])), HF.out⟩
      · have g3 : (w1 == w2) = false := by simpa using h3
        have H3 := Lib.hid h3
        clear h1 h2 h3
        go_wp2_with fail
        go_ret
        exact ⟨ret_bool (HD.out false (by simp; intro _ _ h; exact absurd h H3.out)), HF.out⟩
    · have g2 : (s1 == s2) = false := by simpa using h2
      have H3 := Lib.hid h2
      clear h1 h2
      go_wp2_with fail
      go_ret
      exact ⟨ret_bool (HD.out false (by simp; intro _ h; exact absurd h H3.out)), HF.out⟩
  · have g1 : (n1 == n2) = false := by simpa using h1
    have H3 := Lib.hid h1
    clear h1
    go_wp2_with fail
    go_ret
    exact ⟨ret_bool (HD.out false (by simp; intro h; exact absurd h H3.out)), HF.out⟩
end Go.Proofs.Ytecpbnkkgdppoaa
