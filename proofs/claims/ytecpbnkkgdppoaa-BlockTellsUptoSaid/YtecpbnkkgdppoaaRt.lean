/- block.Right, of a block whose place may be. -/
import Derived.Test.YtecpbnkkgdppoaaJo
namespace Go.Proofs.Ytecpbnkkgdppoaa
open Go.RowKit
def RtPost (S L n Wm D : Nat) (w : World) (e : Ending) (w' : World) : Prop := e = .returned (.bool (decide (Wm = warmN S L n ∧ Wm + 1 ≤ D ∧ D ≤ Wm + S))) ∧ Frm (fun _ => False) w w'
set_option maxRecDepth 100000 in
set_option maxHeartbeats 1600000 in
theorem bright_any (S L n Wm : Nat) (s1 : Int) (A1 : Option Addr) (D c1 : Nat) (w : World) (hC : Cut S L 0) (hn : n ≤ 1000000000) (h1 : ((n * S : Nat) : Int) ≤ s1) (h2 : s1 ≤ ((n * S : Nat) : Int) + 4611686018427387904) (_hW : Wm ≤ 1000000000) (hD : D ≤ 9223372036854775807) :
    Calls Try.prog 18 #[.agg #[.int .i64 n, .int .i64 s1, .int .i64 Wm, .slice A1 D c1], .int .i64 S, .int .i64 L] w (RtPost S L n Wm D w) := by
  have hm : sizesB S L = true := by obtain ⟨h1, h2, h3, h4, h5⟩ := hC; unfold sizesB; exact decide_eq_true (by omega)
  have hP : n * S ≤ 1000000000 * 256 := Nat.mul_le_mul hn hC.s2
  have hwm := fun w => warm_any S L 0 n w ⟨hC.l1, hC.l2⟩ (by omega)
  have k1 : IntKind.i64.wrap ((n : Int) * (S : Int)) = ((n * S : Nat) : Int) := by rw [Int.natCast_mul]; exact IntWalk.i64_in _ (by rw [← Int.natCast_mul]; omega)
  have k2 : wrap64 ((n : Int) * (S : Int)) = ((n * S : Nat) : Int) := by rw [Int.natCast_mul]; exact IntWalk.wrap64_in _ (by rw [← Int.natCast_mul]; omega)
  have hS := hC.s2
  have hSn : (S : Int) ≤ 256 := by omega
  have hs1 := hC.s1
  unfold RtPost
  have hp0 : (0 : Int) ≤ ((n * S : Nat) : Int) := Int.natCast_nonneg _
  have hP : ((n * S : Nat) : Int) ≤ 1000000000 * 256 := by omega
  generalize ((n * S : Nat) : Int) = P at *
  have hn0 : decide ((n : Int) < 0) = false := by simp
  have hn1 : decide (2147483647 < (n : Int)) = false := by simp; omega
  have e1 : decide (s1 < P) = false := by simp; omega
  have hp2 : IntKind.i64.wrap (P + 4611686018427387904) = P + 4611686018427387904 := IntWalk.i64_in _ (by omega)
  have e2 : decide (P + 4611686018427387904 < s1) = false := by simp; omega
  obtain ⟨W, hWW⟩ : ∃ W, W = warmN S L n := ⟨_, rfl⟩
  have hW2 := warm_le S L n
  have hl2 := hC.l2
  rw [← hWW] at hwm hW2 ⊢
  have hWb : W ≤ 32 := by omega
  obtain ⟨rb, hrb⟩ : ∃ rb, rb = decide (Wm = W ∧ Wm + 1 ≤ D ∧ D ≤ Wm + S) := ⟨_, rfl⟩
  rw [← hrb]
  have Hm := Lib.hid hm
  have Hw := Lib.hid hwm
  have HR := Lib.hid hrb
  clear hm hwm hrb hC hWW hW2 hl2 h1 h2
  go_enter Try.func18, Try.ntmps18
  go_upto_region 1 with fail
  have hFa : Frm (fun _ => False) w (w.alloc (.cells #[.int .i64 n, .int .i64 s1, .int .i64 Wm, .slice A1 D c1] 40)) := (Frm.refl _ w).alloc _
  have hb := Blk.new w 40 #[.int .i64 n, .int .i64 s1, .int .i64 Wm, .slice A1 D c1]
  obtain ⟨g, hg⟩ : ∃ g, g = w.heap.size := ⟨_, rfl⟩
  rw [← hg] at hb
  rw [← hg]
  generalize w.alloc (.cells #[.int .i64 n, .int .i64 s1, .int .i64 Wm, .slice A1 D c1] 40) = wa at *
  obtain ⟨p0, p1, p2, p3, -⟩ := blk4 hb
  have HB := Lib.hid (And.intro hFa hb)
  clear hFa hb hg
  go_wp2_with fail
  refine (sizes_any _ _ _).mono ?_
  rintro e w' ⟨rfl, rfl⟩
  rw [Hm.out]
  go_upto_region 4 with fail
  have hFb : Frm (fun _ => False) wa (wa.alloc (.cells #[.int .i64 S, .int .i64 L, .int .i64 0] 56)) := (Frm.refl _ wa).alloc _
  have hq := Blk.new wa 56 #[.int .i64 S, .int .i64 L, .int .i64 0]
  have hb := HB.out.2.kept hFb id
  obtain ⟨g2, hg2⟩ : ∃ g2, g2 = wa.heap.size := ⟨_, rfl⟩
  rw [← hg2] at hq
  rw [← hg2]
  generalize wa.alloc (.cells #[.int .i64 S, .int .i64 L, .int .i64 0] 56) = wb at *
  clear p0 p1 p2 p3
  obtain ⟨p0, p1, p2, p3, -⟩ := blk4 hb
  obtain ⟨q0, q1, q2⟩ : wb.cell? ⟨g2, 0, none⟩ = some (.int .i64 S) ∧ wb.cell? ⟨g2, 1, none⟩ = some (.int .i64 L) ∧ wb.cell? ⟨g2, 2, none⟩ = some (.int .i64 0) := ⟨hq.cell 0, hq.cell 1, hq.cell 2⟩
  have HC := Lib.hid (And.intro HB.out.1 hFb)
  clear hFb hq hb hg2 HB
  go_upto_region 5 with fail
  go_region_held3 (fun w' => w'.cell? ⟨g, 0, none⟩ = some (.int .i64 n) ∧ w'.cell? ⟨g, 1, none⟩ = some (.int .i64 s1) ∧ w'.cell? ⟨g, 2, none⟩ = some (.int .i64 Wm) ∧ w'.cell? ⟨g, 3, none⟩ = some (.slice A1 D c1) ∧ w'.cell? ⟨g2, 0, none⟩ = some (.int .i64 S) ∧ w'.cell? ⟨g2, 1, none⟩ = some (.int .i64 L) ∧ w'.cell? ⟨g2, 2, none⟩ = some (.int .i64 0)) (first | exact ⟨p0, p1, p2, p3, q0, q1, q2⟩ | exact ⟨d0, d1, d2, d3, d4, d5, d6⟩)
    ((go_at_call 34; refine (Hw.out _).mono ?_; rintro e w2 ⟨rfl, hF⟩; have d0 := hF.cell p0 id; have d1 := hF.cell p1 id; have d2 := hF.cell p2 id; have d3 := hF.cell p3 id; have d4 := hF.cell q0 id; have d5 := hF.cell q1 id; have d6 := hF.cell q2 id))
  all_goals
    by_cases hWm : Wm = W
    · have e3 : ((Wm : Int) != (W : Int)) = false := by simp; omega
      have hF2 := Lib.hid (((HC.out.1.trans HC.out.2 fun _ h => h.elim).drew).trans hF fun _ h => h.elim)
      clear hF p0 p1 p2 p3 q0 q1 q2
      have hbb : IntKind.i64.wrap ((D : Int) - (Wm : Int)) = (D : Int) - (Wm : Int) := IntWalk.i64_in _ (by omega)
      go_wp2_with fail
      all_goals
        go_ret
        refine ⟨ret_bool ?_, hF2.out⟩
        rw [HR.out]
        first
        | (rw [decide_eq_decide]; omega)
        | (symm; rw [decide_eq_false_iff_not]; omega)
        | (symm; rw [decide_eq_true_iff]; omega)
    · have e3 : ((Wm : Int) != (W : Int)) = true := by simp; omega
      have hF2 := Lib.hid (((HC.out.1.trans HC.out.2 fun _ h => h.elim).drew).trans hF fun _ h => h.elim)
      clear hF p0 p1 p2 p3 q0 q1 q2
      go_wp2_with fail
      all_goals
        go_ret
        refine ⟨ret_bool ?_, hF2.out⟩
        rw [HR.out]
        symm; rw [decide_eq_false_iff_not]; omega
end Go.Proofs.Ytecpbnkkgdppoaa
