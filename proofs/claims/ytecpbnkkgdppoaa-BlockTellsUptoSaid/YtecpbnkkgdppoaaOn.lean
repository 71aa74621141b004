/- teaselref19.one: the block of a number. -/
import Derived.Test.YtecpbnkkgdppoaaJg
namespace Go.Proofs.Ytecpbnkkgdppoaa
open Go.RowKit
set_option maxRecDepth 100000 in
set_option maxHeartbeats 1600000 in
theorem one_any (K : Nat → Prop) (S L F n : Nat) (t : List UInt8) (A : Option Addr) (m c : Nat) (w : World) (hC : Cut S L F) (hn : n * S ≤ t.length) (hn9 : n ≤ 1000000000) (hsl : Sl w K (.slice A m c) (bv t)) (ht : t.length ≤ 1000000000) (hK : ∀ q, K q → q < w.heap.size) :
    Calls Try.prog 32 #[.int .i64 S, .int .i64 L, .int .i64 F, .slice A m c, .int .i64 n] w (BlkPost S L F n (dataN S L t n) w) := by
  obtain ⟨i0, hi, hz0, hz1, hz2⟩ := info_parts infoU
  obtain ⟨hmt, hmc, hcm⟩ : m = t.length ∧ m ≤ c ∧ c ≤ 9223372036854775807 := by
    obtain ⟨A', m', c', e, e1, e2, e3, -⟩ := hsl
    cases e
    exact ⟨by simpa using e1, e2, e3⟩
  have hmul : IntKind.i64.wrap ((n : Int) * (S : Int)) = ((n * S : Nat) : Int) := by rw [Int.natCast_mul]; exact IntWalk.i64_in _ (by rw [← Int.natCast_mul]; omega)
  have hwl := warm_le S L n
  have hwd : warmN S L n = L - 1 ∧ L - 1 ≤ n * S ∨ warmN S L n = n * S ∧ n * S ≤ L - 1 := by unfold warmN; omega
  have hst : IntKind.i64.wrap ((F : Int) + ((n * S : Nat) : Int)) = ((F + n * S : Nat) : Int) := by rw [Int.natCast_add]; exact IntWalk.i64_in _ (by have := hC.f; omega)
  unfold BlkPost
  obtain ⟨Z, hZ⟩ : ∃ Z, Z = F + n * S := ⟨_, rfl⟩
  rw [← hZ] at hst ⊢
  obtain ⟨E, hE⟩ : ∃ E, E = min (n * S + S) m := ⟨_, rfl⟩
  have hdat : dataN S L t n = (t.take E).drop (n * S - warmN S L n) := by
    unfold dataN
    rw [hE, Nat.add_mul, Nat.one_mul]
    by_cases h : n * S + S ≤ m
    · rw [Nat.min_eq_left h]
    · rw [Nat.min_eq_right (by omega), List.take_of_length_le (by omega), List.take_of_length_le (by omega)]
  generalize warmN S L n = W at *
  generalize n * S = P at *
  obtain ⟨Q, hQ⟩ : ∃ Q, Q = P - W := ⟨_, rfl⟩
  have hPQ : IntKind.i64.wrap ((P : Int) - (W : Int)) = (Q : Int) := by rw [show (P : Int) - (W : Int) = (Q : Int) from by omega]; exact IntWalk.i64_in _ (by omega)
  have hrc := run_cut (P := Try.prog) (t := 22) Try.underlying22 sizeU A m c (Q : Int) (E : Int) (by omega) (by omega) (by omega)
  rw [Int.toNat_natCast, Int.toNat_natCast] at hrc
  have hslc := hsl.cut Q E (by omega) (by omega)
  rw [← hQ] at hdat
  rw [bv_cut, ← hdat] at hslc
  have hdl : (dataN S L t n).length = E - Q := by rw [hdat, List.length_drop, List.length_take]; omega
  generalize dataN S L t n = D at *
  generalize (if c = Q then A else A.map fun x => x.add (Q * 1)) = A2 at *
  have hca : (P + S ≤ m ∧ E = P + S) ∨ (m < P + S ∧ E = m) := by omega
  have hP9 : P ≤ 1000000000 := by omega
  have hS9 := hC.s2
  have hL9 := hC.l2
  have hL1 := hC.l1
  have hEQ : E - Q ≤ c - Q := by omega
  have hDl : E - Q ≤ 1000000000 := by omega
  have H := Lib.hid (And.intro hslc (And.intro hdl (And.intro hK (And.intro hE (And.intro hQ hwl)))))
  clear hslc hdl hK hE hQ hwl hsl hdat hC hZ hmt hn
  go_enter Try.func32, Try.ntmps32
  go_upto_region 2 with fail
  go_cut [12] (fun t wc => wc = w.alloc (.cells #[.int .i64 0, .int .i64 0, .int .i64 0, .slice none 0 0] 40) ∧ t = .int .i64 E)
  case first =>
    clear hwd
    rcases hca with ⟨h1, h2⟩ | ⟨h1, h2⟩
    · have hES : (P : Int) + (S : Int) = (E : Int) := by omega
      clear h2
      go_wp2_with fail
      go_meet
      case rel => exact ⟨rfl, rfl⟩
    · have hES : (m : Int) = (E : Int) := by omega
      clear h2
      go_wp2_with fail
      go_meet
      case rel => exact ⟨rfl, rfl⟩
  case rest =>
    obtain ⟨hwc, rfl⟩ := hcut
    clear hca
    go_upto_region 3 with fail
    go_cut [13] (fun t wd => wd = wc ∧ t = .int .i64 W)
    case first =>
      clear hwc
      rcases hwd with ⟨h1, h2⟩ | ⟨h1, h2⟩
      · have hES : (L : Int) - 1 = (W : Int) := by omega
        clear h1
        go_wp2_with fail
        go_meet
        case rel => exact ⟨rfl, rfl⟩
      · obtain rfl : P = W := by omega
        go_wp2_with fail
        all_goals
          go_meet
          case rel => exact ⟨rfl, congrArg (Value.int .i64) (by omega)⟩
    case rest =>
      obtain ⟨rfl, rfl⟩ := hcut
      clear hwd
      go_upto_region 4 with fail
      have hFc : Frm (fun _ => False) w wc := by rw [hwc]; exact (Frm.refl _ w).alloc _
      have hbc : Blk wc w.heap.size 40 #[.int .i64 0, .int .i64 0, .int .i64 0, .slice none 0 0] := by rw [hwc]; exact Blk.new w _ _
      obtain ⟨g, hg⟩ : ∃ g, g = w.heap.size := ⟨_, rfl⟩
      rw [← hg] at hbc ⊢
      have HC := Lib.hid (And.intro hFc (And.intro hbc hg))
      clear hFc hbc hg hwc
      go_wp2_with (at_builtin; go_loud (refine wpList_append_sl (by rfl) _ _ 22 (by rfl) wc.heap.size 5 i0 (.int .u8 0) 1 Try.underlying22 hi hz0 hz1 hz2 (by rfl) _ 0 [] (by rfl) (own_new0 rfl (Nat.le_refl _)) K _ (bv D) (by rfl) (by exact H.out.1.kept fun q hq => (HC.out.1.alloc _).block q (H.out.2.2.1 q hq) id) (bv_one _) (by unfold maxLen; rw [bv_length, H.out.2.1]; omega) (by rw [bv_length, H.out.2.1]; omega) (by simp) ?_); go_loud (intro A1 N1 c1 w1 HN hNc1 hc1 hown1 hg1 hat1; have hF1 : Frm (fun _ => False) wc w1 := ((Frm.refl (fun _ => False) wc).alloc _).grown hg1 (fun k hk => .inr (by cases hk; exact Nat.le_refl _)); have hb1 := HC.out.2.1.kept hF1 id; obtain ⟨m0, m1, m2, m3, f0, f1, f2, f3⟩ := blk4 hb1; have H1 := Lib.hid (And.intro hb1 (And.intro hown1 hF1)); clear hb1 hown1 hF1 hg1 hat1))
      refine bodyPost_ret (results_c0 (p := 10) rfl _ _ g 40 #[.int .i64 n, .int .i64 Z, .int .i64 W, .slice A1 N1 c1] (0, 0) _ rfl ((((H1.out.1.set_ 0 _).set_ 1 _).set_ 2 _).set_ 3 _) Try.underlying40 rfl (by kernel_rfl)) rfl ?_
      obtain ⟨hFc, -, hg⟩ := HC.out
      obtain ⟨hb1, ho1, hF1⟩ := H1.out
      have hN : N1 = E - Q := by have := HN.out; simp [H.out.2.1] at this; exact this
      have hF4 : Frm (fun q => q = g) w1 ((((w1.setCell ⟨g, 0, none⟩ (.int .i64 n)).setCell ⟨g, 1, none⟩ (.int .i64 Z)).setCell ⟨g, 2, none⟩ (.int .i64 W)).setCell ⟨g, 3, none⟩ (.slice A1 N1 c1)) :=
        ((((Frm.refl (fun q => q = g) w1).setCell ⟨g, 0, none⟩ (.inl rfl) _).setCell ⟨g, 1, none⟩ (.inl rfl) _).setCell ⟨g, 2, none⟩ (.inl rfl) _).setCell ⟨g, 3, none⟩ (.inl rfl) _
      refine ⟨_, rfl, ?_, ((hFc.trans hF1 fun _ h => h.elim).trans hF4 fun q hq => .inr (by rw [hq, hg]; exact Nat.le_refl _))⟩
      rw [H.out.2.1, ← hN]
      exact hF4.own (World.ownsRow.mono (by simpa using ho1) hFc.size) (fun q hq hk => own_blk_ne ho1 hb1 (by decide) (by rw [hq, hk]))
end Go.Proofs.Ytecpbnkkgdppoaa
