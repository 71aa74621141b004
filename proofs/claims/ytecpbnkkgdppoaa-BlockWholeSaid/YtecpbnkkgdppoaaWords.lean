/- The walk of teasellaw19.BlockWords. -/
import Derived.Test.YtecpbnkkgdppoaaWk
namespace Go.Proofs.Ytecpbnkkgdppoaa
open Go.RowKit
/-- Each word that ends in a block's own bytes stands in its data. -/
theorem words_law (S L : Nat) (t : List UInt8) (p k : Nat) (hS : 1 ≤ S) (hL : 1 ≤ L) (hp : 1 ≤ p) (hpt : p ≤ t.length) (_hk : 1 ≤ k) (hkp : k ≤ p) (hkL : k ≤ L) :
    (p - 1) / S < numN S t ∧ k ≤ p - (p - 1) / S * S + warmN S L ((p - 1) / S) ∧ p - (p - 1) / S * S + warmN S L ((p - 1) / S) ≤ (dataN S L t ((p - 1) / S)).length ∧ warmN S L ((p - 1) / S) < p - (p - 1) / S * S + warmN S L ((p - 1) / S) ∧
      ((dataN S L t ((p - 1) / S)).take (p - (p - 1) / S * S + warmN S L ((p - 1) / S))).drop (p - (p - 1) / S * S + warmN S L ((p - 1) / S) - k) = (t.take p).drop (p - k) ∧ (p - 1) / S * S ≤ p := by
  obtain ⟨h1, h2⟩ := div_low (p - 1) S hS
  generalize (p - 1) / S = n at *
  have hw := warm_le S L n
  have hww : warmN S L n = L - 1 ∨ warmN S L n = n * S := by unfold warmN; omega
  have h3 : (n + 1) * S = n * S + S := by rw [Nat.add_mul]; omega
  rw [h3] at h2
  refine ⟨(num_bnd S t hS n).2 (by omega), by omega, ?_, by omega, ?_, by omega⟩
  · unfold dataN; rw [List.length_drop, List.length_take, h3]; omega
  · unfold dataN
    rw [h3]
    generalize warmN S L n = W at *
    generalize n * S = N at *
    rw [List.take_drop, List.take_take, List.drop_drop]
    congr 1
    · omega
    · congr 1; omega
theorem cut_to {w : World} {K : Nat → Prop} {A : Option Addr} {n c : Nat} {l : List UInt8} (h : Sl w K (.slice A n c) (bv l)) (x y : Int) (lo hi : Nat) (hx : x = lo) (hy : y = hi) (h1 : lo ≤ hi) (h2 : hi ≤ n) :
    ∃ A2 n2 c2, (∀ w, (Instr.slice 22 (.slice A n c) (some (.int .i64 x)) (some (.int .i64 y)) none).run Try.prog w = .ok (.slice A2 n2 c2) w) ∧
      ∀ w', (∀ q, K q → w'.heap[q]? = w.heap[q]?) → (convert 22 9 (.slice A2 n2 c2)).run Try.prog w' = .ok (.string ⟨((l.take hi).drop lo).toArray⟩) w' := by
  subst hx hy
  have hnc : n ≤ c := by obtain ⟨A', n', c', he, _, hc, _, _⟩ := h; cases he; exact hc
  have hr := run_cut (P := Try.prog) (t := 22) Try.underlying22 sizeU A n c (lo : Int) (hi : Int) (by omega) (by omega) (by omega)
  simp only [Int.toNat_natCast] at hr
  have hs := h.cut lo hi h1 h2
  rw [show (((bv l).take hi).drop lo) = bv ((l.take hi).drop lo) from by simp [bv, List.map_drop, List.map_take]] at hs
  exact ⟨_, _, _, hr, fun w' hw => conv_new (hs.kept hw)⟩
theorem BsAt.cells4 {w : World} {K : Nat → Prop} {A : Option Addr} {m c : Nat} {ys : List Bk} {bs : List Bc} (h : BsAt w K A m c ys) (hb : ys.map (·.c) = bs) (i : Nat) (x : Bc) (hx : bs[i]? = some x) : ∃ g o v, A = some ⟨g, o, none⟩ ∧ K g ∧ w.cell? ⟨g, o + i * 4, none⟩ = some (.int .i64 x.num) ∧ w.cell? ⟨g, o + i * 4 + 1, none⟩ = some (.int .i64 x.start) ∧
    w.cell? ⟨g, o + i * 4 + 2, none⟩ = some (.int .i64 x.warm) ∧ w.cell? ⟨g, o + i * 4 + 3, none⟩ = some v ∧ Sl w K v (bv x.data) := by
  obtain ⟨-, -, -, h4⟩ := h
  rw [← hb, List.getElem?_map] at hx
  cases hy : ys[i]? with
  | none => rw [hy] at hx; cases hx
  | some y =>
    rw [hy] at hx
    obtain rfl : y.c = x := by simpa using hx
    obtain ⟨hi, rfl⟩ := List.getElem?_eq_some_iff.1 hy
    obtain ⟨g, o, e, hg, a0, a1, a2, a3, hs⟩ := h4 i hi
    exact ⟨g, o, _, e, hg, a0, a1, a2, a3, hs⟩
theorem blocks_at (S L F : Nat) (t : List UInt8) (i : Nat) (h : i < numN S t) : (blocksN S L F t)[i]? = some (blkN S L F t i) := by
  simp [blocksN, h]
set_option maxRecDepth 100000 in
set_option maxHeartbeats 4000000 in
theorem words_any (s l f : Int) (p k : Int) (hs : -9223372036854775808 ≤ s ∧ s ≤ 9223372036854775807) (hl : -9223372036854775808 ≤ l ∧ l ≤ 9223372036854775807) (hp : -9223372036854775808 ≤ p ∧ p ≤ 9223372036854775807) (hk : -9223372036854775808 ≤ k ∧ k ≤ 9223372036854775807)
    (A : Option Addr) (n c : Nat) (t : List UInt8) (w : World) (h : Sl w (fun k => k < w.heap.size) (.slice A n c) (bv t)) :
    Calls Try.prog 6 #[.int .i64 s, .int .i64 l, .int .i64 f, .slice A n c, .int .i64 p, .int .i64 k] w fun e w' => e = .returned (.bool true) ∧ Frm (fun _ => False) w w' := by
  have hbd : n = t.length ∧ n ≤ c ∧ c ≤ 9223372036854775807 := by
    obtain ⟨A', n', c', he, hn, hc, hm, _⟩ := h
    cases he
    rw [bv_length] at hn
    exact ⟨hn, hc, hm⟩
  obtain ⟨hn, hnc, hcm⟩ := hbd
  by_cases hok : mayB s l f = true ∧ (n : Int) ≤ 600 ∧ 1 ≤ p ∧ p ≤ n ∧ 1 ≤ k ∧ k ≤ p ∧ k ≤ l
  · obtain ⟨hm, h600, hp1, hpn, hk1, hkp, hkl⟩ := hok
    obtain ⟨S, L, F, rfl, rfl, rfl, hC⟩ := mayB_cut hm
    obtain ⟨p, rfl⟩ : ∃ P : Nat, p = P := ⟨p.toNat, by omega⟩
    obtain ⟨k, rfl⟩ : ∃ P : Nat, k = P := ⟨k.toNat, by omega⟩
    obtain ⟨w1, w2, w3, w4, w5, w6⟩ := words_law S L t p k hC.s1 hC.l1 (by omega) (by omega) (by omega) (by omega) (by omega)
    have hdv : Int.tdiv ((p : Int) - 1) (S : Int) = (((p - 1) / S : Nat) : Int) := by
      rw [show (p : Int) - 1 = ((p - 1 : Nat) : Int) from by omega]; rfl
    have hq6 : (p - 1) / S ≤ 600 := Nat.le_trans (Nat.div_le_self _ _) (by omega)
    have hof := of_eq S L F t _ A n c w hC h (by omega) rfl
    have hbk := blocks_at S L F t _ w1
    obtain ⟨q, hq⟩ : ∃ q, q = (p - 1) / S := ⟨_, rfl⟩
    obtain ⟨E, hE⟩ : ∃ E, E = p - (p - 1) / S * S + warmN S L ((p - 1) / S) := ⟨_, rfl⟩
    obtain ⟨W, hW⟩ : ∃ W, W = warmN S L ((p - 1) / S) := ⟨_, rfl⟩
    obtain ⟨N, hN⟩ : ∃ N, N = (p - 1) / S * S := ⟨_, rfl⟩
    have hblk : blkN S L F t ((p - 1) / S) = ⟨(q : Nat), (F : Int) + (N : Nat), (W : Nat), dataN S L t ((p - 1) / S)⟩ := by
      rw [hq, hN, hW]; show Bc.mk _ _ _ _ = Bc.mk _ _ _ _; congr 1
    obtain ⟨D, hD⟩ : ∃ D, D = dataN S L t ((p - 1) / S) := ⟨_, rfl⟩
    rw [hblk, ← hD, ← hq] at hbk
    rw [← hE] at w2 w3 w4 w5
    rw [← hD] at w3 w5
    rw [← hW] at w4
    rw [← hq] at w1 hdv hq6
    rw [← hN] at w6
    have hEN : E = p - N + W := by rw [hE, hN, hW]
    have hFb := hC.f
    have hSb : (S : Int) ≠ 0 := by have := hC.s1; omega
    have hlen : (blocksN S L F t).length = numN S t := by simp [blocksN]
    have H := Lib.hid (And.intro h (And.intro hn (And.intro hC (And.intro hof (And.intro hbk (And.intro w1 hlen))))))
    have H2 := Lib.hid (And.intro w5 w3)
    have Hm := Lib.hid (fun w => may_any S L F w)
    rw [hm] at Hm
    have hp6 : p ≤ 600 := by omega
    have hW6 : W ≤ 600 := by have := warm_le S L ((p - 1) / S); omega
    have hE2 : (F : Int) + (p : Int) - ((F : Int) + (N : Int)) + (W : Int) = (E : Int) := by omega
    obtain ⟨M, hM⟩ : ∃ M, M = if L < p then L else p := ⟨_, rfl⟩
    have hmi : (if L < p then (L : Int) else (p : Int)) = (M : Int) := by rw [hM]; split <;> rfl
    have hMk : k ≤ M := by rw [hM]; split <;> omega
    have g1 : decide ((600 : Int) < n) = false := by simp; omega
    have g2 : decide ((p : Int) < 1) = false := by simp; omega
    have g4 : decide ((k : Int) < 1) = false := by simp; omega
    have g5 : decide (M < k) = false := by simp; omega
    clear h hn hC hof hbk w1 hlen w5 w3 hm hE hW hN hq hblk hD hs hl hp hk hM hEN
    go_enter Try.func6, Try.ntmps6
    go_wp2_with fail
    refine (Hm.out w).mono ?_
    rintro e w' ⟨rfl, rfl⟩
    go_wp2_with fail
    refine H.out.2.2.2.1.mono ?_
    rintro e w1 ⟨A', c', ys, rfl, hys, hat, hF⟩
    obtain ⟨gb, ob, vb, rfl, hgb, a0, a1, a2, a3, hsb⟩ := hat.cells4 hys q _ H.out.2.2.2.2.1
    have hM2 : ys.length = numN S t := by have := congrArg List.length hys; rw [List.length_map, H.out.2.2.2.2.2.2] at this; exact this
    obtain ⟨Ab, nb, cb, rfl, hnb, hcb, hmb, -⟩ := id hsb
    obtain ⟨Y, hY⟩ : ∃ Y, Y = ys.length := ⟨_, rfl⟩
    have hqY : q < Y := by rw [hY, hM2]; exact H.out.2.2.2.2.2.1
    have hY6 : Y ≤ 600 := by rw [hY, hM2]; have := num_le S t H.out.2.2.1.s1; have := H.out.2.1; omega
    rw [← hY]
    simp only [bv_length] at hnb
    have hED : E ≤ nb := by rw [hnb]; exact H2.out.2
    have H3 := Lib.hid (And.intro hsb hF)
    clear hat hys hM2 hY hsb hF hgb hnb
    go_upto_region 11 with fail
    have hFa : Frm (fun _ => False) w1 (w1.alloc (.cells #[.int .i64 q, .int .i64 (F + N), .int .i64 W, .slice Ab nb cb] 40)) := (Frm.refl _ w1).alloc _
    have hb := Blk.new w1 40 #[.int .i64 q, .int .i64 (F + N), .int .i64 W, .slice Ab nb cb]
    obtain ⟨g0, hg0⟩ : ∃ g, g = w1.heap.size := ⟨_, rfl⟩
    rw [← hg0] at hb
    rw [← hg0]
    generalize w1.alloc (.cells #[.int .i64 q, .int .i64 (F + N), .int .i64 W, .slice Ab nb cb] 40) = wa at *
    obtain ⟨p0, p1, p2, p3, -⟩ := blk4 hb
    have hF1 := H3.out.2
    obtain ⟨A5, n5, c5, hr5, hv5⟩ := cut_to H3.out.1 ((E : Int) - (k : Int)) (E : Int) (E - k) E (by omega) rfl (by omega) hED
    obtain ⟨A6, n6, c6, hr6, hv6⟩ := cut_to H.out.1 ((p : Int) - (k : Int)) (p : Int) (p - k) p (by omega) rfl (by omega) (by omega)
    have e5 := hv5 wa.drew fun q hq => hFa.block q hq.2 id
    have e6 := hv6 wa.drew fun q hq => (hF1.trans hFa fun _ h => h.elim).block q hq id
    rw [H2.out.1] at e5
    have hEk : IntKind.i64.wrap ((E : Int) - (k : Int)) = (E : Int) - (k : Int) := IntWalk.i64_in _ (by omega)
    have hpk : IntKind.i64.wrap ((p : Int) - (k : Int)) = (p : Int) - (k : Int) := IntWalk.i64_in _ (by omega)
    have H4 := Lib.hid (hF1.trans hFa fun _ h => h.elim)
    generalize (List.drop (p - k) (List.take p t)) = R at *
    clear hv5 hv6 hFa hF1 hb hg0 a0 a1 a2 a3 H3 H H2 Hm hmi hMk g1 g2 g4 g5 hE2 hdv
    refine plan_begin (by kernel_rfl) 20 (by kernel_rfl) ?_
    refine plan_still 20 0 16 4 (by kernel_rfl) (by kernel_rfl) (by kernel_rfl) (by kernel_rfl) (by kernel_rfl) (by kernel_rfl) (by kernel_rfl) (fun Kp hKp => ?_)
    simp only [List.append_eq, List.cons_append, List.nil_append, List.take_succ_cons, List.take_zero, List.drop_succ_cons, List.drop_zero, List.drop_nil, List.take_nil]
    repeat still_step
    refine wpStill_nil ?_
    refine hKp _ ?_
    clear hKp Kp
    refine plan_seq 20 16 4 0 (by kernel_rfl) (by kernel_rfl) (by kernel_rfl) (by intro c d v a w h; cases d <;> exact h) (by kernel_rfl) ?_
    simp only [List.append_eq, List.cons_append, List.nil_append, List.take_succ_cons, List.take_zero, List.drop_succ_cons, List.drop_zero, List.drop_nil, List.take_nil]
    intro K hK
    go_wp2_with fail
    refine (wakes_any _).mono ?_
    rintro e w' ⟨rfl, hF⟩
    go_wp2_with fail
    refine plan_end 20 (by kernel_rfl) ?_
    go_wp2_with fail
    go_ret
    exact ⟨rfl, H4.out.drew.trans hF fun _ h => h.elim⟩
  · have Hm := Lib.hid (fun w => may_any s l f w)
    clear h hn
    cases hm : mayB s l f with
    | false =>
      rw [hm] at Hm
      clear hok
      go_enter Try.func6, Try.ntmps6
      go_wp2_with fail
      refine (Hm.out w).mono ?_
      rintro e w' ⟨rfl, rfl⟩
      go_wp2_with fail
      refine (wakes_any w).mono ?_
      rintro e w' ⟨rfl, hF⟩
      go_wp2_with fail
      go_ret
      exact ⟨rfl, hF⟩
    | true =>
      have hok : ¬ ((n : Int) ≤ 600 ∧ 1 ≤ p ∧ p ≤ n ∧ 1 ≤ k ∧ k ≤ p ∧ k ≤ l) := fun h => hok ⟨hm, h⟩
      rw [hm] at Hm
      have Hok := Lib.hid hok
      clear hok hm
      go_enter Try.func6, Try.ntmps6
      go_wp2_with fail
      refine (Hm.out w).mono ?_
      rintro e w' ⟨rfl, rfl⟩
      go_wp2_with fail
      all_goals
        first
        | (refine (wakes_any w).mono ?_
           rintro e w' ⟨rfl, hF⟩
           go_wp2_with fail
           go_ret
           exact ⟨rfl, hF⟩)
        | (exfalso; have := Hok.out; omega)
end Go.Proofs.Ytecpbnkkgdppoaa
