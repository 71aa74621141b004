/- The walk of teasellaw19.BlockWhole. -/
import Derived.Test.YtecpbnkkgdppoaaWords
import Derived.Deep.DeepCutAuto
namespace Go.Proofs.Ytecpbnkkgdppoaa
open Go.RowKit
theorem whole_law (S L : Nat) (t : List UInt8) (k : Nat) (hS : 1 ≤ S) (hk : k < numN S t) : ∃ o, o = min S (t.length - k * S) ∧ k * S < t.length ∧ 1 ≤ o ∧ o ≤ S ∧ k * S + o ≤ t.length ∧ k * S + o = min ((k + 1) * S) t.length ∧ (dataN S L t k).length = warmN S L k + o ∧ warmN S L k ≤ k * S ∧
    (o = S ∨ k + 1 = numN S t) ∧ dataN S L t k = (t.take (k * S + o)).drop (k * S - warmN S L k) := by
  have h1 := (num_bnd S t hS k).1 hk
  have hw := warm_le S L k
  have h3 : (k + 1) * S = k * S + S := by rw [Nat.add_mul]; omega
  refine ⟨_, rfl, h1, by omega, by omega, by omega, by rw [h3]; omega, ?_, hw.1, ?_, ?_⟩
  · unfold dataN; rw [List.length_drop, List.length_take, h3]; omega
  · rcases Nat.lt_or_ge (k + 1) (numN S t) with h4 | h4
    · have h5 := (num_bnd S t hS (k + 1)).1 h4
      left; omega
    · right; omega
  · unfold dataN
    rw [h3]
    rcases Nat.lt_or_ge (t.length - k * S) S with h4 | h4
    · rw [Nat.min_eq_right (by omega), List.take_of_length_le (by omega), List.take_of_length_le (by omega)]
    · rw [Nat.min_eq_left h4]
set_option maxRecDepth 100000 in
set_option maxHeartbeats 8000000 in
theorem whole_any2 (s l f : Int) (A : Option Addr) (n c : Nat) (t : List UInt8) (w : World) (h : Sl w (fun k => k < w.heap.size) (.slice A n c) (bv t)) :
    Calls Try.prog 4 #[.int .i64 s, .int .i64 l, .int .i64 f, .slice A n c] w fun e w' => e = .returned (.bool true) ∧ Frm (fun _ => False) w w' := by
  have hbd : n = t.length ∧ n ≤ c ∧ c ≤ 9223372036854775807 := by
    obtain ⟨A', n', c', he, hn, hc, hm, _⟩ := h
    cases he
    rw [bv_length] at hn
    exact ⟨hn, hc, hm⟩
  obtain ⟨hn, hnc, hcm⟩ := hbd
  have Hm := Lib.hid (fun w => may_any s l f w)
  cases hm : mayB s l f with
  | false =>
    rw [hm] at Hm
    clear h hn
    go_enter Try.func4, Try.ntmps4
    go_wp2_with fail
    refine (Hm.out w).mono ?_
    rintro e w' ⟨rfl, rfl⟩
    go_wp2_with fail
    refine (wakes_any w).mono ?_
    rintro e w' ⟨rfl, hF⟩
    go_wp2_with fail
    go_ret
    exact ⟨rfl, hF⟩
  | true =>
    rw [hm] at Hm
    by_cases h600 : (600 : Int) < (n : Int)
    · clear h hn hm
      go_enter Try.func4, Try.ntmps4
      go_wp2_with fail
      refine (Hm.out w).mono ?_
      rintro e w' ⟨rfl, rfl⟩
      go_wp2_with fail
      refine (wakes_any w).mono ?_
      rintro e w' ⟨rfl, hF⟩
      go_wp2_with fail
      go_ret
      exact ⟨rfl, hF⟩
    · obtain ⟨S, L, F, rfl, rfl, rfl, hC⟩ := mayB_cut hm
      have hn6 : n ≤ 600 := by omega
      have g1 : decide ((600 : Int) < n) = false := by simpa using h600
      have hof := of_eq S L F t _ A n c w hC h (by omega) rfl
      have hFb := hC.f
      have hSb : (S : Int) ≠ 0 := by have := hC.s1; omega
      have hS2 := hC.s2
      have hS1 := hC.s1
      have H := Lib.hid (And.intro h (And.intro hn (And.intro hC hof)))
      clear h hn hC hof hm h600
      go_enter Try.func4, Try.ntmps4
      go_wp2_with fail
      refine (Hm.out w).mono ?_
      rintro e w' ⟨rfl, rfl⟩
      go_wp2_with fail
      refine H.out.2.2.2.mono ?_
      rintro e w1 ⟨A', c', ys, rfl, hys, hat, hF⟩
      obtain ⟨Y, hY⟩ : ∃ Y, Y = ys.length := ⟨_, rfl⟩
      have hYn : Y = numN S t := by rw [hY]; have := congrArg List.length hys; simpa [blocksN] using this
      have hY6 : Y ≤ 600 := by rw [hYn]; have := num_le S t hS1; have := H.out.2.1; omega
      rw [← hY] at hat ⊢
      have hdv : Int.tdiv ((n : Int) + (S : Int) - 1) (S : Int) = (Y : Int) := by
        rw [hYn, show (n : Int) + (S : Int) - 1 = ((t.length + S - 1 : Nat) : Int) from by have := H.out.2.1; omega]; rfl
      have hS0 : ¬ S = 0 := by omega
      have x1 : IntKind.i64.wrap ((n : Int) + (S : Int)) = (n : Int) + (S : Int) := IntWalk.i64_in _ (by omega)
      have x2 : IntKind.i64.wrap ((n : Int) + (S : Int) - 1) = (n : Int) + (S : Int) - 1 := IntWalk.i64_in _ (by omega)
      have x3 : IntKind.i64.wrap (Y : Int) = (Y : Int) := IntWalk.i64_in _ (by omega)
      have hjn : joinN (ys.map (·.c)) = t := by rw [hys, joinN_all S L F t hS1]
      have hwk : ∀ b ∈ ys, WarmOk b.c := fun b hb => by
        have h1 : b.c ∈ blocksN S L F t := by rw [← hys]; exact List.mem_map_of_mem hb
        obtain ⟨k, hk, h2⟩ := List.mem_map.1 h1
        rw [← h2]
        exact (warm_data S L F t k ((num_bnd S t hS1 k).1 (List.mem_range.1 hk))).1
      have hjo := bjoin_any (fun q => w.heap.size ≤ q ∧ q < w1.heap.size) A' Y c' ys w1.drew (hat.keptTo fun q hq => ⟨rfl, hq⟩) (fun q hq => hq.2) hwk (by rw [hjn]; have := H.out.2.1; omega)
      rw [hjn] at hjo
      have hcv := fun (W : World) (hW : Frm (fun _ => False) w1 W) => conv_new (w := W) (H.out.1.kept fun q hq => (hF.trans hW fun _ h => h.elim).block q hq id)
      have H1 := Lib.hid (And.intro hys (And.intro hat (And.intro hF hYn)))
      have HJ := Lib.hid (And.intro hjo hcv)
      have e1 := hcv w1.drew (Frm.refl _ w1).drew
      clear hys hat hF hYn hjn hwk hjo hcv hY
      go_upto_region 4 with fail
      go_cut [54] (fun t wc => t = .bool false ∧ Hid (Frm (fun _ => False) w1 wc))
      case first => as_aux_lemma =>
        refine plan_begin (by kernel_rfl) 22 (by kernel_rfl) ?_
        refine plan_still 22 0 13 9 (by kernel_rfl) (by kernel_rfl) (by kernel_rfl) (by kernel_rfl) (by kernel_rfl) (by kernel_rfl) (by kernel_rfl) (fun Kp hKp => ?_)
        simp only [List.append_eq, List.cons_append, List.nil_append, List.take_succ_cons, List.take_zero, List.drop_succ_cons, List.drop_zero, List.drop_nil, List.take_nil]
        repeat still_step
        refine wpStill_nil ?_
        refine hKp _ ?_
        clear hKp Kp
        refine plan_seq 22 13 2 7 (by kernel_rfl) (by kernel_rfl) (by kernel_rfl) (by intro c d v a w h; cases d <;> exact h) (by kernel_rfl) ?_
        simp only [List.append_eq, List.cons_append, List.nil_append, List.take_succ_cons, List.take_zero, List.drop_succ_cons, List.drop_zero, List.drop_nil, List.take_nil]
        intro K hK
        go_wp2_with fail
        refine plan_move 15 rfl rfl (by kernel_rfl) (by intro c d v a w h; cases d <;> exact h) (by kernel_rfl) (by kernel_rfl) ?_
        intro K hK
        go_wp2_with fail
        refine plan_move 18 rfl rfl (by kernel_rfl) (by intro c d v a w h; cases d <;> exact h) (by kernel_rfl) (by kernel_rfl) ?_
        intro K hK
        go_wp2_with fail
        refine plan_two 16 19 (by kernel_rfl) rfl rfl ?_ ?_
        · intro K hK
          go_wp2_with fail
          refine HJ.out.1.mono ?_
          rintro e w2 ⟨v2, rfl, ho, hF2⟩
          obtain ⟨A2, c2, rfl, -, -⟩ := own_form ho
          have e2 := HJ.out.2 w2 ((Frm.refl _ w1).drew.trans hF2 fun _ h => h.elim)
          have e3 := conv_new (OSl.of_own (K := fun _ => True) (xs := bv t) ho (fun _ _ => trivial)).sl
          have H2 := Lib.hid hF2
          clear ho hF2
          go_wp2_with fail
          refine plan_two 17 19 (by kernel_rfl) rfl rfl ?_ ?_
          · intro K hK
            go_wp2_with fail
            refine plan_one 19 (by kernel_rfl) rfl ?_
            intro K hK
            go_wp2_with fail
            refine plan_one 20 (by kernel_rfl) rfl ?_
            intro K hK
            go_wp2_with fail
            refine plan_one 21 (by kernel_rfl) rfl ?_
            intro K hK
            go_wp2_with fail
            refine plan_done (by kernel_rfl) ?_
            go_wp2_with fail
            go_meet
            case rel => exact ⟨rfl, Lib.hid ((Frm.refl _ w1).drew.trans H2.out fun _ h => h.elim)⟩
          · intro K hK
            go_wp2_with fail
            refine plan_one 17 (by kernel_rfl) rfl ?_
            intro K hK
            go_wp2_with fail
            refine plan_one 20 (by kernel_rfl) rfl ?_
            intro K hK
            go_wp2_with fail
            refine plan_one 21 (by kernel_rfl) rfl ?_
            intro K hK
            go_wp2_with fail
            refine plan_done (by kernel_rfl) ?_
            go_wp2_with fail
            go_meet
            case rel => exact ⟨rfl, Lib.hid ((Frm.refl _ w1).drew.trans H2.out fun _ h => h.elim)⟩
        · intro K hK
          go_wp2_with fail
          refine plan_one 16 (by kernel_rfl) rfl ?_
          intro K hK
          go_wp2_with fail
          refine HJ.out.1.mono ?_
          rintro e w2 ⟨v2, rfl, ho, hF2⟩
          obtain ⟨A2, c2, rfl, -, -⟩ := own_form ho
          have e3 := conv_new (OSl.of_own (K := fun _ => True) (xs := bv t) ho (fun _ _ => trivial)).sl
          have H2 := Lib.hid hF2
          clear ho hF2
          go_wp2_with fail
          refine plan_one 17 (by kernel_rfl) rfl ?_
          intro K hK
          go_wp2_with fail
          refine plan_one 20 (by kernel_rfl) rfl ?_
          intro K hK
          go_wp2_with fail
          refine plan_one 21 (by kernel_rfl) rfl ?_
          intro K hK
          go_wp2_with fail
          refine plan_done (by kernel_rfl) ?_
          go_wp2_with fail
          go_meet
          case rel => exact ⟨rfl, Lib.hid ((Frm.refl _ w1).drew.trans H2.out fun _ h => h.elim)⟩
      case rest =>
        obtain ⟨rfl, HF0⟩ := hcut
        clear e1 hdv x1 x2 x3 HJ g1
        go_wp2_with fail
        go_loopw [11, 12] (fun a i wr => ∃ k N : Nat, k ≤ Y ∧ i = .int .i64 k ∧ a = .int .i64 N ∧ N ≤ n ∧ Hid (N = min (k * S) n ∧ Frm (fun _ => False) w1 wr)) (fun _ i _ => Y - (intOf i).toNat)
        case atStart => exact ⟨0, 0, Nat.zero_le _, rfl, rfl, Nat.zero_le _, Lib.hid ⟨by simp, HF0.out⟩⟩
        case round =>
          obtain ⟨k, N, hk, rfl, rfl, hNn, hT⟩ := hrel
          by_cases hlt : k < Y
          · obtain ⟨hys, hat, hF, hYn⟩ := H1.out
            have hkn : k < numN S t := by omega
            obtain ⟨o, -, q1, q2, q3, q4, q5, q6, q7, q8, q9⟩ := whole_law S L t k hS1 hkn
            have htl : t.length = n := H.out.2.1.symm
            rw [htl] at q1 q4 q5
            have hN : N = k * S := by have := hT.out.1; omega
            obtain ⟨gb, ob, vb, rfl, hgb, a0, a1, a2, a3, hsb⟩ := hat.cells4 hys k _ (blocks_at S L F t k hkn)
            have hs3 : (blkN S L F t k).start = (F : Int) + (N : Int) := by rw [hN, Int.natCast_mul]; rfl
            have hs2 : (blkN S L F t k).num = (k : Int) := rfl
            obtain ⟨Wm, hWm⟩ : ∃ Wm, Wm = warmN S L k := ⟨_, rfl⟩
            have hs4 : (blkN S L F t k).warm = (Wm : Int) := by rw [hWm]; rfl
            obtain ⟨D, hD⟩ : ∃ D, D = dataN S L t k := ⟨_, rfl⟩
            have hs5 : (blkN S L F t k).data = D := by rw [hD]; rfl
            rw [hs2] at a0
            rw [hs3] at a1
            rw [hs4] at a2
            rw [hs5] at hsb
            rw [← hN] at q1 q4 q5 q7 q9
            rw [← hWm] at q6 q7 q9
            rw [← hD] at q6 q9
            have hFr := hT.out.2
            replace a0 := hFr.cell a0 id
            replace a1 := hFr.cell a1 id
            replace a2 := hFr.cell a2 id
            replace a3 := hFr.cell a3 id
            obtain ⟨Ab, nb, cb, rfl, hnb, hcb, hmb, -⟩ := id hsb
            rw [bv_length, q6] at hnb
            have hrt := bright_any S L k Wm ((F : Int) + (N : Int)) Ab nb cb wr.drew ⟨hS1, hS2, H.out.2.2.1.l1, H.out.2.2.1.l2, by omega⟩ (by omega) (by rw [← hN]; omega) (by rw [← hN]; omega) (by omega) (by omega)
            unfold RtPost at hrt
            rw [show decide (Wm = warmN S L k ∧ Wm + 1 ≤ nb ∧ nb ≤ Wm + S) = true from decide_eq_true ⟨hWm, by omega, by omega⟩] at hrt
            have HQ := Lib.hid (And.intro hrt (And.intro q9 (And.intro q5 (And.intro hsb (And.intro hgb q8)))))
            have r1 : IntKind.i64.wrap ((nb : Int) - (Wm : Int)) = (o : Int) := by rw [show (nb : Int) - (Wm : Int) = (o : Int) from by omega]; exact IntWalk.i64_in _ (by omega)
            have r2 : decide ((o : Int) < 1) = false := by simp; omega
            have r3 : IntKind.i64.wrap ((N : Int) - (Wm : Int)) = (N : Int) - (Wm : Int) := IntWalk.i64_in _ (by omega)
            have r4 : IntKind.i64.wrap ((N : Int) + (o : Int)) = (N : Int) + (o : Int) := IntWalk.i64_in _ (by omega)
            clear hys hat hF hYn hkn hN hs2 hs3 hs4 hs5 hsb hgb hrt q9 q5 q6 q8 hWm hD hFr hnb htl
            go_upto_region 10 with fail
            refine plan_begin (by kernel_rfl) 13 (by kernel_rfl) ?_
            refine plan_still 13 0 12 1 (by kernel_rfl) (by kernel_rfl) (by kernel_rfl) (by kernel_rfl) (by kernel_rfl) (by kernel_rfl) (by kernel_rfl) (fun Kp hKp => ?_)
            simp only [List.append_eq, List.cons_append, List.nil_append, List.take_succ_cons, List.take_zero, List.drop_succ_cons, List.drop_zero, List.drop_nil, List.take_nil]
            repeat still_step
            refine wpStill_nil ?_
            refine hKp _ ?_
            clear hKp Kp
            refine plan_seq 13 12 1 0 (by kernel_rfl) (by kernel_rfl) (by kernel_rfl) (by intro c d v a w h; cases d <;> exact h) (by kernel_rfl) ?_
            simp only [List.append_eq, List.cons_append, List.nil_append, List.take_succ_cons, List.take_zero, List.drop_succ_cons, List.drop_zero, List.drop_nil, List.take_nil]
            intro K hK
            go_wp2_with fail
            refine plan_end 13 (by kernel_rfl) ?_
            go_wp2_with fail
            refine HQ.out.1.mono ?_
            rintro e w8 ⟨rfl, hF8⟩
            have b0 := hF8.cell (show wr.drew.cell? _ = _ from a0) id
            have b1 := hF8.cell (show wr.drew.cell? _ = _ from a1) id
            have b2 := hF8.cell (show wr.drew.cell? _ = _ from a2) id
            have b3 := hF8.cell (show wr.drew.cell? _ = _ from a3) id
            have hFw := hT.out.2.drew.trans hF8 fun _ h => h.elim
            have e8 := conv_new (w := w8.drew) (HQ.out.2.2.2.1.kept fun q hq => hFw.block q hq.2 id)
            obtain ⟨A5, n5, c5, hr5, hv5⟩ := cut_to H.out.1 ((N : Int) - (Wm : Int)) ((N : Int) + (o : Int)) (N - Wm) (N + o) (by omega) (by omega) (by omega) (by omega)
            have e9 := hv5 w8.drew fun q hq => (H1.out.2.2.1.trans hFw fun _ h => h.elim).block q hq id
            rw [← HQ.out.2.1] at e9
            have HFw := Lib.hid hFw
            have gY : o = S ∨ (k : Int) + 1 = Y := by have := HQ.out.2.2.2.2.2; have := H1.out.2.2.2; omega
            clear a0 a1 a2 a3 hF8 hFw hv5
            by_cases hoS : o = S
            case pos =>
              have g3 : ((o : Int) != (S : Int)) = false := by simp; omega
              have HS := Lib.hid (And.intro gY hoS)
              clear gY hoS
              go_upto_region 13 with fail
              refine plan_begin (by kernel_rfl) 20 (by kernel_rfl) ?_
              refine plan_still 20 0 19 1 (by kernel_rfl) (by kernel_rfl) (by kernel_rfl) (by kernel_rfl) (by kernel_rfl) (by kernel_rfl) (by kernel_rfl) (fun Kp hKp => ?_)
              simp only [List.append_eq, List.cons_append, List.nil_append, List.take_succ_cons, List.take_zero, List.drop_succ_cons, List.drop_zero, List.drop_nil, List.take_nil]
              repeat still_step
              refine wpStill_nil ?_
              refine hKp _ ?_
              clear hKp Kp
              refine plan_seq 20 19 1 0 (by kernel_rfl) (by kernel_rfl) (by kernel_rfl) (by intro c d v a w h; cases d <;> exact h) (by kernel_rfl) ?_
              simp only [List.append_eq, List.cons_append, List.nil_append, List.take_succ_cons, List.take_zero, List.drop_succ_cons, List.drop_zero, List.drop_nil, List.take_nil]
              intro K hK
              go_wp2_with fail
              refine plan_end 20 (by kernel_rfl) ?_
              go_wp2_with fail
              go_roundw
              case rel => exact ⟨k + 1, N + o, by omega, by go_num, by go_num, by omega, Lib.hid ⟨HQ.out.2.2.1, HFw.out.drew⟩⟩
              case measure => simp [intOf]; omega
            case neg =>
              have g3 : ((o : Int) != (S : Int)) = true := by simp; omega
              have g4 : decide ((k : Int) < (Y : Int) - 1) = false := by simp; omega
              clear gY hoS
              go_upto_region 13 with fail
              refine plan_begin (by kernel_rfl) 20 (by kernel_rfl) ?_
              refine plan_still 20 0 19 1 (by kernel_rfl) (by kernel_rfl) (by kernel_rfl) (by kernel_rfl) (by kernel_rfl) (by kernel_rfl) (by kernel_rfl) (fun Kp hKp => ?_)
              simp only [List.append_eq, List.cons_append, List.nil_append, List.take_succ_cons, List.take_zero, List.drop_succ_cons, List.drop_zero, List.drop_nil, List.take_nil]
              repeat still_step
              refine wpStill_nil ?_
              refine hKp _ ?_
              clear hKp Kp
              refine plan_seq 20 19 1 0 (by kernel_rfl) (by kernel_rfl) (by kernel_rfl) (by intro c d v a w h; cases d <;> exact h) (by kernel_rfl) ?_
              simp only [List.append_eq, List.cons_append, List.nil_append, List.take_succ_cons, List.take_zero, List.drop_succ_cons, List.drop_zero, List.drop_nil, List.take_nil]
              intro K hK
              go_wp2_with fail
              refine plan_end 20 (by kernel_rfl) ?_
              go_wp2_with fail
              go_roundw
              case rel => exact ⟨k + 1, N + o, by omega, by go_num, by go_num, by omega, Lib.hid ⟨HQ.out.2.2.1, HFw.out.drew⟩⟩
              case measure => simp [intOf]; omega
          · obtain rfl : k = Y := by omega
            have hNe : N = n := by
              have h1 := mt (num_bnd S t hS1 k).2 (by have := H1.out.2.2.2; omega)
              have h2 := H.out.2.1
              have h3 := hT.out.1
              omega
            subst hNe
            go_wp2_with fail
            refine (wakes_any _).mono ?_
            rintro e w' ⟨rfl, hF⟩
            go_wp2_with fail
            go_ret
            exact ⟨rfl, (H1.out.2.2.1.trans hT.out.2 fun _ h => h.elim).trans hF fun _ h => h.elim⟩
end Go.Proofs.Ytecpbnkkgdppoaa
