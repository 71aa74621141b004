/- The walk of ScriptText. -/
import Derived.Test.YtpcdbkaeijhmfaaDoorWk
import Derived.Test.YtpcdbkaeijhmfaaDoorPq
import Derived.Test.YtpcdbkaeijhmfaaDoorPlan
namespace Go.Proofs.YtpcdbkaeijhmfaaDoor
set_option maxRecDepth 100000
set_option linter.unusedVariables false
set_option linter.unusedSimpArgs false
open Go.RowKit
attribute [local go_sem] Oper.semAt_some
theorem quote_at (b : By) : (quoteB b)[0]? = some 34 ∧ (quoteB b)[(quoteB b).length - 1]? = some 34 ∧ ∀ k c, (quoteB b)[k]? = some c → 32 ≤ c.toNat ∧ c.toNat ≤ 126 ∧ (c = 34 → k = 0 ∨ k = (quoteB b).length - 1) := by
  have hl : (quoteB b).length = (b.flatMap quote1).length + 2 := by simp [quoteB]
  refine ⟨rfl, ?_, fun k c hk => ?_⟩
  · rw [hl]
    unfold quoteB
    rw [show (b.flatMap quote1).length + 2 - 1 = (b.flatMap quote1).length + 1 by omega, List.getElem?_cons_succ, List.getElem?_append_right (Nat.le_refl _), Nat.sub_self]
    rfl
  · have hm := quote_sign b c (List.mem_of_getElem? hk)
    refine ⟨hm.1, hm.2, fun h34 => ?_⟩
    subst h34
    have hkl := (List.getElem?_eq_some_iff.1 hk).1
    rcases Nat.eq_zero_or_pos k with h0 | h0
    · exact .inl h0
    · right
      obtain ⟨j, rfl⟩ : ∃ j, k = j + 1 := ⟨k - 1, by omega⟩
      unfold quoteB at hk
      rw [List.getElem?_cons_succ] at hk
      rcases Nat.lt_or_ge j (b.flatMap quote1).length with hj | hj
      · rw [List.getElem?_append_left hj] at hk
        exact absurd rfl (body_sign b 34 (List.mem_of_getElem? hk)).2.2
      · omega
set_option maxHeartbeats 16000000 in
theorem text_law (v : Value) (b : By) (w : World) (h : Sl w (InW w) v (bv b)) (hg : Gl w) : Calls Tryd.prog 4 #[v] w fun e w' => e = .returned (.bool true) ∧ Frm (fun _ => False) w w' := by
  obtain ⟨A, n, c, rfl, hn0, hc1, hc2, -⟩ := id h
  have hn : n = b.length := by simpa using hn0
  have hn9 : n ≤ 9223372036854775807 := by omega
  by_cases hbig : 300 < n
  · have hd : decide ((n : Int) > 300) = true := decide_eq_true (by omega)
    have hw := wakes_any w hg
    clear hn hn0 hc1 hc2 hbig h hg
    go_enter Tryd.func4, Tryd.ntmps4
    go_wp2_with fail
    refine hw.mono ?_
    rintro e w1 ⟨rfl, hF⟩
    have HF := Lib.hid hF
    clear hw hF
    go_wp2_with fail
    go_ret
    exact ⟨rfl, HF.out⟩
  · have hd : decide ((n : Int) > 300) = false := decide_eq_false (by omega)
    have hb3 : b.length ≤ 300 := by omega
    have hq := quote_any A n c (InW w) b w h (by omega) (fun _ h => h)
    obtain ⟨q0, q1, q2⟩ := quote_at b
    have ql := quote_len3 b
    have ql2 : b.length + 2 ≤ (quoteB b).length := by have := body_len b; unfold quoteB; simp only [List.length_cons, List.length_append, List.length_nil]; omega
    obtain ⟨Q, hQ⟩ : ∃ Q, Q = ba (quoteB b) := ⟨_, rfl⟩
    obtain ⟨m, hm⟩ : ∃ m, m = (quoteB b).length := ⟨_, rfl⟩
    have hsz : Q.size = m := by rw [hQ, hm]; rfl
    have hi0 : ∀ w, (Instr.index 9 (.string Q) (.int .i64 0)).run Tryd.prog w = .ok (.int .u8 34) w := by
      rw [hQ]; exact run_at (P := Tryd.prog) Tryd.underlying9 (quoteB b) 0 34 q0
    have hi1 : ∀ w, (Instr.index 9 (.string Q) (.int .i64 ((m : Int) - 1))).run Tryd.prog w = .ok (.int .u8 34) w := by
      rw [hQ, hm, show (((quoteB b).length : Int) - 1) = (((quoteB b).length - 1 : Nat) : Int) by omega]
      exact run_at (P := Tryd.prog) Tryd.underlying9 (quoteB b) _ 34 q1
    have Hat := Lib.hid (show ∀ (k : Nat) (c : UInt8), (quoteB b)[k]? = some c → ∀ w, (Instr.index 9 (.string Q) (.int .i64 k)).run Tryd.prog w = .ok (.int .u8 c.toNat) w by rw [hQ]; exact run_at (P := Tryd.prog) Tryd.underlying9 (quoteB b))
    have g1 : decide ((m : Int) < (n : Int) + 2) = false := decide_eq_false (by omega)
    have g2 : decide ((m : Int) > 3 * (n : Int) + 2) = false := decide_eq_false (by omega)
    have hm9 : 2 ≤ m ∧ m ≤ 902 := by omega
    have hn3 : n ≤ 300 := by omega
    rw [← hQ] at hq
    have H := Lib.hid (And.intro h (And.intro hg (And.intro hn (And.intro hQ (And.intro hm (And.intro q2 hb3))))))
    clear h hg hn hn0 hc1 hc2 hbig hQ hm q0 q1 q2 ql ql2 hb3 hn9
    go_enter Tryd.func4, Tryd.ntmps4
    go_wp2_with fail
    refine hq.mono ?_
    rintro e w1 ⟨rfl, hF1⟩
    have HF1 := Lib.hid hF1
    clear hq hF1
    go_wp2_with fail
    go_loopw [4] (fun i wr => ∃ k : Nat, k ≤ m ∧ i = .int .i64 k ∧ wr = w1) (fun i _ => m - (intOf i).toNat)
    case atStart => exact ⟨0, Nat.zero_le _, rfl, rfl⟩
    case round =>
      obtain ⟨k, hk, rfl, rfl⟩ := hrel
      by_cases hlt : k < m
      · obtain ⟨c, hc⟩ : ∃ c, (quoteB b)[k]? = some c := ⟨_, List.getElem?_eq_getElem (by have := H.out.2.2.2.2.1; omega)⟩
        have hat := Hat.out k c hc
        obtain ⟨s1, s2, s3⟩ := H.out.2.2.2.2.2.1 k c hc
        have e1 : decide ((c.toNat : Int) < 32) = false := decide_eq_false (by omega)
        have e2 : decide ((c.toNat : Int) > 126) = false := decide_eq_false (by omega)
        have hmm := H.out.2.2.2.2.1
        cases hz : ((c.toNat : Int) == 34) with
        | false =>
          clear hc s1 s2 s3 hmm hi0 hi1 g1 g2
          go_wp2_with fail
          go_roundw
          case rel => exact ⟨k + 1, by omega, by go_num, by first | rfl | trivial⟩
          case measure => simp [intOf]; omega
        | true =>
          have h34 : c = 34 := UInt8.toNat_inj.1 (by have : (c.toNat : Int) = 34 := by simpa using hz
                                                     show c.toNat = 34
                                                     omega)
          rcases s3 h34 with h0 | h0
          · have e4 : decide ((k : Int) > 0) = false := decide_eq_false (by omega)
            have Hk := Lib.hid h0
            clear hc s1 s2 s3 hmm hi0 hi1 g1 g2 h34 h0
            go_wp2_with fail
            all_goals first | exact ⟨⟨k + 1, by omega, by go_num, by first | rfl | trivial⟩, by simp [intOf]; omega⟩ | (have := Hk.out; exfalso; omega)
          · have hk1 : k + 1 = m := by omega
            have e3 : decide ((k : Int) < (m : Int) - 1) = false := decide_eq_false (by omega)
            have e4 : decide (0 < k) = true := decide_eq_true (by omega)
            have e5 : 0 < k := by omega
            clear hc s1 s2 s3 hmm hi0 hi1 g1 g2 h34 h0
            go_wp2_with fail
            all_goals exact ⟨⟨k + 1, by omega, by go_num, by first | rfl | trivial⟩, by simp [intOf]; omega⟩
      · obtain rfl : k = m := by omega
        clear hi0 hi1 g1 g2
        go_upto_region 11 with fail
        obtain ⟨h, hg, hn, hQ, hmq, q2, hb3⟩ := H.out
        obtain ⟨T, hT⟩ : ∃ T, T = ba (bs " \nread " ++ quoteB b) := ⟨_, rfl⟩
        have hcat : ({ data := #[32, 10, 114, 101, 97, 100, 32] } : ByteArray) ++ Q = T := by rw [hQ, hT]; exact ba_app (bs " \nread ") _
        have hfl : ([bs "  word  ", quoteB b, bs " \nread " ++ quoteB b] : List By).flatten.length ≤ 140737488355328 := by
          have := quote_len3 b
          simp only [List.flatten_cons, List.flatten_nil, List.length_append, List.length_nil, show (bs "  word  ").length = 8 by decide, show (bs " \nread ").length = 7 by decide]
          omega
        have hsl : Sl (wr.alloc (.cells #[.string { data := #[32, 32, 119, 111, 114, 100, 32, 32] }, .string Q, .string T] 9)) (fun k => k = wr.heap.size) (.slice (some ⟨wr.heap.size, 0, none⟩) 3 3) (svb [bs "  word  ", quoteB b, bs " \nread " ++ quoteB b]) := by
          rw [hQ, hT, show ({ data := #[32, 32, 119, 111, 114, 100, 32, 32] } : ByteArray) = ba (bs "  word  ") by decide]
          exact Sl.blk wr _ _ rfl ⟨rfl, by decide⟩
        have h1 := parseL_any [bs "  word  ", quoteB b, bs " \nread " ++ quoteB b] (some ⟨wr.heap.size, 0, none⟩) 3 3 _ (hsl.mono fun q hq => by rw [hq]; unfold InW; rw [World.size_alloc]; omega) (by simp) hfl (hg.frm (HF1.out.alloc _))
        have hA1 : Frm (fun _ => False) w _ := HF1.out.alloc (.cells #[.string { data := #[32, 32, 119, 111, 114, 100, 32, 32] }, .string Q, .string T] 9)
        have hA1' : Frm (fun _ => False) wr _ := (Frm.refl (fun _ => False) wr).alloc (.cells #[.string { data := #[32, 32, 119, 111, 114, 100, 32, 32] }, .string Q, .string T] 9)
        have hpt := parse_text b hb3
        have HPT := Lib.hid hpt
        clear h hg hn hQ hmq q2 hb3 hT hfl hsl hpt
        go_wp2_with fail
        refine h1.mono ?_
        rintro e V1 ⟨hF, hP⟩
        rw [HPT.out] at hP
        obtain ⟨wv1, rv1, av1, pv1, rfl, hL1⟩ := hP
        obtain ⟨C1, hC1⟩ : ∃ C, C = stCells (textS b) wv1 rv1 av1 pv1 := ⟨_, rfl⟩
        rw [← hC1]
        have hV1 : Frm (fun _ => False) w V1 := hA1.trans' hF
        have hV1' : Frm (fun _ => False) wr V1 := hA1'.trans' hF
        clear hA1 hA1' hF h1
        rename_i K hK
        refine hK _ _ ?_
        clear hK
        refine wpList_valT rfl (some 75) rfl (v := .tuple #[.agg C1, .int .i64 0, .int .i64 0]) (w' := V1) (by simp [go_sem, execOp]) ?_
        refine wpList_valT rfl (some 81) rfl (v := .agg C1) (w' := V1) (by simp [go_sem, execOp]) ?_
        refine wpList_valT rfl (some 82) rfl (v := .int .i64 0) (w' := V1) (by simp [go_sem, execOp]) ?_
        refine wpList_valT rfl (some 83) rfl (v := .int .i64 0) (w' := V1) (by simp [go_sem, execOp]) ?_
        refine wpList_valT rfl (some 5) rfl (v := .pointer (some ⟨V1.heap.size, 0, none⟩)) (w' := V1.alloc (.cells zeroC 33)) (by simp [go_sem, execOp, zeroC, stCells, zeroSt]) ?_
        have hB1 := Blk.new V1 33 zeroC
        have hX1 : Frm (fun _ => False) V1 (V1.alloc (.cells zeroC 33)) := (Frm.refl _ V1).alloc _
        obtain ⟨g1, hg1⟩ : ∃ g, g = V1.heap.size := ⟨_, rfl⟩
        rw [← hg1] at hB1 ⊢
        generalize V1.alloc (.cells zeroC 33) = U1 at *
        simp only [Act.put, List.setIfInBounds_toArray, List.set_cons_succ, List.set_cons_zero]
        refine wpList_store_rowT rfl 33 (.tmp 5) (.tmp 81) rfl rfl g1 C1 rfl rfl _ _ hB1 (by rw [hC1]; exact st_info) (by rw [hC1] <;> rfl) (by rw [hC1]; exact hL1.one) ?_
        have hY1 : Frm (fun _ => False) V1 (U1.setRow g1 C1) := hX1.trans (K' := fun q => q = g1) ((Frm.refl (fun q => q = g1) U1).setRow (.inl rfl) _) fun q hq => .inr (by omega)
        have hD1 : Blk (U1.setRow g1 C1) g1 33 C1 := hB1.setRow _
        generalize U1.setRow g1 C1 = W1 at *
        have hW1 : Frm (fun _ => False) w W1 := hV1.trans' hY1
        have hW1' : Frm (fun _ => False) wr W1 := hV1'.trans' hY1
        have H1 := Lib.hid (And.intro hD1 (And.intro hW1 (And.intro hW1' (And.intro hC1 (And.intro (hL1.keptF hY1) hg1)))))
        clear hX1 hB1 hY1 hD1 hV1 hV1' hg1 hC1 hW1 hW1' hL1
        go_upto_region 12 with fail
        refine plan_begin (by kernel_rfl) 44 (by kernel_rfl) ?_
        obtain ⟨W, hW⟩ : ∃ W, W = W1.drew := ⟨_, rfl⟩
        have HW := Lib.hid (show Blk W g1 33 C1 ∧ (∃ B, Lsts W B (textS b) wv1 rv1 av1 pv1) ∧ Frm (fun _ => False) w W from hW ▸ ⟨H1.out.1.drew, ⟨_, H1.out.2.2.2.2.1.keptF (Frm.refl _ W1).drew⟩, H1.out.2.1.drew⟩)
        rw [← hW]
        clear hW
        obtain ⟨BL, hLs⟩ := HW.out.2.1
        obtain ⟨A1, c1, e1⟩ := hLs.words.form
        obtain ⟨A2, c2, e2⟩ := hLs.reads.form
        have hL1 := hLs.read (K := InW W) fun _ _ h => h
        obtain ⟨u1, gw, ow, hA1, -, hcw, hu1⟩ := TxS.at_ (A := A1) (n := 1) (c := c1) (L := (textS b).words) (by have := hL1.words; rw [e1] at this; exact this) 0 Nat.one_pos
        obtain ⟨u2, gr, or_, hA2, -, hcr, hu2⟩ := TxS.at_ (A := A2) (n := 1) (c := c2) (L := (textS b).reads) (by have := hL1.reads; rw [e2] at this; exact this) 0 Nat.one_pos
        rw [Nat.add_zero] at hcw hcr
        subst hA1 hA2
        obtain ⟨B1, m1, x1, e5, -⟩ := id hu1
        obtain ⟨B2, m2, x2, e6, -⟩ := id hu2
        have hcv1 := run_conv (P := Tryd.prog) Tryd.underlying43 Tryd.underlying5 Tryd.underlying9 hu1
        have hcv2 := run_conv (P := Tryd.prog) Tryd.underlying43 Tryd.underlying5 Tryd.underlying9 hu2
        have hcv0 := run_conv (P := Tryd.prog) Tryd.underlying43 Tryd.underlying5 Tryd.underlying9 (H.out.1.kept (w' := W) fun q hq => HW.out.2.2.block q hq id)
        have hw1 : (textS b).words[0]'Nat.one_pos = b := rfl
        have hw2 : (textS b).reads[0]'Nat.one_pos = b := rfl
        rw [hw1] at hcv1
        rw [hw2] at hcv2
        rw [e5] at hcv1 hcw
        rw [e6] at hcv2 hcr
        generalize (⟨b.toArray⟩ : ByteArray) = SB at *
        have d1 : W.cell? ⟨g1, 1, none⟩ = some (.slice (some ⟨gw, ow, none⟩) 1 c1) := by rw [HW.out.1.cell, H1.out.2.2.2.1, e1]; rfl
        have d10 : W.cell? ⟨g1, 10, none⟩ = some (.slice (some ⟨gr, or_, none⟩) 1 c2) := by rw [HW.out.1.cell, H1.out.2.2.2.1, e2]; rfl
        clear hL1 hLs hu1 hu2 e1 e2 e5 e6 hw1 hw2
        refine plan_still 44 0 41 3 (by kernel_rfl) (by kernel_rfl) (by kernel_rfl) (by kernel_rfl) (by kernel_rfl) (by kernel_rfl) (by kernel_rfl) (fun Kp hKp => ?_)
        simp only [List.append_eq, List.cons_append, List.nil_append, List.take_succ_cons, List.take_zero, List.drop_succ_cons, List.drop_zero, List.drop_nil, List.take_nil]
        repeat still_step
        refine wpStill_nil ?_
        refine hKp _ ?_
        clear hKp Kp
        have hwk := wakes_any W (H.out.2.1.frm HW.out.2.2)
        clear hcv0 hcv1 hcv2 hcw hcr d1 d10
        refine plan_one 41 (by kernel_rfl) rfl ?_
        intro K hK
        go_wp2_with fail
        refine hwk.mono ?_
        rintro e W9 ⟨rfl, hF9⟩
        have HZ := Lib.hid (HW.out.2.2.trans' hF9)
        clear hF9 hwk
        go_wp2_with fail
        refine plan_one 42 (by kernel_rfl) rfl ?_
        intro K hK
        go_wp2_with fail
        refine plan_one 43 (by kernel_rfl) rfl ?_
        intro K hK
        go_wp2_with fail
        refine plan_done (by kernel_rfl) ?_
        go_wp2_with fail
        go_ret
        exact ⟨rfl, HZ.out⟩
end Go.Proofs.YtpcdbkaeijhmfaaDoor
