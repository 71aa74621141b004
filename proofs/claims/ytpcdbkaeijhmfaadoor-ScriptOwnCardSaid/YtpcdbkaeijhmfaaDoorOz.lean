/- The walk of ScriptOwn. -/
import Derived.Test.YtpcdbkaeijhmfaaDoorOk
import Derived.Test.YtpcdbkaeijhmfaaDoorSr
import Derived.Test.YtpcdbkaeijhmfaaDoorPlan
namespace Go.Proofs.YtpcdbkaeijhmfaaDoor
set_option maxRecDepth 100000
set_option linter.unusedVariables false
set_option linter.unusedSimpArgs false
open Go.RowKit
attribute [local go_sem] Oper.semAt_some
set_option maxHeartbeats 16000000 in
theorem own_law (x : By) (w : World) (hg : Gl w) : Calls Tryd.prog 6 #[.string (ba x)] w fun e w' => e = .returned (.bool true) ∧ Frm (fun _ => False) w w' := by
  have HG := Lib.hid hg
  obtain ⟨nx, hnx⟩ : ∃ n, n = x.length := ⟨_, rfl⟩
  have hsx : (ba x).size = nx := by rw [hnx]; rfl
  have HN := Lib.hid hnx
  have HF0 := Lib.hid (Frm.refl (fun _ => False) w)
  clear hg hnx
  by_cases hbig : 5000 < nx
  · go_enter Tryd.func6, Tryd.ntmps6
    have d1 : decide ((nx : Int) > 5000) = true := decide_eq_true (by omega)
    clear hbig
    have hw := wakes_any w (HG.out.frm HF0.out)
    go_wp2_with fail
    refine hw.mono ?_
    rintro e v9 ⟨rfl, hF9⟩
    have HF9 := Lib.hid (HF0.out.trans' hF9)
    clear hw hF9
    go_wp2_with fail
    go_ret
    exact ⟨rfl, HF9.out⟩
  · have d1 : decide ((nx : Int) > 5000) = false := decide_eq_false (by omega)
    have HS := Lib.hid (show nx ≤ 5000 by omega)
    clear hbig
    go_enter Tryd.func6, Tryd.ntmps6
    go_upto_region 3 with fail
    have hsl : Sl (w.alloc (.cells #[.string (ba x)] 9)) (fun k => k = w.heap.size) (.slice (some ⟨w.heap.size, 0, none⟩) 1 1) (svb [x]) := Sl.blk w _ _ rfl ⟨rfl, by decide⟩
    have h1 := parseL_any [x] (some ⟨w.heap.size, 0, none⟩) 1 1 _ (hsl.mono fun q hq => by rw [hq]; unfold InW; rw [World.size_alloc]; omega) (by simp) (by have := HS.out; have := HN.out; simp; omega) (HG.out.frm (HF0.out.alloc _))
    have hA1 : Frm (fun _ => False) w (w.alloc (.cells #[.string (ba x)] 9)) := (Frm.refl (fun _ => False) w).alloc _
    clear hsl
    rw [show ([x] : List By).flatten = x from by simp] at h1
    go_wp2_with fail
    refine h1.mono ?_
    rintro e V1 hP
    obtain ⟨C1, n1, er1, st1, rfl, hAns, hF, hc7, htt, hm⟩ := parse_res hP
    have hV := hA1.trans' hF
    clear hA1 hF h1 hP
    rename_i K hK
    refine hK _ _ ?_
    clear hK
    refine wpList_valT rfl (some 20) rfl (v := .tuple #[.agg C1, .int .i64 n1, .int .i64 er1]) (w' := V1) (by simp [go_sem, execOp]) ?_
    refine wpList_valT rfl (some 24) rfl (v := .agg C1) (w' := V1) (by simp [go_sem, execOp]) ?_
    refine wpList_valT rfl (some 25) rfl (v := .int .i64 n1) (w' := V1) (by simp [go_sem, execOp]) ?_
    refine wpList_valT rfl (some 26) rfl (v := .int .i64 er1) (w' := V1) (by simp [go_sem, execOp]) ?_
    refine wpList_valT rfl (some 3) rfl (v := .pointer (some ⟨V1.heap.size, 0, none⟩)) (w' := V1.alloc (.cells zeroC 33)) (by simp [go_sem, execOp, zeroC, stCells, zeroSt]) ?_
    have hB := Blk.new V1 33 zeroC
    have hX : Frm (fun _ => False) V1 (V1.alloc (.cells zeroC 33)) := (Frm.refl _ V1).alloc _
    obtain ⟨g1, hg1⟩ : ∃ g, g = V1.heap.size := ⟨_, rfl⟩
    rw [← hg1] at hB ⊢
    have hAns2 := hAns.kept hX
    generalize V1.alloc (.cells zeroC 33) = U at *
    simp only [Act.put, List.setIfInBounds_toArray, List.set_cons_succ, List.set_cons_zero]
    refine wpList_store_rowT rfl 33 (.tmp 3) (.tmp 24) rfl rfl g1 C1 rfl rfl _ _ hB (by rw [hAns.size]; exact st_info) (by rw [hAns.size]; rfl) hAns.one ?_
    have hY : Frm (fun _ => False) V1 (U.setRow g1 C1) := hX.trans (K' := fun q => q = g1) ((Frm.refl (fun q => q = g1) U).setRow (.inl rfl) _) fun q hq => .inr (by omega)
    have hD : Blk (U.setRow g1 C1) g1 33 C1 := hB.setRow _
    have hAn := hAns2.lay (D := C1) hB
    generalize U.setRow g1 C1 = W1 at *
    have HV1 := Lib.hid (And.intro hAns (And.intro hg1 hY))
    have HTT := Lib.hid htt
    clear htt
    have HW1 := Lib.hid (show Frm (fun _ => False) w W1 from hV.trans' hY)
    have HB1 := Lib.hid hD
    have HA1 := Lib.hid (And.intro hAn (And.intro hc7 hm))
    have HI1 := Lib.hid (show (Tryd.prog.info? 33).map (·.size) = some C1.size by rw [hAns.size]; exact st_info)
    clear hV hX hB hAns hAns2 hY hD hAn hc7 hm hg1
    have HF1 := Lib.hid (HF0.out.trans' HW1.out)
    go_upto_region 4 with fail
    have hsl : Sl (W1.alloc (.cells #[.string (ba x)] 9)) (fun k => k = W1.heap.size) (.slice (some ⟨W1.heap.size, 0, none⟩) 1 1) (svb [x]) := Sl.blk W1 _ _ rfl ⟨rfl, by decide⟩
    have h1 := parseL_any [x] (some ⟨W1.heap.size, 0, none⟩) 1 1 _ (hsl.mono fun q hq => by rw [hq]; unfold InW; rw [World.size_alloc]; omega) (by simp) (by have := HS.out; have := HN.out; simp; omega) (HG.out.frm (HF1.out.alloc _))
    have hA1 : Frm (fun _ => False) W1 (W1.alloc (.cells #[.string (ba x)] 9)) := (Frm.refl (fun _ => False) W1).alloc _
    clear hsl
    rw [show ([x] : List By).flatten = x from by simp] at h1
    go_wp2_with fail
    refine h1.mono ?_
    rintro e V2 hP
    obtain ⟨C2, n2, er2, st2, rfl, hAns, hF, hc7, htt, hm⟩ := parse_res hP
    have hV := hA1.trans' hF
    clear hA1 hF h1 hP
    rename_i K hK
    refine hK _ _ ?_
    clear hK
    refine wpList_valT rfl (some 27) rfl (v := .tuple #[.agg C2, .int .i64 n2, .int .i64 er2]) (w' := V2) (by simp [go_sem, execOp]) ?_
    refine wpList_valT rfl (some 31) rfl (v := .agg C2) (w' := V2) (by simp [go_sem, execOp]) ?_
    refine wpList_valT rfl (some 32) rfl (v := .int .i64 n2) (w' := V2) (by simp [go_sem, execOp]) ?_
    refine wpList_valT rfl (some 33) rfl (v := .int .i64 er2) (w' := V2) (by simp [go_sem, execOp]) ?_
    refine wpList_valT rfl (some 6) rfl (v := .pointer (some ⟨V2.heap.size, 0, none⟩)) (w' := V2.alloc (.cells zeroC 33)) (by simp [go_sem, execOp, zeroC, stCells, zeroSt]) ?_
    have hB := Blk.new V2 33 zeroC
    have hX : Frm (fun _ => False) V2 (V2.alloc (.cells zeroC 33)) := (Frm.refl _ V2).alloc _
    obtain ⟨g2, hg2⟩ : ∃ g, g = V2.heap.size := ⟨_, rfl⟩
    rw [← hg2] at hB ⊢
    have hAns2 := hAns.kept hX
    generalize V2.alloc (.cells zeroC 33) = U at *
    simp only [Act.put, List.setIfInBounds_toArray, List.set_cons_succ, List.set_cons_zero]
    refine wpList_store_rowT rfl 33 (.tmp 6) (.tmp 31) rfl rfl g2 C2 rfl rfl _ _ hB (by rw [hAns.size]; exact st_info) (by rw [hAns.size]; rfl) hAns.one ?_
    have hY : Frm (fun _ => False) V2 (U.setRow g2 C2) := hX.trans (K' := fun q => q = g2) ((Frm.refl (fun q => q = g2) U).setRow (.inl rfl) _) fun q hq => .inr (by omega)
    have hD : Blk (U.setRow g2 C2) g2 33 C2 := hB.setRow _
    have hAn := hAns2.lay (D := C2) hB
    generalize U.setRow g2 C2 = W2 at *
    have HV2 := Lib.hid (And.intro hg2 hV)
    clear htt
    have HW2 := Lib.hid (show Frm (fun _ => False) W1 W2 from hV.trans' hY)
    have HB2 := Lib.hid hD
    have HA2 := Lib.hid (And.intro hAn (And.intro hc7 hm))
    have HI2 := Lib.hid (show (Tryd.prog.info? 33).map (·.size) = some C2.size by rw [hAns.size]; exact st_info)
    clear hV hX hB hAns hAns2 hY hD hAn hc7 hm hg2
    have HF2 := Lib.hid (HF1.out.trans' HW2.out)
    have HB1b := Lib.hid (HB1.out.kept HW2.out id)
    obtain ⟨b1, hb1⟩ : ∃ b, b = (w.alloc (.cells #[.string (ba x)] 9)).heap.size := ⟨_, rfl⟩
    have HV := Lib.hid (show Ans b1 st1 C1 V1 ∧ g1 = V1.heap.size ∧ Frm (fun _ => False) V1 W2 ∧ w.heap.size ≤ b1 from ⟨hb1 ▸ HV1.out.1, HV1.out.2.1, HV1.out.2.2.trans' HW2.out, by rw [hb1, World.size_alloc]; omega⟩)
    have hst : st1 = st2 := by
      have h1 := HA1.out.2.2
      have h2 := HA2.out.2.2
      cases hp : parseB x <;> (rw [hp] at h1 h2; exact h1.1.trans h2.1.symm)
    obtain rfl := hst
    clear hb1 HV1
    obtain ⟨wv, rv, av, pv, hC1, hL⟩ := HV.out.1
    obtain ⟨Aw, cw, rfl⟩ := hL.words.form
    obtain ⟨Aa, ca, rfl, -, -⟩ := own_form hL.answers
    obtain ⟨Ap, cp, rfl, -, -⟩ := own_form hL.picks
    obtain ⟨nw, hnw⟩ : ∃ n, n = st1.words.length := ⟨_, rfl⟩
    obtain ⟨na, hna⟩ : ∃ n, n = st1.answers.length := ⟨_, rfl⟩
    obtain ⟨np, hnp⟩ : ∃ n, n = st1.picks.length := ⟨_, rfl⟩
    rw [← hnw, ← hna, ← hnp] at hC1
    have HD := Lib.hid (show W2.cell? ⟨g1, 1, none⟩ = some (.slice Aw nw cw) ∧ W2.cell? ⟨g1, 12, none⟩ = some (.slice Ap np cp) ∧ W2.cell? ⟨g1, 11, none⟩ = some (.slice Aa na ca) from ⟨by rw [HB1b.out.cell, hC1]; rfl, by rw [HB1b.out.cell, hC1]; rfl, by rw [HB1b.out.cell, hC1]; rfl⟩)
    have hup : ∀ g, UF V1 g → UF W2 g := fun g ⟨cs, t, hb⟩ => ⟨cs, t, hb.kept HV.out.2.2.1 id⟩
    have HWC := Lib.hid (show ∀ i, i < nw → ∃ (g : Nat) (A' : Option Addr) (m c' : Nat), Aw = some ⟨g, 0, none⟩ ∧ W2.cell? ⟨g, i, none⟩ = some (.slice A' m c') ∧ m ≤ 9223372036854775807 ∧ ∀ k, k < m → ∃ (g' : Nat) (x : Int), A' = some ⟨g', 0, none⟩ ∧ W2.cell? ⟨g', k, none⟩ = some (.int .u8 x) ∧ (b1 ≤ g' ∧ g' < g1) ∧ UF W2 g' from fun i hi => by
      have hw := hL.words
      rw [← hnw] at hw
      obtain ⟨g, A', m, c', e1, h2, h3, h4⟩ := word_cell hw i hi hnw
      refine ⟨g, A', m, c', e1, HV.out.2.2.1.cell h2 id, h3, fun k hk => ?_⟩
      obtain ⟨g', y, e2, h5, h6, h7, h8⟩ := h4 k hk
      exact ⟨g', y, e2, HV.out.2.2.1.cell h5 id, ⟨h6, by rw [HV.out.2.1]; exact h7⟩, hup g' h8⟩)
    have HPC := Lib.hid (show ∀ k, k < np → ∃ (g : Nat) (y : Int), Ap = some ⟨g, 0, none⟩ ∧ W2.cell? ⟨g, k, none⟩ = some (.int .i64 y) ∧ (b1 ≤ g ∧ g < g1) ∧ UF W2 g from fun k hk => by
      have hw := hL.picks
      rw [← hnp] at hw
      obtain ⟨g, u, e1, h2, h3, h6, h7, h8⟩ := own_cell hw k hk
      rw [ivs, List.getElem?_map, List.getElem?_eq_getElem (by omega)] at h3
      cases h3
      exact ⟨g, _, e1, HV.out.2.2.1.cell h2 id, ⟨h6, by rw [HV.out.2.1]; exact h7⟩, hup g h8⟩)
    have HAC := Lib.hid (show ∀ k, k < na → ∃ (g : Nat) (y : Bool), Aa = some ⟨g, 0, none⟩ ∧ W2.cell? ⟨g, k, none⟩ = some (.bool y) ∧ (b1 ≤ g ∧ g < g1) ∧ UF W2 g from fun k hk => by
      have hw := hL.answers
      rw [← hna] at hw
      obtain ⟨g, u, e1, h2, h3, h6, h7, h8⟩ := own_cell hw k hk
      rw [bvs, List.getElem?_map, List.getElem?_eq_getElem (by omega)] at h3
      cases h3
      exact ⟨g, _, e1, HV.out.2.2.1.cell h2 id, ⟨h6, by rw [HV.out.2.1]; exact h7⟩, hup g h8⟩)
    have H9 := Lib.hid (show nw ≤ 9223372036854775807 ∧ np ≤ 9223372036854775807 ∧ na ≤ 9223372036854775807 from by
      obtain ⟨A1, c1, e1, h1, h2⟩ := (hL.words.read (K := InW V1) fun _ _ h => h).form
      obtain ⟨A2, c2, e2, h3, h4⟩ := own_form hL.answers
      obtain ⟨A3, c3, e3, h5, h6⟩ := own_form hL.picks
      omega)
    have n9 := H9.out
    clear hC1 hL hup hnw hna hnp
    go_wp2_with fail
    go_loopw [9] (fun t wr => ∃ i : Nat, i ≤ nw ∧ t = .int .i64 i ∧ Hid (Kn b1 g1 W2 wr)) (fun t _ => nw - (intOf t).toNat)
    case atStart => exact ⟨0, Nat.zero_le _, rfl, Lib.hid (Kn.refl _ _ _)⟩
    case round =>
      obtain ⟨i, hi, rfl, HK⟩ := hrel
      have c1 : wr.cell? ⟨g1, 1, none⟩ = some (.slice Aw nw cw) := HK.out.slice HD.out.1
      by_cases hlt : i < nw
      · obtain ⟨gw, A', m, c', rfl, hcw, hm9, hM⟩ := HWC.out i hlt
        have HM := Lib.hid hM
        have HCW := Lib.hid hcw
        have c2 : wr.cell? ⟨gw, i, none⟩ = some (.slice A' m c') := HK.out.slice hcw
        clear hM hcw
        go_wp2_with fail
        clear c1 c2
        go_loopw [10] (fun t wr => ∃ k : Nat, k ≤ m ∧ t = .int .i64 k ∧ Hid (Kn b1 g1 W2 wr)) (fun t _ => m - (intOf t).toNat)
        case atStart => exact ⟨0, Nat.zero_le _, rfl, HK⟩
        case round =>
          clear HK
          obtain ⟨k, hk, rfl, HK⟩ := hrel
          have c1 : wr.cell? ⟨g1, 1, none⟩ = some (.slice (some ⟨gw, 0, none⟩) nw cw) := HK.out.slice HD.out.1
          have c2 : wr.cell? ⟨gw, i, none⟩ = some (.slice A' m c') := HK.out.slice HCW.out
          by_cases hkm : k < m
          · obtain ⟨gb, xb, rfl, hcb, hbb, hU⟩ := HM.out k hkm
            obtain ⟨y, c3⟩ := HK.out.int hcb
            have f3 : wr.frozen? ⟨gb, k, none⟩ = false := HK.out.open_ hU k
            have HX := Lib.hid (And.intro hbb hU)
            clear hcb hbb hU
            go_upto_region 11 with fail
            refine plan_begin (by kernel_rfl) 17 (by kernel_rfl) ?_
            obtain ⟨W, hW⟩ : ∃ W, W = wr.drew := ⟨_, rfl⟩
            replace c1 : W.cell? ⟨g1, 1, none⟩ = some (.slice (some ⟨gw, 0, none⟩) nw cw) := hW ▸ c1
            replace c2 : W.cell? ⟨gw, i, none⟩ = some (.slice (some ⟨gb, 0, none⟩) m c') := hW ▸ c2
            replace c3 : W.cell? ⟨gb, k, none⟩ = some (.int .u8 y) := hW ▸ c3
            replace f3 : W.frozen? ⟨gb, k, none⟩ = false := hW ▸ f3
            have HKW := Lib.hid (show Kn b1 g1 W2 W from hW ▸ HK.out.drew)
            rw [← hW]
            clear hW HK
            refine plan_still 17 0 16 1 (by kernel_rfl) (by kernel_rfl) (by kernel_rfl) (by kernel_rfl) (by kernel_rfl) (by kernel_rfl) (by kernel_rfl) (fun Kp hKp => ?_)
            simp only [List.append_eq, List.cons_append, List.nil_append, List.take_succ_cons, List.take_zero, List.drop_succ_cons, List.drop_zero, List.drop_nil, List.take_nil]
            repeat still_step
            refine wpStill_nil ?_
            refine hKp _ ?_
            clear hKp Kp
            refine plan_one 16 (by kernel_rfl) rfl ?_
            intro K hK
            go_wp2_with fail
            refine plan_done (by kernel_rfl) ?_
            go_wp2_with fail
            go_roundw
            case rel => exact ⟨k + 1, by omega, by go_num, Lib.hid (HKW.out.put c3 HX.out.1 HX.out.2 (.inl ⟨_, _, _, rfl, rfl⟩))⟩
            case measure => simp [intOf]; omega
          · obtain rfl : m = k := by omega
            go_wp2_with fail
            go_roundw
            case rel => exact ⟨i + 1, by omega, by go_num, HK⟩
            case measure => simp [intOf]; omega
      · obtain rfl : nw = i := by omega
        clear hlt hi
        have HK0 := HK
        clear HK
        go_wp2_with fail
        clear c1
        go_loopw [11] (fun t wr => ∃ k : Nat, k ≤ np ∧ t = .int .i64 k ∧ Hid (Kn b1 g1 W2 wr)) (fun t _ => np - (intOf t).toNat)
        case atStart => exact ⟨0, Nat.zero_le _, rfl, HK0⟩
        case round =>
          clear HK0
          obtain ⟨k, hk, rfl, HK⟩ := hrel
          have c1 : wr.cell? ⟨g1, 12, none⟩ = some (.slice Ap np cp) := HK.out.slice HD.out.2.1
          by_cases hkm : k < np
          · obtain ⟨gb, xb, hA, hcb, hbb, hU⟩ := HPC.out k hkm
            rw [hA] at c1
            obtain ⟨y, c3⟩ := HK.out.int hcb
            have f3 : wr.frozen? ⟨gb, k, none⟩ = false := HK.out.open_ hU k
            have HX := Lib.hid (And.intro hbb hU)
            clear hcb hbb hU hA
            go_upto_region 15 with fail
            refine plan_begin (by kernel_rfl) 13 (by kernel_rfl) ?_
            obtain ⟨W, hW⟩ : ∃ W, W = wr.drew := ⟨_, rfl⟩
            replace c1 : W.cell? ⟨g1, 12, none⟩ = some (.slice (some ⟨gb, 0, none⟩) np cp) := hW ▸ c1
            replace c3 : W.cell? ⟨gb, k, none⟩ = some (.int .i64 y) := hW ▸ c3
            replace f3 : W.frozen? ⟨gb, k, none⟩ = false := hW ▸ f3
            have HKW := Lib.hid (show Kn b1 g1 W2 W from hW ▸ HK.out.drew)
            rw [← hW]
            clear hW HK
            refine plan_still 13 0 12 1 (by kernel_rfl) (by kernel_rfl) (by kernel_rfl) (by kernel_rfl) (by kernel_rfl) (by kernel_rfl) (by kernel_rfl) (fun Kp hKp => ?_)
            simp only [List.append_eq, List.cons_append, List.nil_append, List.take_succ_cons, List.take_zero, List.drop_succ_cons, List.drop_zero, List.drop_nil, List.take_nil]
            repeat still_step
            refine wpStill_nil ?_
            refine hKp _ ?_
            clear hKp Kp
            refine plan_one 12 (by kernel_rfl) rfl ?_
            intro K hK
            go_wp2_with fail
            refine plan_done (by kernel_rfl) ?_
            go_wp2_with fail
            go_roundw
            case rel => exact ⟨k + 1, by omega, by go_num, Lib.hid (HKW.out.put c3 HX.out.1 HX.out.2 (.inl ⟨_, _, _, rfl, rfl⟩))⟩
            case measure => simp [intOf]; omega
          · obtain rfl : np = k := by omega
            clear hkm hk
            have HK0 := HK
            clear HK
            go_wp2_with fail
            clear c1
            go_loopw [12] (fun t wr => ∃ k : Nat, k ≤ na ∧ t = .int .i64 k ∧ Hid (Kn b1 g1 W2 wr)) (fun t _ => na - (intOf t).toNat)
            case atStart => exact ⟨0, Nat.zero_le _, rfl, HK0⟩
            case round =>
              clear HK0
              obtain ⟨k, hk, rfl, HK⟩ := hrel
              have c1 : wr.cell? ⟨g1, 11, none⟩ = some (.slice Aa na ca) := HK.out.slice HD.out.2.2
              by_cases hkm : k < na
              · obtain ⟨gb, xb, hA, hcb, hbb, hU⟩ := HAC.out k hkm
                rw [hA] at c1
                obtain ⟨y, c3⟩ := HK.out.bool hcb
                have f3 : wr.frozen? ⟨gb, k, none⟩ = false := HK.out.open_ hU k
                have HX := Lib.hid (And.intro hbb hU)
                clear hcb hbb hU hA
                go_upto_region 19 with fail
                refine plan_begin (by kernel_rfl) 13 (by kernel_rfl) ?_
                obtain ⟨W, hW⟩ : ∃ W, W = wr.drew := ⟨_, rfl⟩
                replace c1 : W.cell? ⟨g1, 11, none⟩ = some (.slice (some ⟨gb, 0, none⟩) na ca) := hW ▸ c1
                replace c3 : W.cell? ⟨gb, k, none⟩ = some (.bool y) := hW ▸ c3
                replace f3 : W.frozen? ⟨gb, k, none⟩ = false := hW ▸ f3
                have HKW := Lib.hid (show Kn b1 g1 W2 W from hW ▸ HK.out.drew)
                rw [← hW]
                clear hW HK
                refine plan_still 13 0 12 1 (by kernel_rfl) (by kernel_rfl) (by kernel_rfl) (by kernel_rfl) (by kernel_rfl) (by kernel_rfl) (by kernel_rfl) (fun Kp hKp => ?_)
                simp only [List.append_eq, List.cons_append, List.nil_append, List.take_succ_cons, List.take_zero, List.drop_succ_cons, List.drop_zero, List.drop_nil, List.take_nil]
                repeat still_step
                refine wpStill_nil ?_
                refine hKp _ ?_
                clear hKp Kp
                refine plan_one 12 (by kernel_rfl) rfl ?_
                intro K hK
                go_wp2_with fail
                refine plan_done (by kernel_rfl) ?_
                go_wp2_with fail
                go_roundw
                case rel => exact ⟨k + 1, by omega, by go_num, Lib.hid (HKW.out.put c3 HX.out.1 HX.out.2 (.inr ⟨_, _, rfl, rfl⟩))⟩
                case measure => simp [intOf]; omega
              · obtain rfl : na = k := by omega
                clear hkm hk
                have HF3 := Lib.hid (show Frm (fun _ => False) w wr from HF2.out.trans HK.out.frm fun q hq => .inr (by have := HV.out.2.2.2; omega))
                go_upto_region 20 with fail
                clear c1
                have hsl : Sl (wr.alloc (.cells #[.string (ba x)] 9)) (fun k => k = wr.heap.size) (.slice (some ⟨wr.heap.size, 0, none⟩) 1 1) (svb [x]) := Sl.blk wr _ _ rfl ⟨rfl, by decide⟩
                have h1 := parseL_any [x] (some ⟨wr.heap.size, 0, none⟩) 1 1 _ (hsl.mono fun q hq => by rw [hq]; unfold InW; rw [World.size_alloc]; omega) (by simp) (by have := HS.out; have := HN.out; simp; omega) (HG.out.frm (HF3.out.alloc _))
                have hA1 : Frm (fun _ => False) wr (wr.alloc (.cells #[.string (ba x)] 9)) := (Frm.refl (fun _ => False) wr).alloc _
                clear hsl
                rw [show ([x] : List By).flatten = x from by simp] at h1
                go_wp2_with fail
                refine h1.mono ?_
                rintro e V3 hP
                obtain ⟨C3, n3, er3, st3, rfl, hAns, hF, hc7, -, hm⟩ := parse_res hP
                have hV := hA1.trans' hF
                clear hA1 hF h1 hP
                rename_i K hK
                refine hK _ _ ?_
                clear hK
                refine wpList_valT rfl (some 107) rfl (v := .tuple #[.agg C3, .int .i64 n3, .int .i64 er3]) (w' := V3) (by simp [go_sem, execOp]) ?_
                refine wpList_valT rfl (some 111) rfl (v := .agg C3) (w' := V3) (by simp [go_sem, execOp]) ?_
                refine wpList_valT rfl (some 112) rfl (v := .int .i64 n3) (w' := V3) (by simp [go_sem, execOp]) ?_
                refine wpList_valT rfl (some 113) rfl (v := .int .i64 er3) (w' := V3) (by simp [go_sem, execOp]) ?_
                refine wpList_valT rfl (some 13) rfl (v := .pointer (some ⟨V3.heap.size, 0, none⟩)) (w' := V3.alloc (.cells zeroC 33)) (by simp [go_sem, execOp, zeroC, stCells, zeroSt]) ?_
                have hB := Blk.new V3 33 zeroC
                have hX : Frm (fun _ => False) V3 (V3.alloc (.cells zeroC 33)) := (Frm.refl _ V3).alloc _
                obtain ⟨g3, hg3⟩ : ∃ g, g = V3.heap.size := ⟨_, rfl⟩
                rw [← hg3] at hB ⊢
                have hAns2 := hAns.kept hX
                generalize V3.alloc (.cells zeroC 33) = U at *
                simp only [Act.put, List.setIfInBounds_toArray, List.set_cons_succ, List.set_cons_zero]
                refine wpList_store_rowT rfl 33 (.tmp 13) (.tmp 111) rfl rfl g3 C3 rfl rfl _ _ hB (by rw [hAns.size]; exact st_info) (by rw [hAns.size]; rfl) hAns.one ?_
                have hY : Frm (fun _ => False) V3 (U.setRow g3 C3) := hX.trans (K' := fun q => q = g3) ((Frm.refl (fun q => q = g3) U).setRow (.inl rfl) _) fun q hq => .inr (by omega)
                have hD : Blk (U.setRow g3 C3) g3 33 C3 := hB.setRow _
                have hAn := hAns2.lay (D := C3) hB
                generalize U.setRow g3 C3 = W3 at *
                have HW3 := Lib.hid (show Frm (fun _ => False) wr W3 from hV.trans' hY)
                have HB3 := Lib.hid hD
                have HA3 := Lib.hid (And.intro hAn (And.intro hc7 hm))
                have HI3 := Lib.hid (show (Tryd.prog.info? 33).map (·.size) = some C3.size by rw [hAns.size]; exact st_info)
                clear hV hX hB hAns hAns2 hY hD hAn hc7 hm hg3
                have HF4 := Lib.hid (HF3.out.trans' HW3.out)
                have hst : st1 = st3 := by
                  have h1 := HA2.out.2.2
                  have h2 := HA3.out.2.2
                  cases hp : parseB x <;> (rw [hp] at h1 h2; exact h1.1.trans h2.1.symm)
                obtain rfl := hst
                have hg12 : g1 < W1.heap.size := HB1.out.lt
                have hg2 : g1 ≤ g2 := by have h1 := HV2.out.1; have h2 := HV2.out.2.size; omega
                have HB2b := Lib.hid ((HB2.out.kept HK.out.frm (by omega)).kept HW3.out id)
                have HA2b := Lib.hid ((HA2.out.1.above HK.out.frm (by rw [World.size_alloc]; omega)).kept HW3.out)
                clear hg12 hg2
                obtain ⟨wv2, rv2, av2, pv2, hC2, hL2⟩ := HA2b.out.read
                obtain ⟨wv3, rv3, av3, pv3, hC3, hL3⟩ := HA3.out.1.read
                have HC := Lib.hid (And.intro hC2 (And.intro hC3 (And.intro hL2 hL3)))
                have HT := Lib.hid (show st1.words.length ≤ 1000000 ∧ st1.reads.length ≤ 1000000 from by
                  have h := HTT.out
                  unfold totS at h
                  have := HS.out
                  have := HN.out
                  omega)
                clear hC2 hC3 hL2 hL3
                go_wp2_with (first | (refine wpList_loadT (by rfl) 33 (.tmp 6) (by rfl) g2 (by rfl) C2 _ _ HB2b.out Tryd.underlying33 (by rfl) HI2.out ?_) | (refine wpList_loadT (by rfl) 33 (.tmp 13) (by rfl) g3 (by rfl) C3 _ _ HB3.out Tryd.underlying33 (by rfl) HI3.out ?_))
                rw [HC.out.1, HC.out.2.1]
                refine (sameR_any st1 st1 wv2 rv2 av2 pv2 wv3 rv3 av3 pv3 W3 HC.out.2.2.1 HC.out.2.2.2 HA3.out.2.1 HA3.out.2.1 HT.out).mono ?_
                rintro e W4 ⟨rfl, hF⟩
                rw [decide_eq_true rfl]
                have HF5 := Lib.hid (HF4.out.trans' hF)
                clear hF
                have hw := wakes_any W4 (HG.out.frm HF5.out)
                go_wp2_with fail
                refine hw.mono ?_
                rintro e v9 ⟨rfl, hF9⟩
                have HF9 := Lib.hid (HF5.out.trans' hF9)
                clear hw hF9
                go_wp2_with fail
                go_ret
                exact ⟨rfl, HF9.out⟩
end Go.Proofs.YtpcdbkaeijhmfaaDoor
