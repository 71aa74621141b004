/- The walk of NetSwaps. -/
import Derived.Test.YtnibllkcacalhaaGI
namespace Go.Proofs.Ytnibllkcacalhaa
set_option maxRecDepth 100000
open Go.RowKit
/-- What NetSwaps asks. -/
theorem swaps_plain {N : Nt} {a b : Nat} (hcl : cleanNt N = true) (hs : saneB N = true) (ha : a ∈ readyNt N) (hb : b ∈ readyNt N) (hne : a ≠ b) :
    stepNt N (a : Int) = (stepC N a, true) ∧ stepNt N (b : Int) = (stepC N b, true) ∧ stepNt (stepC N a) (b : Int) = (stepC (stepC N a) b, true) ∧ stepNt (stepC N b) (a : Int) = (stepC (stepC N a) b, true) ∧ cleanNt (stepC (stepC N a) b) = true ∧ SmN (stepC N a) ∧ SmN (stepC N b) := by
  obtain ⟨s1, s2⟩ := swap_steps hcl hs ha hb hne
  obtain ⟨s3, -⟩ := swap_steps hcl hs hb ha (Ne.symm hne)
  have e1 := stepNt_yes ha
  have e2 := stepNt_yes hb
  have e3 := stepNt_yes s1
  have e4 := stepNt_yes s3
  rw [Int.toNat_natCast] at e1 e2 e3 e4
  rw [← s2] at e4
  have g1 := step_goes ha hs
  exact ⟨e1, e2, e3, e4, step_clean (step_clean hcl hs ha) g1.2 s1, (sm_right g1.1).1, (sm_right (step_goes hb hs).1).1⟩
theorem ready_two {N : Nt} (i : Int) (h : 2 ≤ (readyNt N).length) : (i % ((readyNt N).length : Int)).toNat < (rdAll N).length ∧ ((rdAll N).map iv)[(i % ((readyNt N).length : Int)).toNat]? = some (.int .i64 (pickAt (readyNt N) i)) ∧ pickAt (readyNt N) i ∈ readyNt N := by
  have hne : readyNt N ≠ [] := by intro h0; rw [h0] at h; simp at h
  obtain ⟨i1, i2, i3⟩ := pick_at i hne
  have hL : (rdAll N).length = (readyNt N).length := by unfold rdAll; simp
  refine ⟨by rw [hL]; exact i1, ?_, i3⟩
  unfold rdAll
  rw [List.getElem?_map, List.getElem?_map, i2]
  rfl
set_option maxRecDepth 100000 in
set_option maxHeartbeats 12800000 in
theorem swaps_law (V : Value) (N : Nt) (i k : Int) (w : World) (h : NR w V N) :
    Calls Try.prog 6 #[V, .int .i64 i, .int .i64 k] w (TrueF w) := by
  obtain ⟨A1, n1, c1, A, n, c, rfl⟩ := h.form
  obtain ⟨G, hG⟩ : ∃ G, G = w.heap.size := ⟨_, rfl⟩
  obtain ⟨W0, hW0⟩ : ∃ W, W = w.alloc (.cells #[.slice A1 n1 c1, .slice A n c] 25) := ⟨_, rfl⟩
  have hb0 := NB.new h
  have hF0 : Frm (fun _ => False) w (w.alloc (.cells #[.slice A1 n1 c1, .slice A n c] 25)) := (Frm.refl _ _).alloc _
  rw [← hW0] at hb0 hF0
  rw [← hG] at hb0
  have HN : Hid (∀ W, Frm (fun _ => False) W0 W → NB W G A1 n1 c1 A n c N) := Lib.hid fun W hW => hb0.kept hW
  have HF0 := Lib.hid hF0
  have x0 := hb0.c0
  have x1 := hb0.c1
  clear h hb0 hF0
  go_enter Try.func6, Try.ntmps6
  go_upto_region 1 with fail
  rw [← hG, ← hW0]
  clear hG hW0
  go_wp2_with fail
  refine (great_v _ N W0 (HN.out W0 (Frm.refl _ _)).r).mono ?_
  rintro e w1 ⟨gr, rfl, hF, hgr⟩
  have HW1 := Lib.hid hF
  have HF1 := Lib.hid (tr HF0.out hF)
  clear hF x0 x1
  cases gr with
  | true =>
    clear hgr
    go_wp2_with fail
    refine (wakes_any w1).mono ?_
    rintro e wk ⟨rfl, hFk⟩
    have HFk := Lib.hid (tr HF1.out hFk)
    clear hFk
    go_wp2_with fail
    go_ret
    exact ⟨by rfl, HFk.out⟩
  | false =>
    have HSm := Lib.hid (hgr rfl)
    clear hgr
    have x0 := (HN.out w1 HW1.out).c0
    have x1 := (HN.out w1 HW1.out).c1
    go_wp2_with fail
    refine (rclean_v _ N w1 (HN.out w1 HW1.out).r HSm.out.1.1).mono ?_
    rintro e w2 ⟨rfl, hF⟩
    have HW2 := Lib.hid (tr HW1.out hF)
    have HF2 := Lib.hid (tr HF1.out hF)
    clear hF x0 x1
    cases hcl : cleanNt N with
    | false =>
      clear hcl
      go_wp2_with fail
      refine (wakes_any w2).mono ?_
      rintro e wk ⟨rfl, hFk⟩
      have HFk := Lib.hid (tr HF2.out hFk)
      clear hFk
      go_wp2_with fail
      go_ret
      exact ⟨by rfl, HFk.out⟩
    | true =>
      have Hcl := Lib.hid hcl
      clear hcl
      have x0 := (HN.out w2 HW2.out).c0
      have x1 := (HN.out w2 HW2.out).c1
      go_wp2_with fail
      refine (sane_v _ N w2 (HN.out w2 HW2.out).r).mono ?_
      rintro e w3 ⟨rfl, hF⟩
      have HW3 := Lib.hid (tr HW2.out hF)
      have HF3 := Lib.hid (tr HF2.out hF)
      clear hF x0 x1
      cases hsn : saneB N with
      | false =>
        clear hsn
        go_wp2_with fail
        refine (wakes_any w3).mono ?_
        rintro e wk ⟨rfl, hFk⟩
        have HFk := Lib.hid (tr HF3.out hFk)
        clear hFk
        go_wp2_with fail
        go_ret
        exact ⟨by rfl, HFk.out⟩
      | true =>
        have Hsn := Lib.hid hsn
        clear hsn
        have x0 := (HN.out w3 HW3.out).c0
        have x1 := (HN.out w3 HW3.out).c1
        go_wp2_with fail
        refine (ready_n _ N w3 (HN.out w3 HW3.out).r).mono ?_
        rintro e w4 ⟨v, rfl, hown, -, hF⟩
        obtain ⟨Al, cl, rfl, -, -⟩ := own_form hown
        have HW4 := Lib.hid (tr HW3.out hF)
        have HF4 := Lib.hid (tr HF3.out hF)
        have hL : (rdAll N).length = (readyNt N).length := by unfold rdAll; simp
        have hL8 := rdAll_le N
        have HO := Lib.hid hown
        clear hF x0 x1 hown
        by_cases h2 : (readyNt N).length < 2
        · rw [hL]
          have g1 : decide (((readyNt N).length : Int) < 2) = true := by simp; omega
          clear h2 hL hL8
          generalize (readyNt N).length = L at *
          go_wp2_with fail
          refine (wakes_any w4).mono ?_
          rintro e wk ⟨rfl, hFk⟩
          have HFk := Lib.hid (tr HF4.out hFk)
          clear hFk
          go_wp2_with fail
          go_ret
          exact ⟨by rfl, HFk.out⟩
        · have hL2 : 2 ≤ (readyNt N).length := by omega
          obtain ⟨i1, i2, i3⟩ := ready_two i hL2
          obtain ⟨k1, k2, k3⟩ := ready_two k hL2
          obtain ⟨p1, p2, p3⟩ := pick_num i (readyNt N).length (by omega)
          obtain ⟨q1, q2, q3⟩ := pick_num k (readyNt N).length (by omega)
          obtain ⟨gl, rfl, ci⟩ := own_at HO.out (i % ((readyNt N).length : Int)).toNat (by rw [List.length_map]; exact i1)
          obtain ⟨gl', e', ck⟩ := own_at HO.out (k % ((readyNt N).length : Int)).toNat (by rw [List.length_map]; exact k1)
          cases e'
          rw [(List.getElem_eq_iff _).2 i2] at ci
          rw [(List.getElem_eq_iff _).2 k2] at ck
          have ni := Int.emod_nonneg i (show ((readyNt N).length : Int) ≠ 0 by omega)
          have li := Int.emod_lt_of_pos i (show (0 : Int) < ((readyNt N).length : Int) by omega)
          have nk := Int.emod_nonneg k (show ((readyNt N).length : Int) ≠ 0 by omega)
          have lk := Int.emod_lt_of_pos k (show (0 : Int) < ((readyNt N).length : Int) by omega)
          have wi : IntKind.i64.wrap (i.tmod ((readyNt N).length : Int) + ((readyNt N).length : Int)) = i.tmod ((readyNt N).length : Int) + ((readyNt N).length : Int) := IntWalk.i64_in _ (by omega)
          have wk : IntKind.i64.wrap (k.tmod ((readyNt N).length : Int) + ((readyNt N).length : Int)) = k.tmod ((readyNt N).length : Int) + ((readyNt N).length : Int) := IntWalk.i64_in _ (by omega)
          have HI := Lib.hid (And.intro i3 k3)
          have HP := Lib.hid (fun hne => swaps_plain Hcl.out Hsn.out i3 k3 hne)
          rw [hL]
          have g1 : decide (((readyNt N).length : Int) < 2) = false := by simp; omega
          have hnz : ¬ ((readyNt N).length : Int) = 0 := by omega
          clear i1 i2 i3 k1 k2 k3 h2 HO
          rw [hL] at hL8
          clear hL
          generalize pickAt (readyNt N) i = a at *
          generalize pickAt (readyNt N) k = b at *
          generalize (readyNt N).length = L at *
          go_upto_region 6 with fail
          go_quiet (fail)
          have hFq : Frm (fun _ => False) w4 (w4.drewN nq) := (Frm.refl _ _).drewN _
          have HW5 := Lib.hid (tr HW4.out hFq)
          have HF5 := Lib.hid (tr HF4.out hFq)
          clear hFq ci ck p1 p2 p3 q1 q2 q3 ni li nk lk wi wk
          generalize w4.drewN nq = w5 at *
          clear HW4 HF4
          by_cases hab : a = b
          · subst hab
            have g2 : (((a : Nat) : Int) == ((a : Nat) : Int)) = true := by simp
            go_wp2_with fail
            refine (wakes_any w5).mono ?_
            rintro e wk ⟨rfl, hFk⟩
            have HFk := Lib.hid (tr HF5.out hFk)
            clear hFk
            go_wp2_with fail
            go_ret
            exact ⟨by rfl, HFk.out⟩
          · have g2 : (((a : Nat) : Int) == ((b : Nat) : Int)) = false := by rw [beq_eq_false_iff_ne]; omega
            obtain ⟨s1, s2, s3, s4, s5, s6, s7⟩ := HP.out hab
            have HS := Lib.hid (And.intro s1 (And.intro s2 (And.intro s3 (And.intro s4 (And.intro s5 (And.intro s6 s7))))))
            clear s1 s2 s3 s4 s5 s6 s7 HP hab
            have x0 := (HN.out w5 HW5.out).c0
            have x1 := (HN.out w5 HW5.out).c1
            go_wp2_with fail
            refine (step_n _ N ((a : Nat) : Int) w5 (HN.out w5 HW5.out).r HSm.out.1).mono ?_
            unfold StepTold
            rw [HS.out.1]
            rintro e t6 ⟨Vf, rfl, hV, hF⟩
            obtain ⟨A1x, n1x, c1x, Ax, nx, cx, rfl⟩ := hV.form
            have HV := Lib.hid (And.intro (cells_nr hV) hF)
            clear hV hF x0 x1
            go_upto_region 10 with fail
            obtain ⟨gx, hgx⟩ : ∃ g, g = t6.heap.size := ⟨_, rfl⟩
            have hbn := NB.new HV.out.1
            rw [← hgx] at hbn ⊢
            have hFs : Frm (fun _ => False) w5 (t6.alloc (.cells #[.slice A1x n1x c1x, .slice Ax nx cx] 25)) := tr HV.out.2 ((Frm.refl _ _).alloc _)
            have HBx : Hid (∀ W, Frm (fun _ => False) (t6.alloc (.cells #[.slice A1x n1x c1x, .slice Ax nx cx] 25)) W → NB W gx A1x n1x c1x Ax nx cx (stepC N a)) := Lib.hid fun W hW => hbn.kept hW
            have H06 := Lib.hid (tr HW5.out hFs)
            have HF6 := Lib.hid (tr HF5.out hFs)
            have HW6 := H06
            clear H06
            generalize t6.alloc (.cells #[.slice A1x n1x c1x, .slice Ax nx cx] 25) = w6 at *
            clear hbn hFs hgx HV HW5 HF5
            have x0 := (HN.out w6 HW6.out).c0
            have x1 := (HN.out w6 HW6.out).c1
            go_wp2_with fail
            refine (step_n _ N ((b : Nat) : Int) w6 (HN.out w6 HW6.out).r HSm.out.1).mono ?_
            unfold StepTold
            rw [HS.out.2.1]
            rintro e t7 ⟨Vf, rfl, hV, hF⟩
            obtain ⟨A1y, n1y, c1y, Ay, ny, cy, rfl⟩ := hV.form
            have HV := Lib.hid (And.intro (cells_nr hV) hF)
            clear hV hF x0 x1
            go_upto_region 11 with fail
            obtain ⟨gy, hgy⟩ : ∃ g, g = t7.heap.size := ⟨_, rfl⟩
            have hbn := NB.new HV.out.1
            rw [← hgy] at hbn ⊢
            have hFs : Frm (fun _ => False) w6 (t7.alloc (.cells #[.slice A1y n1y c1y, .slice Ay ny cy] 25)) := tr HV.out.2 ((Frm.refl _ _).alloc _)
            have HBy : Hid (∀ W, Frm (fun _ => False) (t7.alloc (.cells #[.slice A1y n1y c1y, .slice Ay ny cy] 25)) W → NB W gy A1y n1y c1y Ay ny cy (stepC N b)) := Lib.hid fun W hW => hbn.kept hW
            have H07 := Lib.hid (tr HW6.out hFs)
            have HF7 := Lib.hid (tr HF6.out hFs)
            replace HBx : Hid (∀ W, Frm (fun _ => False) (t7.alloc (.cells #[.slice A1y n1y c1y, .slice Ay ny cy] 25)) W → NB W gx A1x n1x c1x Ax nx cx (stepC N a)) := Lib.hid fun W hW => HBx.out W (tr hFs hW)
            have HW7 := H07
            clear H07
            generalize t7.alloc (.cells #[.slice A1y n1y c1y, .slice Ay ny cy] 25) = w7 at *
            clear hbn hFs hgy HV HW6 HF6
            have x0 := (HBx.out w7 (Frm.refl _ _)).c0
            have x1 := (HBx.out w7 (Frm.refl _ _)).c1
            go_wp2_with fail
            refine (step_n _ (stepC N a) ((b : Nat) : Int) w7 (HBx.out w7 (Frm.refl _ _)).r HS.out.2.2.2.2.2.1).mono ?_
            unfold StepTold
            rw [HS.out.2.2.1]
            rintro e t8 ⟨Vf, rfl, hV, hF⟩
            obtain ⟨A1p, n1p, c1p, Ap, np, cp, rfl⟩ := hV.form
            have HV := Lib.hid (And.intro (cells_nr hV) hF)
            clear hV hF x0 x1
            go_upto_region 12 with fail
            obtain ⟨gp, hgp⟩ : ∃ g, g = t8.heap.size := ⟨_, rfl⟩
            have hbn := NB.new HV.out.1
            rw [← hgp] at hbn ⊢
            have hFs : Frm (fun _ => False) w7 (t8.alloc (.cells #[.slice A1p n1p c1p, .slice Ap np cp] 25)) := tr HV.out.2 ((Frm.refl _ _).alloc _)
            have HBp : Hid (∀ W, Frm (fun _ => False) (t8.alloc (.cells #[.slice A1p n1p c1p, .slice Ap np cp] 25)) W → NB W gp A1p n1p c1p Ap np cp (stepC (stepC N a) b)) := Lib.hid fun W hW => hbn.kept hW
            have H08 := Lib.hid (tr HW7.out hFs)
            have HF8 := Lib.hid (tr HF7.out hFs)
            replace HBy : Hid (∀ W, Frm (fun _ => False) (t8.alloc (.cells #[.slice A1p n1p c1p, .slice Ap np cp] 25)) W → NB W gy A1y n1y c1y Ay ny cy (stepC N b)) := Lib.hid fun W hW => HBy.out W (tr hFs hW)
            have HW8 := H08
            clear H08
            generalize t8.alloc (.cells #[.slice A1p n1p c1p, .slice Ap np cp] 25) = w8 at *
            clear hbn hFs hgp HV HW7 HF7
            have x0 := (HBy.out w8 (Frm.refl _ _)).c0
            have x1 := (HBy.out w8 (Frm.refl _ _)).c1
            go_wp2_with fail
            refine (step_n _ (stepC N b) ((a : Nat) : Int) w8 (HBy.out w8 (Frm.refl _ _)).r HS.out.2.2.2.2.2.2).mono ?_
            unfold StepTold
            rw [HS.out.2.2.2.1]
            rintro e t9 ⟨Vf, rfl, hV, hF⟩
            obtain ⟨A1q, n1q, c1q, Aq, nq, cq, rfl⟩ := hV.form
            have HV := Lib.hid (And.intro (cells_nr hV) hF)
            clear hV hF x0 x1
            go_upto_region 13 with fail
            obtain ⟨gq, hgq⟩ : ∃ g, g = t9.heap.size := ⟨_, rfl⟩
            have hbn := NB.new HV.out.1
            rw [← hgq] at hbn ⊢
            have hFs : Frm (fun _ => False) w8 (t9.alloc (.cells #[.slice A1q n1q c1q, .slice Aq nq cq] 25)) := tr HV.out.2 ((Frm.refl _ _).alloc _)
            have HBq : Hid (∀ W, Frm (fun _ => False) (t9.alloc (.cells #[.slice A1q n1q c1q, .slice Aq nq cq] 25)) W → NB W gq A1q n1q c1q Aq nq cq (stepC (stepC N a) b)) := Lib.hid fun W hW => hbn.kept hW
            have H09 := Lib.hid (tr HW8.out hFs)
            have HF9 := Lib.hid (tr HF8.out hFs)
            replace HBp : Hid (∀ W, Frm (fun _ => False) (t9.alloc (.cells #[.slice A1q n1q c1q, .slice Aq nq cq] 25)) W → NB W gp A1p n1p c1p Ap np cp (stepC (stepC N a) b)) := Lib.hid fun W hW => HBp.out W (tr hFs hW)
            have HW9 := H09
            clear H09
            generalize t9.alloc (.cells #[.slice A1q n1q c1q, .slice Aq nq cq] 25) = w9 at *
            clear hbn hFs hgq HV HW8 HF8
            have x0 := (HBp.out w9 (Frm.refl _ _)).c0
            have x1 := (HBp.out w9 (Frm.refl _ _)).c1
            have x2 := (HBq.out w9 (Frm.refl _ _)).c0
            have x3 := (HBq.out w9 (Frm.refl _ _)).c1
            go_wp2_with fail
            refine (rsame_n _ _ _ _ w9 (HBp.out w9 (Frm.refl _ _)).r (HBq.out w9 (Frm.refl _ _)).r).mono ?_
            rw [decide_eq_true rfl]
            rintro e w10 ⟨rfl, hF⟩
            have hbp := HBp.out w10 hF
            have HF10 := Lib.hid (tr HF9.out hF)
            clear hF x0 x1 x2 x3
            have x0 := hbp.c0
            have x1 := hbp.c1
            have Hbp := Lib.hid hbp.r
            clear hbp
            go_wp2_with fail
            refine (clean_n _ _ w10 Hbp.out).mono ?_
            rw [HS.out.2.2.2.2.1]
            rintro e w11 ⟨rfl, hF⟩
            have HF11 := Lib.hid (tr HF10.out hF)
            clear hF x0 x1
            go_wp2_with fail
            refine (wakes_any w11).mono ?_
            rintro e wk ⟨rfl, hFk⟩
            have HFk := Lib.hid (tr HF11.out hFk)
            clear hFk
            go_wp2_with fail
            go_ret
            exact ⟨by rfl, HFk.out⟩
end Go.Proofs.Ytnibllkcacalhaa
