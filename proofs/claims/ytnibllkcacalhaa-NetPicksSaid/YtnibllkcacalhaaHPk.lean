/- The walk of NetPicks. -/
import Derived.Test.YtnibllkcacalhaaGI
namespace Go.Proofs.Ytnibllkcacalhaa
set_option maxRecDepth 100000
open Go.RowKit
set_option maxRecDepth 100000 in
set_option maxHeartbeats 12800000 in
theorem picks_law (V P1 P2 : Value) (N : Nt) (xs ys : List Int) (w : World) (h : NR w V N) (h1 : Sl w (fun q => q < w.heap.size) P1 (xs.map iv)) (h2 : Sl w (fun q => q < w.heap.size) P2 (ys.map iv)) :
    Calls Try.prog 4 #[V, P1, P2] w (TrueF w) := by
  obtain ⟨A1, n1, c1, A, n, c, rfl⟩ := h.form
  obtain ⟨B1, m1, d1, rfl, -⟩ := id h1
  obtain ⟨B2, m2, d2, rfl, -⟩ := id h2
  have hm1 : m1 = xs.length := by obtain ⟨_, _, _, e, q, -⟩ := id h1; cases e; rw [List.length_map] at q; exact q
  have hm2 : m2 = ys.length := by obtain ⟨_, _, _, e, q, -⟩ := id h2; cases e; rw [List.length_map] at q; exact q
  obtain ⟨G, hG⟩ : ∃ G, G = w.heap.size := ⟨_, rfl⟩
  obtain ⟨W0, hW0⟩ : ∃ W, W = w.alloc (.cells #[.slice A1 n1 c1, .slice A n c] 25) := ⟨_, rfl⟩
  have hb0 := NB.new h
  have hF0 : Frm (fun _ => False) w (w.alloc (.cells #[.slice A1 n1 c1, .slice A n c] 25)) := (Frm.refl _ _).alloc _
  rw [← hW0] at hb0 hF0
  rw [← hG] at hb0
  have HN : Hid (∀ W, Frm (fun _ => False) W0 W → NB W G A1 n1 c1 A n c N) := Lib.hid fun W hW => hb0.kept hW
  have HP1 : Hid (∀ W, Frm (fun _ => False) W0 W → Sl W (fun q => q < W.heap.size) (.slice B1 m1 d1) (xs.map iv)) := Lib.hid fun W hW => h1.keptTo fun q hq => ⟨(tr hF0 hW).block q hq id, Nat.lt_of_lt_of_le hq (tr hF0 hW).size⟩
  have HP2 : Hid (∀ W, Frm (fun _ => False) W0 W → Sl W (fun q => q < W.heap.size) (.slice B2 m2 d2) (ys.map iv)) := Lib.hid fun W hW => h2.keptTo fun q hq => ⟨(tr hF0 hW).block q hq id, Nat.lt_of_lt_of_le hq (tr hF0 hW).size⟩
  have HF0 := Lib.hid hF0
  have HM := Lib.hid (And.intro hm1 hm2)
  have x0 := hb0.c0
  have x1 := hb0.c1
  clear h h1 h2 hb0 hF0 hm1 hm2
  go_enter Try.func4, Try.ntmps4
  go_upto_region 1 with fail
  rw [← hG, ← hW0]
  clear hG hW0
  go_wp2_with fail
  refine (great_v _ N W0 (HN.out W0 (Frm.refl _ _)).r).mono ?_
  rintro e w1 ⟨gr, rfl, hF, hgr⟩
  have HW1 := Lib.hid hF
  have HF1 := Lib.hid (tr HF0.out hF)
  clear hF x0 x1
  cases gr with
  | true =>
    clear hgr
    go_wp2_with fail
    refine (wakes_any w1).mono ?_
    rintro e wk ⟨rfl, hFk⟩
    have HFk := Lib.hid (tr HF1.out hFk)
    clear hFk
    go_wp2_with fail
    go_ret
    exact ⟨by rfl, HFk.out⟩
  | false =>
    have HSm := Lib.hid (hgr rfl)
    clear hgr
    by_cases hl1 : m1 ≤ 60
    · have g1 : decide ((60 : Int) < m1) = false := by simp; omega
      by_cases hl2 : m2 ≤ 60
      · have g2 : decide ((60 : Int) < m2) = false := by simp; omega
        have x0 := (HN.out w1 HW1.out).c0
        have x1 := (HN.out w1 HW1.out).c1
        go_wp2_with fail
        refine (rclean_v _ N w1 (HN.out w1 HW1.out).r HSm.out.1.1).mono ?_
        rintro e w2 ⟨rfl, hF⟩
        have HW2 := Lib.hid (tr HW1.out hF)
        have HF2 := Lib.hid (tr HF1.out hF)
        clear hF x0 x1
        cases hcl : cleanNt N with
        | false =>
          clear hcl
          go_wp2_with fail
          refine (wakes_any w2).mono ?_
          rintro e wk ⟨rfl, hFk⟩
          have HFk := Lib.hid (tr HF2.out hFk)
          clear hFk
          go_wp2_with fail
          go_ret
          exact ⟨by rfl, HFk.out⟩
        | true =>
          have Hcl := Lib.hid hcl
          clear hcl
          have x0 := (HN.out w2 HW2.out).c0
          have x1 := (HN.out w2 HW2.out).c1
          go_wp2_with fail
          refine (sane_v _ N w2 (HN.out w2 HW2.out).r).mono ?_
          rintro e w3 ⟨rfl, hF⟩
          have HW3 := Lib.hid (tr HW2.out hF)
          have HF3 := Lib.hid (tr HF2.out hF)
          clear hF x0 x1
          cases hsn : saneB N with
          | false =>
            clear hsn
            go_wp2_with fail
            refine (wakes_any w3).mono ?_
            rintro e wk ⟨rfl, hFk⟩
            have HFk := Lib.hid (tr HF3.out hFk)
            clear hFk
            go_wp2_with fail
            go_ret
            exact ⟨by rfl, HFk.out⟩
          | true =>
            have Hsn := Lib.hid hsn
            clear hsn
            have HE := Lib.hid (picks_plain xs ys Hcl.out Hsn.out)
            have x0 := (HN.out w3 HW3.out).c0
            have x1 := (HN.out w3 HW3.out).c1
            obtain ⟨F, hFn⟩ : ∃ F, F = (finN N).1 := ⟨_, rfl⟩
            obtain ⟨Na, hNa⟩ : ∃ F, F = (runNt N xs).1 := ⟨_, rfl⟩
            obtain ⟨Nb, hNb⟩ : ∃ F, F = (runNt N ys).1 := ⟨_, rfl⟩
            obtain ⟨many, hmany⟩ : ∃ F, F = (finN N).2 := ⟨_, rfl⟩
            obtain ⟨ka, hka⟩ : ∃ F, F = (runNt N xs).2 := ⟨_, rfl⟩
            obtain ⟨kb, hkb⟩ : ∃ F, F = (runNt N ys).2 := ⟨_, rfl⟩
            obtain ⟨ia, hia⟩ : ∃ F, F = (finN (runNt N xs).1).2 := ⟨_, rfl⟩
            obtain ⟨ib, hib⟩ : ∃ F, F = (finN (runNt N ys).1).2 := ⟨_, rfl⟩
            have hpl := HE.out
            rw [← hFn, ← hNa, ← hNb, ← hmany, ← hka, ← hkb] at hpl
            rw [← hNa] at hia
            rw [← hNb] at hib
            rw [← hia, ← hib] at hpl
            obtain ⟨pA, pB, pC, pD, pE, pR, pRa, pRb, pSa, pSb, pLa, pLb, pM⟩ := hpl
            have HPl := Lib.hid (And.intro pA (And.intro pB (And.intro pR (And.intro pRa (And.intro pRb (And.intro pSa (And.intro pSb (And.intro pLa pLb))))))))
            have HQ1 : Hid (finR N = (F, many, 0)) := Lib.hid (by unfold finR; rw [if_pos pR, ← hFn, ← hmany])
            have HQ2 : Hid (finR Na = (F, ia, 0)) := Lib.hid (by unfold finR; rw [if_pos pRa, pA, ← hia])
            have HQ3 : Hid (finR Nb = (F, ib, 0)) := Lib.hid (by unfold finR; rw [if_pos pRb, pB, ← hib])
            have HR1 : Hid ((runNt N xs).1 = Na ∧ (runNt N xs).2 = ka) := Lib.hid ⟨hNa.symm, hka.symm⟩
            have HR2 : Hid ((runNt N ys).1 = Nb ∧ (runNt N ys).2 = kb) := Lib.hid ⟨hNb.symm, hkb.symm⟩
            clear pA pB pR pRa pRb pSa pSb pLa pLb hFn hNa hNb hmany hka hkb hia hib HE
            go_wp2_with fail
            refine (finish_n _ N w3 (HN.out w3 HW3.out).r HSm.out.1 HSm.out.2).mono ?_
            rw [HQ1.out]
            rintro e t4 ⟨Vf, rfl, hV, hF⟩
            obtain ⟨A1f, n1f, c1f, Af, nf, cf, rfl⟩ := hV.form
            have HV := Lib.hid (And.intro (cells_nr hV) hF)
            clear hV hF x0 x1
            go_upto_region 4 with fail
            obtain ⟨gf, hgf⟩ : ∃ g, g = t4.heap.size := ⟨_, rfl⟩
            have hbn := NB.new HV.out.1
            rw [← hgf] at hbn ⊢
            have hFs : Frm (fun _ => False) w3 (t4.alloc (.cells #[.slice A1f n1f c1f, .slice Af nf cf] 25)) := tr HV.out.2 ((Frm.refl _ _).alloc _)
            have HBf : Hid (∀ W, Frm (fun _ => False) (t4.alloc (.cells #[.slice A1f n1f c1f, .slice Af nf cf] 25)) W → NB W gf A1f n1f c1f Af nf cf F) := Lib.hid fun W hW => hbn.kept hW
            have H04 := Lib.hid (tr HW3.out hFs)
            have HF4 := Lib.hid (tr HF3.out hFs)
            have HW4 := H04
            clear H04
            generalize t4.alloc (.cells #[.slice A1f n1f c1f, .slice Af nf cf] 25) = w4 at *
            clear hbn hFs hgf HV HW3 HF3
            have x0 := (HN.out w4 HW4.out).c0
            have x1 := (HN.out w4 HW4.out).c1
            go_wp2_with fail
            refine (run_n _ N _ xs w4 (HN.out w4 HW4.out).r HSm.out.1 (HP1.out w4 HW4.out) (by have := HM.out.1; omega)).mono ?_
            rw [HR1.out.1, HR1.out.2]
            rintro e t5 ⟨Vf, rfl, hV, hF⟩
            obtain ⟨A1a, n1a, c1a, Aa, na, ca, rfl⟩ := hV.form
            have HV := Lib.hid (And.intro (cells_nr hV) hF)
            clear hV hF x0 x1
            go_upto_region 5 with fail
            obtain ⟨ga, hga⟩ : ∃ g, g = t5.heap.size := ⟨_, rfl⟩
            have hbn := NB.new HV.out.1
            rw [← hga] at hbn ⊢
            have hFs : Frm (fun _ => False) w4 (t5.alloc (.cells #[.slice A1a n1a c1a, .slice Aa na ca] 25)) := tr HV.out.2 ((Frm.refl _ _).alloc _)
            have HBa : Hid (∀ W, Frm (fun _ => False) (t5.alloc (.cells #[.slice A1a n1a c1a, .slice Aa na ca] 25)) W → NB W ga A1a n1a c1a Aa na ca Na) := Lib.hid fun W hW => hbn.kept hW
            have H05 := Lib.hid (tr HW4.out hFs)
            have HF5 := Lib.hid (tr HF4.out hFs)
            replace HBf : Hid (∀ W, Frm (fun _ => False) (t5.alloc (.cells #[.slice A1a n1a c1a, .slice Aa na ca] 25)) W → NB W gf A1f n1f c1f Af nf cf F) := Lib.hid fun W hW => HBf.out W (tr hFs hW)
            have HW5 := H05
            clear H05
            generalize t5.alloc (.cells #[.slice A1a n1a c1a, .slice Aa na ca] 25) = w5 at *
            clear hbn hFs hga HV HW4 HF4
            have x0 := (HN.out w5 HW5.out).c0
            have x1 := (HN.out w5 HW5.out).c1
            go_wp2_with fail
            refine (run_n _ N _ ys w5 (HN.out w5 HW5.out).r HSm.out.1 (HP2.out w5 HW5.out) (by have := HM.out.2; omega)).mono ?_
            rw [HR2.out.1, HR2.out.2]
            rintro e t6 ⟨Vf, rfl, hV, hF⟩
            obtain ⟨A1b, n1b, c1b, Ab, nb, cb, rfl⟩ := hV.form
            have HV := Lib.hid (And.intro (cells_nr hV) hF)
            clear hV hF x0 x1
            go_upto_region 6 with fail
            obtain ⟨gb, hgb⟩ : ∃ g, g = t6.heap.size := ⟨_, rfl⟩
            have hbn := NB.new HV.out.1
            rw [← hgb] at hbn ⊢
            have hFs : Frm (fun _ => False) w5 (t6.alloc (.cells #[.slice A1b n1b c1b, .slice Ab nb cb] 25)) := tr HV.out.2 ((Frm.refl _ _).alloc _)
            have HBb : Hid (∀ W, Frm (fun _ => False) (t6.alloc (.cells #[.slice A1b n1b c1b, .slice Ab nb cb] 25)) W → NB W gb A1b n1b c1b Ab nb cb Nb) := Lib.hid fun W hW => hbn.kept hW
            have H06 := Lib.hid (tr HW5.out hFs)
            have HF6 := Lib.hid (tr HF5.out hFs)
            replace HBf : Hid (∀ W, Frm (fun _ => False) (t6.alloc (.cells #[.slice A1b n1b c1b, .slice Ab nb cb] 25)) W → NB W gf A1f n1f c1f Af nf cf F) := Lib.hid fun W hW => HBf.out W (tr hFs hW)
            replace HBa : Hid (∀ W, Frm (fun _ => False) (t6.alloc (.cells #[.slice A1b n1b c1b, .slice Ab nb cb] 25)) W → NB W ga A1a n1a c1a Aa na ca Na) := Lib.hid fun W hW => HBa.out W (tr hFs hW)
            have HW6 := H06
            clear H06
            generalize t6.alloc (.cells #[.slice A1b n1b c1b, .slice Ab nb cb] 25) = w6 at *
            clear hbn hFs hgb HV HW5 HF5
            have x0 := (HBa.out w6 (Frm.refl _ _)).c0
            have x1 := (HBa.out w6 (Frm.refl _ _)).c1
            go_wp2_with fail
            refine (finish_n _ Na w6 (HBa.out w6 (Frm.refl _ _)).r HPl.out.2.2.2.2.2.1 HPl.out.2.2.2.2.2.2.2.1).mono ?_
            rw [HQ2.out]
            rintro e t7 ⟨Vf, rfl, hV, hF⟩
            obtain ⟨A1x, n1x, c1x, Ax, nx, cx, rfl⟩ := hV.form
            have HV := Lib.hid (And.intro (cells_nr hV) hF)
            clear hV hF x0 x1
            go_upto_region 7 with fail
            obtain ⟨gx, hgx⟩ : ∃ g, g = t7.heap.size := ⟨_, rfl⟩
            have hbn := NB.new HV.out.1
            rw [← hgx] at hbn ⊢
            have hFs : Frm (fun _ => False) w6 (t7.alloc (.cells #[.slice A1x n1x c1x, .slice Ax nx cx] 25)) := tr HV.out.2 ((Frm.refl _ _).alloc _)
            have HBx : Hid (∀ W, Frm (fun _ => False) (t7.alloc (.cells #[.slice A1x n1x c1x, .slice Ax nx cx] 25)) W → NB W gx A1x n1x c1x Ax nx cx F) := Lib.hid fun W hW => hbn.kept hW
            have H07 := Lib.hid (tr HW6.out hFs)
            have HF7 := Lib.hid (tr HF6.out hFs)
            replace HBf : Hid (∀ W, Frm (fun _ => False) (t7.alloc (.cells #[.slice A1x n1x c1x, .slice Ax nx cx] 25)) W → NB W gf A1f n1f c1f Af nf cf F) := Lib.hid fun W hW => HBf.out W (tr hFs hW)
            replace HBb : Hid (∀ W, Frm (fun _ => False) (t7.alloc (.cells #[.slice A1x n1x c1x, .slice Ax nx cx] 25)) W → NB W gb A1b n1b c1b Ab nb cb Nb) := Lib.hid fun W hW => HBb.out W (tr hFs hW)
            have HW7 := H07
            clear H07
            generalize t7.alloc (.cells #[.slice A1x n1x c1x, .slice Ax nx cx] 25) = w7 at *
            clear hbn hFs hgx HV HW6 HF6
            have x0 := (HBb.out w7 (Frm.refl _ _)).c0
            have x1 := (HBb.out w7 (Frm.refl _ _)).c1
            go_wp2_with fail
            refine (finish_n _ Nb w7 (HBb.out w7 (Frm.refl _ _)).r HPl.out.2.2.2.2.2.2.1 HPl.out.2.2.2.2.2.2.2.2).mono ?_
            rw [HQ3.out]
            rintro e t8 ⟨Vf, rfl, hV, hF⟩
            obtain ⟨A1y, n1y, c1y, Ay, ny, cy, rfl⟩ := hV.form
            have HV := Lib.hid (And.intro (cells_nr hV) hF)
            clear hV hF x0 x1
            go_upto_region 8 with fail
            obtain ⟨gy, hgy⟩ : ∃ g, g = t8.heap.size := ⟨_, rfl⟩
            have hbn := NB.new HV.out.1
            rw [← hgy] at hbn ⊢
            have hFs : Frm (fun _ => False) w7 (t8.alloc (.cells #[.slice A1y n1y c1y, .slice Ay ny cy] 25)) := tr HV.out.2 ((Frm.refl _ _).alloc _)
            have HBy : Hid (∀ W, Frm (fun _ => False) (t8.alloc (.cells #[.slice A1y n1y c1y, .slice Ay ny cy] 25)) W → NB W gy A1y n1y c1y Ay ny cy F) := Lib.hid fun W hW => hbn.kept hW
            have H08 := Lib.hid (tr HW7.out hFs)
            have HF8 := Lib.hid (tr HF7.out hFs)
            replace HBf : Hid (∀ W, Frm (fun _ => False) (t8.alloc (.cells #[.slice A1y n1y c1y, .slice Ay ny cy] 25)) W → NB W gf A1f n1f c1f Af nf cf F) := Lib.hid fun W hW => HBf.out W (tr hFs hW)
            replace HBx : Hid (∀ W, Frm (fun _ => False) (t8.alloc (.cells #[.slice A1y n1y c1y, .slice Ay ny cy] 25)) W → NB W gx A1x n1x c1x Ax nx cx F) := Lib.hid fun W hW => HBx.out W (tr hFs hW)
            have HW8 := H08
            clear H08
            generalize t8.alloc (.cells #[.slice A1y n1y c1y, .slice Ay ny cy] 25) = w8 at *
            clear hbn hFs hgy HV HW7 HF7
            have hx := HBx.out
            have hy := HBy.out
            have hf := HBf.out
            obtain ⟨SB, hSB⟩ : ∃ b, b = stuckNt F := ⟨_, rfl⟩
            have HC : Hid ((∀ W, Frm (fun _ => False) w8 W → Calls Try.prog 16 #[.agg #[.slice A1x n1x c1x, .slice Ax nx cx], .agg #[.slice A1f n1f c1f, .slice Af nf cf]] W (RetBool true W)) ∧ (∀ W, Frm (fun _ => False) w8 W → Calls Try.prog 16 #[.agg #[.slice A1y n1y c1y, .slice Ay ny cy], .agg #[.slice A1f n1f c1f, .slice Af nf cf]] W (RetBool true W)) ∧
                (∀ W, Frm (fun _ => False) w8 W → Calls Try.prog 24 #[.agg #[.slice A1x n1x c1x, .slice Ax nx cx]] W (RetBool SB W)) ∧ ∀ W, Frm (fun _ => False) w8 W → Calls Try.prog 24 #[.agg #[.slice A1f n1f c1f, .slice Af nf cf]] W (RetBool SB W)) := Lib.hid
              ⟨fun W hW => by have := rsame_n _ _ F F W (hx W hW).r (hf W hW).r; rwa [decide_eq_true rfl] at this, fun W hW => by have := rsame_n _ _ F F W (hy W hW).r (hf W hW).r; rwa [decide_eq_true rfl] at this, fun W hW => by rw [hSB]; exact stuck_n _ F W (hx W hW).r, fun W hW => by rw [hSB]; exact stuck_n _ F W (hf W hW).r⟩
            have HK : Hid (∀ W, Frm (fun _ => False) w8 W → W.cell? ⟨gx, 0, none⟩ = some (.slice A1x n1x c1x) ∧ W.cell? ⟨gx, 1, none⟩ = some (.slice Ax nx cx) ∧ W.cell? ⟨gf, 0, none⟩ = some (.slice A1f n1f c1f) ∧ W.cell? ⟨gf, 1, none⟩ = some (.slice Af nf cf) ∧ W.cell? ⟨gy, 0, none⟩ = some (.slice A1y n1y c1y) ∧ W.cell? ⟨gy, 1, none⟩ = some (.slice Ay ny cy)) := Lib.hid fun W hW => ⟨(hx W hW).c0, (hx W hW).c1, (hf W hW).c0, (hf W hW).c1, (hy W hW).c0, (hy W hW).c1⟩
            have eS : (SB == SB) = true := by simp
            have eA : (((ka : Nat) : Int) + ((ia : Nat) : Int) == ((many : Nat) : Int)) = true := by rw [beq_iff_eq]; omega
            have eB : (((kb : Nat) : Int) + ((ib : Nat) : Int) == ((many : Nat) : Int)) = true := by rw [beq_iff_eq]; omega
            have eW : IntKind.i64.wrap (((ka : Nat) : Int) + ((ia : Nat) : Int)) = ((ka : Nat) : Int) + ((ia : Nat) : Int) := IntWalk.i64_in _ (by omega)
            have eX : IntKind.i64.wrap (((kb : Nat) : Int) + ((ib : Nat) : Int)) = ((kb : Nat) : Int) + ((ib : Nat) : Int) := IntWalk.i64_in _ (by omega)
            have h0 : Frm (fun _ => False) w8 w8.drew := (Frm.refl _ w8).drew
            clear hx hy hf hSB HBx HBy HBf HN HP1 HP2 HPl HQ1 HQ2 HQ3 HR1 HR2 HM HSm Hcl Hsn HW8 g1 g2 hl1 hl2
            go_region_held3 (fun w' => w'.cell? ⟨gx, 0, none⟩ = some (.slice A1x n1x c1x) ∧ w'.cell? ⟨gx, 1, none⟩ = some (.slice Ax nx cx) ∧ w'.cell? ⟨gf, 0, none⟩ = some (.slice A1f n1f c1f) ∧ w'.cell? ⟨gf, 1, none⟩ = some (.slice Af nf cf) ∧ w'.cell? ⟨gy, 0, none⟩ = some (.slice A1y n1y c1y) ∧ w'.cell? ⟨gy, 1, none⟩ = some (.slice Ay ny cy))
              (first | exact HK.out _ h0 | exact HK.out _ ha | exact HK.out _ hb | exact HK.out _ hc | exact HK.out _ hd | exact HK.out _ hk)
              (first
              | (go_at_call 16; (have _hx := ha); refine (HC.out.2.1 _ ha).mono ?_; rintro e wb ⟨rfl, hFb⟩; have hb := tr ha hFb)
              | (go_at_call 16; refine (HC.out.1 _ h0).mono ?_; rintro e wa ⟨rfl, hFa⟩; have ha := tr h0 hFa)
              | (go_at_call 24; ((with_reducible refine (HC.out.2.2.1 _ (by first | exact hd | exact hb)).mono ?_); rintro e wc ⟨rfl, hFc⟩; have hc : Frm (fun _ => False) w8 wc := by first | exact tr hd hFc | exact tr hb hFc))
              | (go_at_call 24; ((with_reducible refine (HC.out.2.2.2 _ (by first | exact hc | exact hb)).mono ?_); rintro e wd ⟨rfl, hFd⟩; have hd : Frm (fun _ => False) w8 wd := by first | exact tr hc hFd | exact tr hb hFd))
              | (go_at_call 9; refine (wakes_any _).mono ?_; rintro e wk ⟨rfl, hFk⟩; have hk : Frm (fun _ => False) w8 wk := by first | exact tr hd hFk | exact tr hc hFk))
            all_goals
              have HZ := Lib.hid hk
              go_wp2_with fail
              go_ret
              exact ⟨by rfl, tr HF8.out HZ.out⟩
      · have g2 : decide ((60 : Int) < m2) = true := by simp; omega
        go_wp2_with fail
        refine (wakes_any w1).mono ?_
        rintro e wk ⟨rfl, hFk⟩
        have HFk := Lib.hid (tr HF1.out hFk)
        clear hFk
        go_wp2_with fail
        go_ret
        exact ⟨by rfl, HFk.out⟩
    · have g1 : decide ((60 : Int) < m1) = true := by simp; omega
      go_wp2_with fail
      refine (wakes_any w1).mono ?_
      rintro e wk ⟨rfl, hFk⟩
      have HFk := Lib.hid (tr HF1.out hFk)
      clear hFk
      go_wp2_with fail
      go_ret
      exact ⟨by rfl, HFk.out⟩
end Go.Proofs.Ytnibllkcacalhaa
