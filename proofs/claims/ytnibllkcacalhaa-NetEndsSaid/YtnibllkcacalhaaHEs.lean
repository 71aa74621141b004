/- The walk of NetEnds. -/
import Derived.Test.YtnibllkcacalhaaGI
namespace Go.Proofs.Ytnibllkcacalhaa
set_option maxRecDepth 100000
open Go.RowKit
set_option maxRecDepth 100000 in
set_option maxHeartbeats 12800000 in
theorem ends_law (V P1 : Value) (N : Nt) (xs : List Int) (w : World) (h : NR w V N) (h1 : Sl w (fun q => q < w.heap.size) P1 (xs.map iv)) :
    Calls Try.prog 5 #[V, P1] w (TrueF w) := by
  obtain ⟨A1, n1, c1, A, n, c, rfl⟩ := h.form
  obtain ⟨B1, m1, d1, rfl, -⟩ := id h1
  have hm1 : m1 = xs.length := by obtain ⟨_, _, _, e, q, -⟩ := id h1; cases e; rw [List.length_map] at q; exact q
  obtain ⟨G, hG⟩ : ∃ G, G = w.heap.size := ⟨_, rfl⟩
  obtain ⟨W0, hW0⟩ : ∃ W, W = w.alloc (.cells #[.slice A1 n1 c1, .slice A n c] 25) := ⟨_, rfl⟩
  have hb0 := NB.new h
  have hF0 : Frm (fun _ => False) w (w.alloc (.cells #[.slice A1 n1 c1, .slice A n c] 25)) := (Frm.refl _ _).alloc _
  rw [← hW0] at hb0 hF0
  rw [← hG] at hb0
  have HN : Hid (∀ W, Frm (fun _ => False) W0 W → NB W G A1 n1 c1 A n c N) := Lib.hid fun W hW => hb0.kept hW
  have HP1 : Hid (∀ W, Frm (fun _ => False) W0 W → Sl W (fun q => q < W.heap.size) (.slice B1 m1 d1) (xs.map iv)) := Lib.hid fun W hW => h1.keptTo fun q hq => ⟨(tr hF0 hW).block q hq id, Nat.lt_of_lt_of_le hq (tr hF0 hW).size⟩
  have HF0 := Lib.hid hF0
  have HM := Lib.hid hm1
  have x0 := hb0.c0
  have x1 := hb0.c1
  clear h h1 hb0 hF0 hm1
  go_enter Try.func5, Try.ntmps5
  go_upto_region 1 with fail
  rw [← hG, ← hW0]
  clear hG hW0
  go_wp2_with fail
  refine (great_v _ N W0 (HN.out W0 (Frm.refl _ _)).r).mono ?_
  rintro e w1 ⟨gr, rfl, hF, hgr⟩
  have HW1 := Lib.hid hF
  have HF1 := Lib.hid (tr HF0.out hF)
  clear hF x0 x1
  cases gr with
  | true =>
    clear hgr
    go_wp2_with fail
    refine (wakes_any w1).mono ?_
    rintro e wk ⟨rfl, hFk⟩
    have HFk := Lib.hid (tr HF1.out hFk)
    clear hFk
    go_wp2_with fail
    go_ret
    exact ⟨by rfl, HFk.out⟩
  | false =>
    have HSm := Lib.hid (hgr rfl)
    clear hgr
    by_cases hl1 : m1 ≤ 60
    · have g1 : decide ((60 : Int) < m1) = false := by simp; omega
      have x0 := (HN.out w1 HW1.out).c0
      have x1 := (HN.out w1 HW1.out).c1
      go_wp2_with fail
      refine (rright_v _ N w1 (HN.out w1 HW1.out).r HSm.out.1.1).mono ?_
      rintro e w2 ⟨rfl, hF⟩
      have HW2 := Lib.hid (tr HW1.out hF)
      have HF2 := Lib.hid (tr HF1.out hF)
      clear hF x0 x1
      cases hcl : rightNt N with
      | false =>
        clear hcl
        go_wp2_with fail
        refine (wakes_any w2).mono ?_
        rintro e wk ⟨rfl, hFk⟩
        have HFk := Lib.hid (tr HF2.out hFk)
        clear hFk
        go_wp2_with fail
        go_ret
        exact ⟨by rfl, HFk.out⟩
      | true =>
        have Hcl := Lib.hid hcl
        clear hcl
        have x0 := (HN.out w2 HW2.out).c0
        have x1 := (HN.out w2 HW2.out).c1
        go_wp2_with fail
        refine (sane_v _ N w2 (HN.out w2 HW2.out).r).mono ?_
        rintro e w3 ⟨rfl, hF⟩
        have HW3 := Lib.hid (tr HW2.out hF)
        have HF3 := Lib.hid (tr HF2.out hF)
        clear hF x0 x1
        cases hsn : saneB N with
        | false =>
          clear hsn
          go_wp2_with fail
          refine (wakes_any w3).mono ?_
          rintro e wk ⟨rfl, hFk⟩
          have HFk := Lib.hid (tr HF3.out hFk)
          clear hFk
          go_wp2_with fail
          go_ret
          exact ⟨by rfl, HFk.out⟩
        | true =>
          have hpl := ends_plain xs Hcl.out hsn
          have HErr : Hid (∀ W, Frm (fun _ => False) W0 W → Calls Try.prog 30 #[.agg #[.slice A1 n1 c1, .slice A n c]] W (IntR (leftNt N) W)) := Lib.hid fun W hW => errands_v _ N W (HN.out W hW).r Hcl.out
          clear hsn
          obtain ⟨F, hFn⟩ : ∃ F, F = (finN (runNt N xs).1).1 := ⟨_, rfl⟩
          obtain ⟨ia, hia⟩ : ∃ F, F = (finN (runNt N xs).1).2 := ⟨_, rfl⟩
          rw [← hFn, ← hia] at hpl
          obtain ⟨Na, hNa⟩ : ∃ F, F = (runNt N xs).1 := ⟨_, rfl⟩
          obtain ⟨ka, hka⟩ : ∃ F, F = (runNt N xs).2 := ⟨_, rfl⟩
          rw [← hNa, ← hka] at hpl
          rw [← hNa] at hFn hia
          obtain ⟨pK, pL, pR, pR0, pRa, pRf, pC, pP, pSa, pLa, pT⟩ := hpl
          have HQ2 : Hid (finR Na = (F, ia, 0)) := Lib.hid (by unfold finR; rw [if_pos pRa, ← hFn, ← hia])
          have HR1 : Hid ((runNt N xs).1 = Na ∧ (runNt N xs).2 = ka) := Lib.hid ⟨hNa.symm, hka.symm⟩
          have HPl := Lib.hid (And.intro pR0 (And.intro pRf (And.intro pSa (And.intro pLa (And.intro pC (And.intro pP pR))))))
          have hkm : ka ≤ m1 := by have := HM.out; omega
          obtain ⟨T, hT⟩ : ∃ T, T = leftNt N := ⟨_, rfl⟩
          rw [← hT] at pL pT HErr
          clear pR pR0 pRa pRf pC pP pSa pLa hFn hNa hka hia hT pK
          have x0 := (HN.out w3 HW3.out).c0
          have x1 := (HN.out w3 HW3.out).c1
          go_wp2_with fail
          refine (run_n _ N _ xs w3 (HN.out w3 HW3.out).r HSm.out.1 (HP1.out w3 HW3.out) (by have := HM.out; omega)).mono ?_
          rw [HR1.out.1, HR1.out.2]
          rintro e t4 ⟨Vf, rfl, hV, hF⟩
          obtain ⟨A1a, n1a, c1a, Aa, na, ca, rfl⟩ := hV.form
          have HV := Lib.hid (And.intro (cells_nr hV) hF)
          clear hV hF x0 x1
          go_upto_region 4 with fail
          obtain ⟨ga, hga⟩ : ∃ g, g = t4.heap.size := ⟨_, rfl⟩
          have hbn := NB.new HV.out.1
          rw [← hga] at hbn ⊢
          have hFs : Frm (fun _ => False) w3 (t4.alloc (.cells #[.slice A1a n1a c1a, .slice Aa na ca] 25)) := tr HV.out.2 ((Frm.refl _ _).alloc _)
          have HBa : Hid (∀ W, Frm (fun _ => False) (t4.alloc (.cells #[.slice A1a n1a c1a, .slice Aa na ca] 25)) W → NB W ga A1a n1a c1a Aa na ca Na) := Lib.hid fun W hW => hbn.kept hW
          have H04 := Lib.hid (tr HW3.out hFs)
          have HF4 := Lib.hid (tr HF3.out hFs)
          have HW4 := H04
          clear H04
          generalize t4.alloc (.cells #[.slice A1a n1a c1a, .slice Aa na ca] 25) = w4 at *
          clear hbn hFs hga HV HW3 HF3
          have x0 := (HBa.out w4 (Frm.refl _ _)).c0
          have x1 := (HBa.out w4 (Frm.refl _ _)).c1
          go_wp2_with fail
          refine (finish_n _ Na w4 (HBa.out w4 (Frm.refl _ _)).r HPl.out.2.2.1 HPl.out.2.2.2.1).mono ?_
          rw [HQ2.out]
          rintro e t5 ⟨Vf, rfl, hV, hF⟩
          obtain ⟨A1x, n1x, c1x, Ax, nx, cx, rfl⟩ := hV.form
          have HV := Lib.hid (And.intro (cells_nr hV) hF)
          clear hV hF x0 x1
          go_upto_region 5 with fail
          obtain ⟨gx, hgx⟩ : ∃ g, g = t5.heap.size := ⟨_, rfl⟩
          have hbn := NB.new HV.out.1
          rw [← hgx] at hbn ⊢
          have hFs : Frm (fun _ => False) w4 (t5.alloc (.cells #[.slice A1x n1x c1x, .slice Ax nx cx] 25)) := tr HV.out.2 ((Frm.refl _ _).alloc _)
          have HBx : Hid (∀ W, Frm (fun _ => False) (t5.alloc (.cells #[.slice A1x n1x c1x, .slice Ax nx cx] 25)) W → NB W gx A1x n1x c1x Ax nx cx F) := Lib.hid fun W hW => hbn.kept hW
          have H05 := Lib.hid (tr HW4.out hFs)
          have HF5 := Lib.hid (tr HF4.out hFs)
          have HW5 := H05
          clear H05
          generalize t5.alloc (.cells #[.slice A1x n1x c1x, .slice Ax nx cx] 25) = w5 at *
          clear hbn hFs hgx HV HW4 HF4
          have hf := HBx.out
          obtain ⟨ln1, ln⟩ := (HN.out w5 HW5.out).len
          obtain ⟨lx1, lx⟩ := (hf w5 (Frm.refl _ _)).len
          obtain rfl : nx = n := by have := HPl.out.2.2.2.2.1; omega
          obtain rfl : n1x = n1 := by have := HPl.out.2.2.2.2.2.1; omega
          obtain ⟨OB, hOB⟩ : ∃ b, b = overNt F := ⟨_, rfl⟩
          have hov : (rightNt F && overNt F) = OB := by rw [HPl.out.2.1, hOB]; rfl
          have hsk : stuckNt F = !OB := by unfold stuckNt; rw [HPl.out.2.1, HPl.out.1, ← hOB]; simp
          have HC : Hid ((∀ W, Frm (fun _ => False) w5 W → Calls Try.prog 30 #[.agg #[.slice A1 n1x c1, .slice A nx c]] W (IntR T W)) ∧ (∀ W, Frm (fun _ => False) w5 W → Calls Try.prog 20 #[.agg #[.slice A1x n1x c1x, .slice Ax nx cx]] W (IntsR [] W)) ∧
              (∀ W, Frm (fun _ => False) w5 W → Calls Try.prog 22 #[.agg #[.slice A1x n1x c1x, .slice Ax nx cx]] W (RetBool OB W)) ∧ ∀ W, Frm (fun _ => False) w5 W → Calls Try.prog 24 #[.agg #[.slice A1x n1x c1x, .slice Ax nx cx]] W (RetBool (!OB) W)) := Lib.hid
            ⟨fun W hW => HErr.out W (tr HW5.out hW), fun W hW => by have := ready_n _ F W (hf W hW).r; rwa [HPl.out.2.2.2.2.2.2] at this, fun W hW => by have := over_n _ F W (hf W hW).r; rwa [hov] at this, fun W hW => by have := stuck_n _ F W (hf W hW).r; rwa [hsk] at this⟩
          have HK : Hid (∀ W, Frm (fun _ => False) w5 W → W.cell? ⟨G, 0, none⟩ = some (.slice A1 n1x c1) ∧ W.cell? ⟨G, 1, none⟩ = some (.slice A nx c) ∧ W.cell? ⟨gx, 0, none⟩ = some (.slice A1x n1x c1x) ∧ W.cell? ⟨gx, 1, none⟩ = some (.slice Ax nx cx)) := Lib.hid fun W hW => ⟨(HN.out W (tr HW5.out hW)).c0, (HN.out W (tr HW5.out hW)).c1, (hf W hW).c0, (hf W hW).c1⟩
          have eO : (OB == !OB) = false := by cases OB <;> rfl
          have eO' : (OB == OB) = true := by cases OB <;> rfl
          have eA : decide (((T : Nat) : Int) < ((ka : Nat) : Int) + ((ia : Nat) : Int)) = false := by simp; omega
          have eB : decide (m1 < ka) = false := by simp; omega
          have eB' : decide (((m1 : Nat) : Int) < ((ka : Nat) : Int)) = false := by simp; omega
          have eW : IntKind.i64.wrap (((ka : Nat) : Int) + ((ia : Nat) : Int)) = ((ka : Nat) : Int) + ((ia : Nat) : Int) := IntWalk.i64_in _ (by omega)
          have eN : ((nx : Int) != (nx : Int)) = false := by simp
          have eM : ((n1x : Int) != (n1x : Int)) = false := by simp
          have h0 : Frm (fun _ => False) w5 w5.drew := (Frm.refl _ w5).drew
          have hnm : nx ≤ 8 := by have := (right_sm HPl.out.2.1).2.1; omega
          have hpm : n1x ≤ 8 := by have := (right_sm HPl.out.2.1).1; omega
          have HLx := Lib.hid (And.intro lx1 lx)
          clear hf hOB hov hsk ln1 ln lx1 lx hl1 g1 HN HP1 HErr HBa HQ2 HR1 HM HSm Hcl HW5
          go_cut [91] (fun t wc => t = .bool false ∧ Hid (Frm (fun _ => False) w5 wc))
          case first => as_aux_lemma =>
            clear hnm hpm
            go_region_held3 (fun w' => w'.cell? ⟨G, 0, none⟩ = some (.slice A1 n1x c1) ∧ w'.cell? ⟨G, 1, none⟩ = some (.slice A nx c) ∧ w'.cell? ⟨gx, 0, none⟩ = some (.slice A1x n1x c1x) ∧ w'.cell? ⟨gx, 1, none⟩ = some (.slice Ax nx cx))
              (first | exact HK.out _ h0 | exact HK.out _ ha | exact HK.out _ hb | exact HK.out _ hc | exact HK.out _ hd)
              (first
              | (go_at_call 30; refine (HC.out.1 _ h0).mono ?_; rintro e wa ⟨rfl, hFa⟩; have ha := tr h0 hFa)
              | (go_at_call 20; refine (HC.out.2.1 _ ha).mono ?_; rintro e wb ⟨vb, rfl, howb, hnb, hFb⟩; obtain rfl := hnb.2 rfl; have hb := tr ha hFb; clear howb hnb)
              | (go_at_call 22; refine (HC.out.2.2.1 _ (by first | exact hd | exact hb)).mono ?_; rintro e wc ⟨rfl, hFc⟩; have hc : Frm (fun _ => False) w5 wc := by first | exact tr hd hFc | exact tr hb hFc)
              | (go_at_call 24; refine (HC.out.2.2.2 _ (by first | exact hc | exact hb)).mono ?_; rintro e wd ⟨rfl, hFd⟩; have hd : Frm (fun _ => False) w5 wd := by first | exact tr hc hFd | exact tr hb hFd))
            all_goals
              go_wp2_with fail
              go_meet
              case rel => exact ⟨rfl, Lib.hid (by first | exact hd | exact hc)⟩
          case rest =>
            obtain ⟨rfl, hB⟩ := hcut
            clear h0 eO eO' eA eB eB' eW eN eM HC
            go_wp2_with fail
            go_loopw [10] (fun i wr => ∃ k : Nat, k ≤ nx ∧ i = .int .i64 k ∧ Hid (Frm (fun _ => False) w5 wr)) (fun i _ => nx - (intOf i).toNat)
            case atStart => exact ⟨0, Nat.zero_le _, rfl, hB⟩
            case round =>
              obtain ⟨k, hk, rfl, hT⟩ := hrel
              obtain ⟨-, -, z0, z1⟩ := HK.out wr hT.out
              by_cases hlt : k < nx
              · have hkF : k < F.cs.length := by have := HLx.out.2; omega
                have hget := List.getElem?_eq_getElem hkF
                generalize F.cs[k] = ch at *
                obtain ⟨gc, oc, A5, c5, rfl, hcc, hee⟩ := (HBx.out w5 (Frm.refl _ _)).chore k ch hget
                obtain ⟨d0, d1, d2, d3⟩ := hcc wr hT.out
                have hro := fun (W : World) => rover_any A5 ch.row.length c5 ch.at_ ch.sum ch.wrong W
                have HS := Lib.hid (And.intro hro (And.intro hget hee))
                clear hro hget hee hcc hkF
                go_upto_region 11 with fail
                have hFa : Frm (fun _ => False) wr (wr.alloc (.cells #[.slice A5 ch.row.length c5, .int .i64 ch.at_, .int .u32 ch.sum, .int .i64 ch.wrong] 46)) := (Frm.refl _ wr).alloc _
                have hba := Blk.new wr 46 #[.slice A5 ch.row.length c5, .int .i64 ch.at_, .int .u32 ch.sum, .int .i64 ch.wrong]
                obtain ⟨G6, hG6⟩ : ∃ G, G = wr.heap.size := ⟨_, rfl⟩
                rw [← hG6] at hba ⊢
                generalize wr.alloc (.cells #[.slice A5 ch.row.length c5, .int .i64 ch.at_, .int .u32 ch.sum, .int .i64 ch.wrong] 46) = w6 at *
                have y0 : w6.cell? ⟨G6, 0, none⟩ = some (.slice A5 ch.row.length c5) := hba.cell 0
                have y1 : w6.cell? ⟨G6, 1, none⟩ = some (.int .i64 ch.at_) := hba.cell 1
                have y2 : w6.cell? ⟨G6, 2, none⟩ = some (.int .u32 ch.sum) := hba.cell 2
                have y3 : w6.cell? ⟨G6, 3, none⟩ = some (.int .i64 ch.wrong) := hba.cell 3
                have H6 := Lib.hid (And.intro (tr hT.out hFa) hba)
                clear hFa hba hG6 d0 d1 d2 d3 z0 z1
                go_wp2_with fail
                refine (HS.out.1 w6).mono ?_
                rintro e w7 ⟨rfl, hF7⟩
                have hb7 := H6.out.2.kept hF7 id
                have H7 := Lib.hid (And.intro (tr H6.out.1 hF7) hb7)
                have hoe : decide (ch.at_ = (ch.row.length : Int)) = overB ch := rfl
                rw [hoe]
                clear hF7 hb7 hoe y0 y1 y2 y3
                cases hov : overB ch with
                | true =>
                  clear hov
                  go_wp2_with fail
                  go_roundw
                  case rel => exact ⟨k + 1, by omega, by go_num, Lib.hid H7.out.1⟩
                  case measure => simp [intOf]; omega
                | false =>
                  obtain ⟨j, x, q, p, hat, hx, hq, hp, hcl, hwt⟩ := waits_at HPl.out.2.1 HPl.out.1 HS.out.2.1 hov
                  have hj : j < ch.row.length := (List.getElem?_eq_some_iff.1 hx).1
                  have hql : q < n1x := by have := HLx.out.1; have := (List.getElem?_eq_some_iff.1 hp).1; omega
                  obtain ⟨gr, ro, rfl, hec⟩ := HS.out.2.2 j x hx
                  obtain ⟨gp, op, A8, c8, rfl, hpc⟩ := (HBx.out w5 (Frm.refl _ _)).pipe q p hp
                  have HE := Lib.hid (And.intro hec hpc)
                  have hb7 := H7.out.2
                  obtain ⟨-, -, z0, z1⟩ := HK.out w7 H7.out.1
                  have y0 : w7.cell? ⟨G6, 0, none⟩ = some (.slice (some ⟨gr, ro, none⟩) ch.row.length c5) := hb7.cell 0
                  have y1 : w7.cell? ⟨G6, 1, none⟩ = some (.int .i64 ch.at_) := hb7.cell 1
                  rw [hat] at y1
                  obtain ⟨e0, e1, e2⟩ := hec w7 H7.out.1
                  rw [hq] at e1
                  have hj0 : (0 : Int) ≤ (j : Int) := by omega
                  have hq0 : (0 : Int) ≤ (q : Int) := by omega
                  clear hov hat hx hq hp hec hpc hb7
                  generalize ch.row.length = L5 at *
                  obtain ⟨xd, xq, xn⟩ := x
                  dsimp only at e0 e1 e2 hwt
                  go_upto_region 15 with fail
                  have hFb : Frm (fun _ => False) w7 (w7.alloc (.cells #[.int .u8 xd, .int .i64 q, .int .u32 xn] 49)) := (Frm.refl _ w7).alloc _
                  have hbb := Blk.new w7 49 #[.int .u8 xd, .int .i64 q, .int .u32 xn]
                  obtain ⟨G8, hG8⟩ : ∃ G, G = w7.heap.size := ⟨_, rfl⟩
                  rw [← hG8] at hbb ⊢
                  generalize w7.alloc (.cells #[.int .u8 xd, .int .i64 q, .int .u32 xn] 49) = w8 at *
                  have H8 := Lib.hid (tr H7.out.1 hFb)
                  clear z0 z1 y0 y1 e0 e1 e2 hFb hG8
                  obtain ⟨-, -, z0, z1⟩ := HK.out w8 H8.out
                  obtain ⟨p0, p1, p2⟩ := HE.out.2 w8 H8.out
                  rw [hcl] at p2
                  have y0 : w8.cell? ⟨G8, 0, none⟩ = some (.int .u8 xd) := hbb.cell 0
                  have y1 : w8.cell? ⟨G8, 1, none⟩ = some (.int .i64 q) := hbb.cell 1
                  clear hbb hcl
                  obtain ⟨pr, pin, pcl⟩ := p
                  dsimp only at p0 p1 hwt
                  generalize pin.length = PL at *
                  rcases hwt with ⟨rfl, hfull⟩ | ⟨rfl, rfl⟩
                  · have hfb : decide (pr ≤ (PL : Int)) = true := by simpa using hfull
                    clear hfull
                    go_wp2_with fail
                    go_quiet (fail)
                    go_wp2_with fail
                    go_roundw
                    case rel => exact ⟨k + 1, by omega, by go_num, Lib.hid (H8.out.drewN _)⟩
                    case measure => simp [intOf]; omega
                  · go_wp2_with fail
                    go_quiet (fail)
                    go_wp2_with fail
                    go_roundw
                    case rel => exact ⟨k + 1, by omega, by go_num, Lib.hid (H8.out.drewN _)⟩
                    case measure => simp [intOf]; omega
              · obtain rfl : k = nx := by omega
                go_wp2_with fail
                refine (wakes_any wr).mono ?_
                rintro e wk ⟨rfl, hFk⟩
                have HFk := Lib.hid (tr HF5.out (tr hT.out hFk))
                clear hFk
                go_wp2_with fail
                go_ret
                exact ⟨by rfl, HFk.out⟩
    · have g1 : decide ((60 : Int) < m1) = true := by simp; omega
      go_wp2_with fail
      refine (wakes_any w1).mono ?_
      rintro e wk ⟨rfl, hFk⟩
      have HFk := Lib.hid (tr HF1.out hFk)
      clear hFk
      go_wp2_with fail
      go_ret
      exact ⟨by rfl, HFk.out⟩
end Go.Proofs.Ytnibllkcacalhaa
