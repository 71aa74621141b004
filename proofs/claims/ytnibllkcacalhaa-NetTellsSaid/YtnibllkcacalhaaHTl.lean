/- The walk of NetTells. -/
import Derived.Test.YtnibllkcacalhaaGK
import Derived.Test.YtnibllkcacalhaaGJ
import Derived.Test.YtnibllkcacalhaaGI
namespace Go.Proofs.Ytnibllkcacalhaa
set_option maxRecDepth 100000
open Go.RowKit
theorem IntsR.sl {xs : List Int} {w w' : World} {v : Value} (h : w'.ownsRow w.heap.size 3 1 v xs.length (xs.map iv)) : Sl w' (fun q => q < w'.heap.size) v (xs.map iv) := by
  have := Sl.ofZ (SlZ.of_own (K := fun q => q < w'.heap.size) h fun q hq => (World.ownsRow.lt h q hq).2)
  exact this
set_option maxRecDepth 100000 in
set_option maxHeartbeats 25600000 in
theorem tells_law (V V2 P1 : Value) (N M : Nt) (chore : Int) (xs : List Int) (w : World) (h : NR w V N) (h2 : NR w V2 M) (h1 : Sl w (fun q => q < w.heap.size) P1 (xs.map iv)) :
    Calls Try.prog 3 #[V, V2, .int .i64 chore, P1] w (TrueF w) := by
  obtain ⟨A1, n1, c1, A, n, c, rfl⟩ := h.form
  obtain ⟨A1o, n1o, c1o, Ao, no, co, rfl⟩ := h2.form
  obtain ⟨B1, m1, d1, rfl, -⟩ := id h1
  have hm1 : m1 = xs.length := by obtain ⟨_, _, _, e, q, -⟩ := id h1; cases e; rw [List.length_map] at q; exact q
  obtain ⟨G, hG⟩ : ∃ G, G = w.heap.size := ⟨_, rfl⟩
  obtain ⟨W0, hW0⟩ : ∃ W, W = (w.alloc (.cells #[.slice A1 n1 c1, .slice A n c] 25)).alloc (.cells #[.slice A1o n1o c1o, .slice Ao no co] 25) := ⟨_, rfl⟩
  have hF0 : Frm (fun _ => False) w W0 := by rw [hW0]; exact ((Frm.refl _ _).alloc _).alloc _
  have hb0 : NB W0 G A1 n1 c1 A n c N := ⟨by rw [hW0, hG]; exact (Blk.new w _ _).alloc _, h.kept hF0⟩
  have hb1 : NB W0 (G + 1) A1o n1o c1o Ao no co M := ⟨by
    rw [hW0, hG]
    have := Blk.new (w.alloc (.cells #[.slice A1 n1 c1, .slice A n c] 25)) 25 #[.slice A1o n1o c1o, .slice Ao no co]
    rwa [World.size_alloc] at this, h2.kept hF0⟩
  have HN : Hid (∀ W, Frm (fun _ => False) W0 W → NB W G A1 n1 c1 A n c N) := Lib.hid fun W hW => hb0.kept hW
  have HO : Hid (∀ W, Frm (fun _ => False) W0 W → NB W (G + 1) A1o n1o c1o Ao no co M) := Lib.hid fun W hW => hb1.kept hW
  have HP1 : Hid (∀ W, Frm (fun _ => False) W0 W → Sl W (fun q => q < W.heap.size) (.slice B1 m1 d1) (xs.map iv)) := Lib.hid fun W hW => h1.keptTo fun q hq => ⟨(tr hF0 hW).block q hq id, Nat.lt_of_lt_of_le hq (tr hF0 hW).size⟩
  have HF0 := Lib.hid hF0
  have HM := Lib.hid hm1
  have x0 := hb0.c0
  have x1 := hb0.c1
  clear h h2 h1 hb0 hb1 hF0 hm1
  go_enter Try.func3, Try.ntmps3
  go_upto_region 1 with fail
  rw [← hG, ← hW0]
  clear hG hW0
  go_wp2_with fail
  refine (great_v _ N W0 (HN.out W0 (Frm.refl _ _)).r).mono ?_
  rintro e w1 ⟨gr, rfl, hF, hgr⟩
  have HW1 := Lib.hid hF
  have HF1 := Lib.hid (tr HF0.out hF)
  clear hF x0 x1
  cases gr with
  | true =>
    clear hgr
    go_wp2_with fail
    refine (wakes_any w1).mono ?_
    rintro e wk ⟨rfl, hFk⟩
    have HFk := Lib.hid (tr HF1.out hFk)
    clear hFk
    go_wp2_with fail
    go_ret
    exact ⟨by rfl, HFk.out⟩
  | false =>
    have HSm := Lib.hid (hgr rfl)
    clear hgr
    have x0 := (HO.out w1 HW1.out).c0
    have x1 := (HO.out w1 HW1.out).c1
    go_wp2_with fail
    refine (great_v _ M w1 (HO.out w1 HW1.out).r).mono ?_
    rintro e w2 ⟨gr, rfl, hF, hgr⟩
    have HW2 := Lib.hid (tr HW1.out hF)
    have HF2 := Lib.hid (tr HF1.out hF)
    clear hF x0 x1
    cases gr with
    | true =>
      clear hgr
      go_wp2_with fail
      refine (wakes_any w2).mono ?_
      rintro e wk ⟨rfl, hFk⟩
      have HFk := Lib.hid (tr HF2.out hFk)
      clear hFk
      go_wp2_with fail
      go_ret
      exact ⟨by rfl, HFk.out⟩
    | false =>
      have HSo := Lib.hid (hgr rfl)
      clear hgr
      by_cases hl1 : m1 ≤ 40
      · have g1 : decide ((40 : Int) < m1) = false := by simp; omega
        obtain ⟨S, hS⟩ : ∃ F, F = (stepNt N chore).1 := ⟨_, rfl⟩
        obtain ⟨sb, hsb⟩ : ∃ F, F = (stepNt N chore).2 := ⟨_, rfl⟩
        obtain ⟨R, hR⟩ : ∃ F, F = (runNt N xs).1 := ⟨_, rfl⟩
        obtain ⟨rk, hrk⟩ : ∃ F, F = (runNt N xs).2 := ⟨_, rfl⟩
        obtain ⟨F, hFn⟩ : ∃ F, F = (finR N).1 := ⟨_, rfl⟩
        obtain ⟨fm, hfm⟩ : ∃ F, F = (finR N).2.1 := ⟨_, rfl⟩
        obtain ⟨fe, hfe⟩ : ∃ F, F = (finR N).2.2 := ⟨_, rfl⟩
        have HE := Lib.hid (And.intro hS (And.intro hsb (And.intro hR (And.intro hrk (And.intro hFn (And.intro hfm hfe))))))
        clear hS hsb hR hrk hFn hfm hfe
        have x0 := (HN.out w2 HW2.out).c0
        have x1 := (HN.out w2 HW2.out).c1
        go_wp2_with fail
        refine (step_n _ N chore w2 (HN.out w2 HW2.out).r HSm.out.1).mono ?_
        unfold StepTold; rw [← HE.out.1, ← HE.out.2.1]
        rintro e t3 ⟨Vf, rfl, hV, hF⟩
        obtain ⟨A1s, n1s, c1s, As, ns, cs, rfl⟩ := hV.form
        have HV := Lib.hid (And.intro (cells_nr hV) hF)
        clear hV hF x0 x1
        go_upto_region 4 with fail
        obtain ⟨gs, hgs⟩ : ∃ g, g = t3.heap.size := ⟨_, rfl⟩
        have hbn := NB.new HV.out.1
        rw [← hgs] at hbn ⊢
        have hFs : Frm (fun _ => False) w2 (t3.alloc (.cells #[.slice A1s n1s c1s, .slice As ns cs] 25)) := tr HV.out.2 ((Frm.refl _ _).alloc _)
        have HBs : Hid (∀ W, Frm (fun _ => False) (t3.alloc (.cells #[.slice A1s n1s c1s, .slice As ns cs] 25)) W → NB W gs A1s n1s c1s As ns cs S) := Lib.hid fun W hW => hbn.kept hW
        have H03 := Lib.hid (tr HW2.out hFs)
        have HF3 := Lib.hid (tr HF2.out hFs)
        have HW3 := H03
        clear H03
        generalize t3.alloc (.cells #[.slice A1s n1s c1s, .slice As ns cs] 25) = w3 at *
        clear hbn hFs hgs HV HW2 HF2
        have x0 := (HN.out w3 HW3.out).c0
        have x1 := (HN.out w3 HW3.out).c1
        go_wp2_with fail
        refine (rstep_n _ N chore w3 (HN.out w3 HW3.out).r HSm.out.1).mono ?_
        unfold RStep; rw [← HE.out.1, ← HE.out.2.1]
        rintro e t4 ⟨Vf, rfl, hV, hF⟩
        obtain ⟨A1q, n1q, c1q, Aq, nq, cq, rfl⟩ := hV.form
        have HV := Lib.hid (And.intro (NV.nr hV fun q hq => hq.2) hF)
        clear hV hF x0 x1
        go_upto_region 5 with fail
        obtain ⟨gq, hgq⟩ : ∃ g, g = t4.heap.size := ⟨_, rfl⟩
        have hbn := NB.new HV.out.1
        rw [← hgq] at hbn ⊢
        have hFs : Frm (fun _ => False) w3 (t4.alloc (.cells #[.slice A1q n1q c1q, .slice Aq nq cq] 25)) := tr HV.out.2 ((Frm.refl _ _).alloc _)
        have HBq : Hid (∀ W, Frm (fun _ => False) (t4.alloc (.cells #[.slice A1q n1q c1q, .slice Aq nq cq] 25)) W → NB W gq A1q n1q c1q Aq nq cq S) := Lib.hid fun W hW => hbn.kept hW
        have H04 := Lib.hid (tr HW3.out hFs)
        have HF4 := Lib.hid (tr HF3.out hFs)
        replace HBs : Hid (∀ W, Frm (fun _ => False) (t4.alloc (.cells #[.slice A1q n1q c1q, .slice Aq nq cq] 25)) W → NB W gs A1s n1s c1s As ns cs S) := Lib.hid fun W hW => HBs.out W (tr hFs hW)
        have HW4 := H04
        clear H04
        generalize t4.alloc (.cells #[.slice A1q n1q c1q, .slice Aq nq cq] 25) = w4 at *
        clear hbn hFs hgq HV HW3 HF3
        have x0 := (HN.out w4 HW4.out).c0
        have x1 := (HN.out w4 HW4.out).c1
        go_wp2_with fail
        refine (run_n _ N _ xs w4 (HN.out w4 HW4.out).r HSm.out.1 (HP1.out w4 HW4.out) (by have := HM.out; omega)).mono ?_
        rw [← HE.out.2.2.1, ← HE.out.2.2.2.1]
        rintro e t5 ⟨Vf, rfl, hV, hF⟩
        obtain ⟨A1r, n1r, c1r, Ar, nr, cr, rfl⟩ := hV.form
        have HV := Lib.hid (And.intro (cells_nr hV) hF)
        clear hV hF x0 x1
        go_upto_region 6 with fail
        obtain ⟨gr, hgr⟩ : ∃ g, g = t5.heap.size := ⟨_, rfl⟩
        have hbn := NB.new HV.out.1
        rw [← hgr] at hbn ⊢
        have hFs : Frm (fun _ => False) w4 (t5.alloc (.cells #[.slice A1r n1r c1r, .slice Ar nr cr] 25)) := tr HV.out.2 ((Frm.refl _ _).alloc _)
        have HBr : Hid (∀ W, Frm (fun _ => False) (t5.alloc (.cells #[.slice A1r n1r c1r, .slice Ar nr cr] 25)) W → NB W gr A1r n1r c1r Ar nr cr R) := Lib.hid fun W hW => hbn.kept hW
        have H05 := Lib.hid (tr HW4.out hFs)
        have HF5 := Lib.hid (tr HF4.out hFs)
        replace HBs : Hid (∀ W, Frm (fun _ => False) (t5.alloc (.cells #[.slice A1r n1r c1r, .slice Ar nr cr] 25)) W → NB W gs A1s n1s c1s As ns cs S) := Lib.hid fun W hW => HBs.out W (tr hFs hW)
        replace HBq : Hid (∀ W, Frm (fun _ => False) (t5.alloc (.cells #[.slice A1r n1r c1r, .slice Ar nr cr] 25)) W → NB W gq A1q n1q c1q Aq nq cq S) := Lib.hid fun W hW => HBq.out W (tr hFs hW)
        have HW5 := H05
        clear H05
        generalize t5.alloc (.cells #[.slice A1r n1r c1r, .slice Ar nr cr] 25) = w5 at *
        clear hbn hFs hgr HV HW4 HF4
        have x0 := (HN.out w5 HW5.out).c0
        have x1 := (HN.out w5 HW5.out).c1
        go_wp2_with fail
        refine (rrun_n _ N _ xs w5 (HN.out w5 HW5.out).r HSm.out.1 (HP1.out w5 HW5.out) (by have := HM.out; omega)).mono ?_
        rw [← HE.out.2.2.1, ← HE.out.2.2.2.1]
        rintro e t6 ⟨Vf, rfl, hV, hF⟩
        obtain ⟨A1u, n1u, c1u, Au, nu, cu, rfl⟩ := hV.form
        have HV := Lib.hid (And.intro (hV) hF)
        clear hV hF x0 x1
        go_upto_region 7 with fail
        obtain ⟨gu, hgu⟩ : ∃ g, g = t6.heap.size := ⟨_, rfl⟩
        have hbn := NB.new HV.out.1
        rw [← hgu] at hbn ⊢
        have hFs : Frm (fun _ => False) w5 (t6.alloc (.cells #[.slice A1u n1u c1u, .slice Au nu cu] 25)) := tr HV.out.2 ((Frm.refl _ _).alloc _)
        have HBu : Hid (∀ W, Frm (fun _ => False) (t6.alloc (.cells #[.slice A1u n1u c1u, .slice Au nu cu] 25)) W → NB W gu A1u n1u c1u Au nu cu R) := Lib.hid fun W hW => hbn.kept hW
        have H06 := Lib.hid (tr HW5.out hFs)
        have HF6 := Lib.hid (tr HF5.out hFs)
        replace HBs : Hid (∀ W, Frm (fun _ => False) (t6.alloc (.cells #[.slice A1u n1u c1u, .slice Au nu cu] 25)) W → NB W gs A1s n1s c1s As ns cs S) := Lib.hid fun W hW => HBs.out W (tr hFs hW)
        replace HBq : Hid (∀ W, Frm (fun _ => False) (t6.alloc (.cells #[.slice A1u n1u c1u, .slice Au nu cu] 25)) W → NB W gq A1q n1q c1q Aq nq cq S) := Lib.hid fun W hW => HBq.out W (tr hFs hW)
        replace HBr : Hid (∀ W, Frm (fun _ => False) (t6.alloc (.cells #[.slice A1u n1u c1u, .slice Au nu cu] 25)) W → NB W gr A1r n1r c1r Ar nr cr R) := Lib.hid fun W hW => HBr.out W (tr hFs hW)
        have HW6 := H06
        clear H06
        generalize t6.alloc (.cells #[.slice A1u n1u c1u, .slice Au nu cu] 25) = w6 at *
        clear hbn hFs hgu HV HW5 HF5
        have x0 := (HN.out w6 HW6.out).c0
        have x1 := (HN.out w6 HW6.out).c1
        go_wp2_with fail
        refine (finish_n _ N w6 (HN.out w6 HW6.out).r HSm.out.1 HSm.out.2).mono ?_
        unfold FinR; rw [← HE.out.2.2.2.2.1, ← HE.out.2.2.2.2.2.1, ← HE.out.2.2.2.2.2.2]
        rintro e t7 ⟨Vf, rfl, hV, hF⟩
        obtain ⟨A1f, n1f, c1f, Af, nf, cf, rfl⟩ := hV.form
        have HV := Lib.hid (And.intro (cells_nr hV) hF)
        clear hV hF x0 x1
        go_upto_region 8 with fail
        obtain ⟨gf, hgf⟩ : ∃ g, g = t7.heap.size := ⟨_, rfl⟩
        have hbn := NB.new HV.out.1
        rw [← hgf] at hbn ⊢
        have hFs : Frm (fun _ => False) w6 (t7.alloc (.cells #[.slice A1f n1f c1f, .slice Af nf cf] 25)) := tr HV.out.2 ((Frm.refl _ _).alloc _)
        have HBf : Hid (∀ W, Frm (fun _ => False) (t7.alloc (.cells #[.slice A1f n1f c1f, .slice Af nf cf] 25)) W → NB W gf A1f n1f c1f Af nf cf F) := Lib.hid fun W hW => hbn.kept hW
        have H07 := Lib.hid (tr HW6.out hFs)
        have HF7 := Lib.hid (tr HF6.out hFs)
        replace HBs : Hid (∀ W, Frm (fun _ => False) (t7.alloc (.cells #[.slice A1f n1f c1f, .slice Af nf cf] 25)) W → NB W gs A1s n1s c1s As ns cs S) := Lib.hid fun W hW => HBs.out W (tr hFs hW)
        replace HBq : Hid (∀ W, Frm (fun _ => False) (t7.alloc (.cells #[.slice A1f n1f c1f, .slice Af nf cf] 25)) W → NB W gq A1q n1q c1q Aq nq cq S) := Lib.hid fun W hW => HBq.out W (tr hFs hW)
        replace HBr : Hid (∀ W, Frm (fun _ => False) (t7.alloc (.cells #[.slice A1f n1f c1f, .slice Af nf cf] 25)) W → NB W gr A1r n1r c1r Ar nr cr R) := Lib.hid fun W hW => HBr.out W (tr hFs hW)
        replace HBu : Hid (∀ W, Frm (fun _ => False) (t7.alloc (.cells #[.slice A1f n1f c1f, .slice Af nf cf] 25)) W → NB W gu A1u n1u c1u Au nu cu R) := Lib.hid fun W hW => HBu.out W (tr hFs hW)
        have HW7 := H07
        clear H07
        generalize t7.alloc (.cells #[.slice A1f n1f c1f, .slice Af nf cf] 25) = w7 at *
        clear hbn hFs hgf HV HW6 HF6
        have x0 := (HN.out w7 HW7.out).c0
        have x1 := (HN.out w7 HW7.out).c1
        go_wp2_with fail
        refine (rfinish_n _ N w7 (HN.out w7 HW7.out).r HSm.out.1 HSm.out.2).mono ?_
        unfold RFin; rw [← HE.out.2.2.2.2.1, ← HE.out.2.2.2.2.2.1, ← HE.out.2.2.2.2.2.2]
        rintro e t8 ⟨Vf, rfl, hV, hF⟩
        obtain ⟨A1v, n1v, c1v, Av, nv, cv, rfl⟩ := hV.form
        have HV := Lib.hid (And.intro (hV) hF)
        clear hV hF x0 x1
        go_upto_region 9 with fail
        obtain ⟨gv, hgv⟩ : ∃ g, g = t8.heap.size := ⟨_, rfl⟩
        have hbn := NB.new HV.out.1
        rw [← hgv] at hbn ⊢
        have hFs : Frm (fun _ => False) w7 (t8.alloc (.cells #[.slice A1v n1v c1v, .slice Av nv cv] 25)) := tr HV.out.2 ((Frm.refl _ _).alloc _)
        have HBv : Hid (∀ W, Frm (fun _ => False) (t8.alloc (.cells #[.slice A1v n1v c1v, .slice Av nv cv] 25)) W → NB W gv A1v n1v c1v Av nv cv F) := Lib.hid fun W hW => hbn.kept hW
        have H08 := Lib.hid (tr HW7.out hFs)
        have HF8 := Lib.hid (tr HF7.out hFs)
        replace HBs : Hid (∀ W, Frm (fun _ => False) (t8.alloc (.cells #[.slice A1v n1v c1v, .slice Av nv cv] 25)) W → NB W gs A1s n1s c1s As ns cs S) := Lib.hid fun W hW => HBs.out W (tr hFs hW)
        replace HBq : Hid (∀ W, Frm (fun _ => False) (t8.alloc (.cells #[.slice A1v n1v c1v, .slice Av nv cv] 25)) W → NB W gq A1q n1q c1q Aq nq cq S) := Lib.hid fun W hW => HBq.out W (tr hFs hW)
        replace HBr : Hid (∀ W, Frm (fun _ => False) (t8.alloc (.cells #[.slice A1v n1v c1v, .slice Av nv cv] 25)) W → NB W gr A1r n1r c1r Ar nr cr R) := Lib.hid fun W hW => HBr.out W (tr hFs hW)
        replace HBu : Hid (∀ W, Frm (fun _ => False) (t8.alloc (.cells #[.slice A1v n1v c1v, .slice Av nv cv] 25)) W → NB W gu A1u n1u c1u Au nu cu R) := Lib.hid fun W hW => HBu.out W (tr hFs hW)
        replace HBf : Hid (∀ W, Frm (fun _ => False) (t8.alloc (.cells #[.slice A1v n1v c1v, .slice Av nv cv] 25)) W → NB W gf A1f n1f c1f Af nf cf F) := Lib.hid fun W hW => HBf.out W (tr hFs hW)
        have HW8 := H08
        clear H08
        generalize t8.alloc (.cells #[.slice A1v n1v c1v, .slice Av nv cv] 25) = w8 at *
        clear hbn hFs hgv HV HW7 HF7
        have eb : (sb != sb) = false := by cases sb <;> rfl
        have ek : (((rk : Nat) : Int) != ((rk : Nat) : Int)) = false := by simp
        have em : (((fm : Nat) : Int) != ((fm : Nat) : Int)) = false := by simp
        have ee : (fe != fe) = false := by simp
        have x0 := (HBs.out w8 (Frm.refl _ _)).c0
        have x1 := (HBs.out w8 (Frm.refl _ _)).c1
        have x2 := (HBq.out w8 (Frm.refl _ _)).c0
        have x3 := (HBq.out w8 (Frm.refl _ _)).c1
        go_wp2_with fail
        refine (rsame_n _ _ S S w8 (HBs.out w8 (Frm.refl _ _)).r (HBq.out w8 (Frm.refl _ _)).r).mono ?_
        rw [decide_eq_true rfl]
        rintro e w9 ⟨rfl, hF9⟩
        have H9 := Lib.hid hF9
        clear hF9 x0 x1 x2 x3
        have x0 := (HBr.out w9 H9.out).c0
        have x1 := (HBr.out w9 H9.out).c1
        have x2 := (HBu.out w9 H9.out).c0
        have x3 := (HBu.out w9 H9.out).c1
        go_wp2_with fail
        refine (rsame_n _ _ R R w9 (HBr.out w9 H9.out).r (HBu.out w9 H9.out).r).mono ?_
        rw [decide_eq_true rfl]
        rintro e w10 ⟨rfl, hF9⟩
        have H10 := Lib.hid (tr H9.out hF9)
        clear hF9 x0 x1 x2 x3
        have x0 := (HBf.out w10 H10.out).c0
        have x1 := (HBf.out w10 H10.out).c1
        have x2 := (HBv.out w10 H10.out).c0
        have x3 := (HBv.out w10 H10.out).c1
        go_wp2_with fail
        refine (rsame_n _ _ F F w10 (HBf.out w10 H10.out).r (HBv.out w10 H10.out).r).mono ?_
        rw [decide_eq_true rfl]
        rintro e w11 ⟨rfl, hF9⟩
        have HW11 := Lib.hid (tr HW8.out (tr H10.out hF9))
        have HF11 := Lib.hid (tr HF8.out (tr H10.out hF9))
        clear hF9 x0 x1 x2 x3 H9 H10 HW8 HF8 HBs HBq HBr HBu HBf HBv HP1 HM HE
        go_upto_region 11 with fail
        have hn : ∀ W, Frm (fun _ => False) w11 W → NB W G A1 n1 c1 A n c N := fun W hW => HN.out W (tr HW11.out hW)
        have ho : ∀ W, Frm (fun _ => False) w11 W → NB W (G + 1) A1o n1o c1o Ao no co M := fun W hW => HO.out W (tr HW11.out hW)
        obtain ⟨bR, hbR⟩ : ∃ b, b = rightNt N := ⟨_, rfl⟩
        obtain ⟨bO, hbO⟩ : ∃ b, b = (rightNt N && overNt N) := ⟨_, rfl⟩
        obtain ⟨bK, hbK⟩ : ∃ b, b = stuckNt N := ⟨_, rfl⟩
        obtain ⟨bC, hbC⟩ : ∃ b, b = cleanNt N := ⟨_, rfl⟩
        obtain ⟨bS, hbS⟩ : ∃ b, b = decide (N = M) := ⟨_, rfl⟩
        obtain ⟨L, hL⟩ : ∃ l, l = rdAll N := ⟨_, rfl⟩
        have sm := HSm.out.1
        have HC : Hid ((∀ W, Frm (fun _ => False) w11 W → Calls Try.prog 17 #[.agg #[.slice A1 n1 c1, .slice A n c]] W (RetBool bR W)) ∧ (∀ W, Frm (fun _ => False) w11 W → Calls Try.prog 18 #[.agg #[.slice A1 n1 c1, .slice A n c]] W (RetBool bR W)) ∧ (∀ W, Frm (fun _ => False) w11 W → Calls Try.prog 20 #[.agg #[.slice A1 n1 c1, .slice A n c]] W (IntsR L W)) ∧ (∀ W, Frm (fun _ => False) w11 W → Calls Try.prog 21 #[.agg #[.slice A1 n1 c1, .slice A n c]] W (IntsR L W)) ∧ (∀ W, Frm (fun _ => False) w11 W → Calls Try.prog 22 #[.agg #[.slice A1 n1 c1, .slice A n c]] W (RetBool bO W)) ∧ (∀ W, Frm (fun _ => False) w11 W → Calls Try.prog 23 #[.agg #[.slice A1 n1 c1, .slice A n c]] W (RetBool bO W)) ∧ (∀ W, Frm (fun _ => False) w11 W → Calls Try.prog 24 #[.agg #[.slice A1 n1 c1, .slice A n c]] W (RetBool bK W)) ∧ (∀ W, Frm (fun _ => False) w11 W → Calls Try.prog 25 #[.agg #[.slice A1 n1 c1, .slice A n c]] W (RetBool bK W)) ∧ (∀ W, Frm (fun _ => False) w11 W → Calls Try.prog 26 #[.agg #[.slice A1 n1 c1, .slice A n c]] W (RetBool bC W)) ∧ (∀ W, Frm (fun _ => False) w11 W → Calls Try.prog 27 #[.agg #[.slice A1 n1 c1, .slice A n c]] W (RetBool bC W)) ∧ (∀ W, Frm (fun _ => False) w11 W → Calls Try.prog 28 #[.agg #[.slice A1 n1 c1, .slice A n c], .agg #[.slice A1o n1o c1o, .slice Ao no co]] W (RetBool bS W)) ∧ (∀ W, Frm (fun _ => False) w11 W → Calls Try.prog 16 #[.agg #[.slice A1 n1 c1, .slice A n c], .agg #[.slice A1o n1o c1o, .slice Ao no co]] W (RetBool bS W))) := Lib.hid ⟨fun W hW => by rw [hbR]; exact right_n _ N W (hn W hW).r, fun W hW => by rw [hbR]; exact rright_v _ N W (hn W hW).r sm.1, fun W hW => by rw [hL]; exact ready_n _ N W (hn W hW).r, fun W hW => by rw [hL]; exact rready_n _ N W (hn W hW).r sm, fun W hW => by rw [hbO]; exact over_n _ N W (hn W hW).r, fun W hW => by rw [hbO]; exact rover_n _ N W (hn W hW).r sm, fun W hW => by rw [hbK]; exact stuck_n _ N W (hn W hW).r, fun W hW => by rw [hbK]; exact rstuck_n _ N W (hn W hW).r sm, fun W hW => by rw [hbC]; exact clean_n _ N W (hn W hW).r, fun W hW => by rw [hbC]; exact rclean_v _ N W (hn W hW).r sm.1, fun W hW => by rw [hbS]; exact same_n _ _ N M W (hn W hW).r (ho W hW).r, fun W hW => by rw [hbS]; exact rsame_n _ _ N M W (hn W hW).r (ho W hW).r⟩
        have HK : Hid (∀ W, Frm (fun _ => False) w11 W → W.cell? ⟨G, 0, none⟩ = some (.slice A1 n1 c1) ∧ W.cell? ⟨G, 1, none⟩ = some (.slice A n c) ∧ W.cell? ⟨G + 1, 0, none⟩ = some (.slice A1o n1o c1o) ∧ W.cell? ⟨G + 1, 1, none⟩ = some (.slice Ao no co)) := Lib.hid fun W hW => ⟨(hn W hW).c0, (hn W hW).c1, (ho W hW).c0, (ho W hW).c1⟩
        have e1 : (bR == bR) = true := by cases bR <;> rfl
        have e2 : (bO == bO) = true := by cases bO <;> rfl
        have e3 : (bK == bK) = true := by cases bK <;> rfl
        have e4 : (bC == bC) = true := by cases bC <;> rfl
        have e5 : (bS == bS) = true := by cases bS <;> rfl
        have h0 : Frm (fun _ => False) w11 w11.drew := (Frm.refl _ w11).drew
        clear hn ho hbR hbO hbK hbC hbS hL sm HN HO HSm HSo HW11 hl1 g1 eb ek em ee
        go_region_held3 (fun w' => w'.cell? ⟨G, 0, none⟩ = some (.slice A1 n1 c1) ∧ w'.cell? ⟨G, 1, none⟩ = some (.slice A n c) ∧ w'.cell? ⟨G + 1, 0, none⟩ = some (.slice A1o n1o c1o) ∧ w'.cell? ⟨G + 1, 1, none⟩ = some (.slice Ao no co))
          (first | exact HK.out _ k13 | exact HK.out _ k12 | exact HK.out _ k11 | exact HK.out _ k10 | exact HK.out _ k9 | exact HK.out _ k8 | exact HK.out _ k7 | exact HK.out _ k6 | exact HK.out _ k5 | exact HK.out _ k4 | exact HK.out _ k3 | exact HK.out _ k2 | exact HK.out _ k1 | exact HK.out _ k0 | exact HK.out _ h0)
          (first
          | (go_at_call 17; refine (HC.out.1 _ h0).mono ?_; rintro e v0 ⟨rfl, hFk⟩; have k0 := tr h0 hFk; clear hFk)
          | (go_at_call 18; refine (HC.out.2.1 _ k0).mono ?_; rintro e v1 ⟨rfl, hFk⟩; have k1 := tr k0 hFk; clear hFk)
          | (go_at_call 20; refine (HC.out.2.2.1 _ k1).mono ?_; rintro e v2 ⟨u2, rfl, hu2, -, hFk⟩; have k2 := tr k1 hFk; have s2 := IntsR.sl hu2; clear hu2 hFk)
          | (go_at_call 21; refine (HC.out.2.2.2.1 _ k2).mono ?_; rintro e v3 ⟨u3, rfl, hu3, -, hFk⟩; have k3 := tr k2 hFk; have HI := Lib.hid (And.intro (s2.keptTo (K' := fun q => q < v3.heap.size) fun q hq => ⟨hFk.block q hq id, Nat.lt_of_lt_of_le hq hFk.size⟩) (IntsR.sl hu3)); clear hu3 s2 hFk)
          | (go_at_call 19; refine (ints_any _ _ _ _ L L _ HI.out.1 HI.out.2).mono ?_; rintro e v4 ⟨he, kk, rfl⟩; rw [decide_eq_true rfl] at he; subst he; have k4 := k3.drewN kk)
          | (go_at_call 22; refine (HC.out.2.2.2.2.1 _ k4).mono ?_; rintro e v5 ⟨rfl, hFk⟩; have k5 := tr k4 hFk; clear hFk)
          | (go_at_call 23; refine (HC.out.2.2.2.2.2.1 _ k5).mono ?_; rintro e v6 ⟨rfl, hFk⟩; have k6 := tr k5 hFk; clear hFk)
          | (go_at_call 24; refine (HC.out.2.2.2.2.2.2.1 _ k6).mono ?_; rintro e v7 ⟨rfl, hFk⟩; have k7 := tr k6 hFk; clear hFk)
          | (go_at_call 25; refine (HC.out.2.2.2.2.2.2.2.1 _ k7).mono ?_; rintro e v8 ⟨rfl, hFk⟩; have k8 := tr k7 hFk; clear hFk)
          | (go_at_call 26; refine (HC.out.2.2.2.2.2.2.2.2.1 _ k8).mono ?_; rintro e v9 ⟨rfl, hFk⟩; have k9 := tr k8 hFk; clear hFk)
          | (go_at_call 27; refine (HC.out.2.2.2.2.2.2.2.2.2.1 _ k9).mono ?_; rintro e v10 ⟨rfl, hFk⟩; have k10 := tr k9 hFk; clear hFk)
          | (go_at_call 28; refine (HC.out.2.2.2.2.2.2.2.2.2.2.1 _ k10).mono ?_; rintro e v11 ⟨rfl, hFk⟩; have k11 := tr k10 hFk; clear hFk)
          | (go_at_call 16; refine (HC.out.2.2.2.2.2.2.2.2.2.2.2 _ k11).mono ?_; rintro e v12 ⟨rfl, hFk⟩; have k12 := tr k11 hFk; clear hFk)
          | (go_at_call 9; refine (wakes_any _).mono ?_; rintro e v13 ⟨rfl, hFk⟩; have k13 := tr k12 hFk))
        all_goals
          have HZ := Lib.hid k13
          go_wp2_with fail
          go_ret
          exact ⟨by rfl, tr HF11.out HZ.out⟩
      · have g1 : decide ((40 : Int) < m1) = true := by simp; omega
        go_wp2_with fail
        refine (wakes_any w2).mono ?_
        rintro e wk ⟨rfl, hFk⟩
        have HFk := Lib.hid (tr HF2.out hFk)
        clear hFk
        go_wp2_with fail
        go_ret
        exact ⟨by rfl, HFk.out⟩
end Go.Proofs.Ytnibllkcacalhaa
