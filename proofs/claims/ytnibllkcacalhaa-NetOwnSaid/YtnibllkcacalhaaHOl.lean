/- The walk of NetOwn. -/
import Derived.Test.YtnibllkcacalhaaGI
namespace Go.Proofs.Ytnibllkcacalhaa
set_option maxRecDepth 100000
open Go.RowKit
theorem infoN : (Try.prog.info? 25).map (fun i => (i.zero, i.size, i.bytes)) = some (some (.agg #[.slice none 0 0, .slice none 0 0]), 2, 48) := by kernel_rfl
theorem sl6 (w : World) (x0 x1 x2 x3 x4 x5 : Value) (t : TypeId) : SlZ (w.alloc (.cells #[x0, x1, x2, x3, x4, x5] t)) (fun k => k = w.heap.size) 2 (.slice (some ⟨w.heap.size, 0, none⟩) 3 3) [x0, x1, x2, x3, x4, x5] :=
  ⟨_, 3, 3, rfl, rfl, Nat.le_refl _, by omega, .inr ⟨_, 0, rfl, rfl, fun i hi => by
    rw [cell_of_row _ _ _ #[x0, x1, x2, x3, x4, x5] t (0, 0) (heap_alloc_new w _), Nat.zero_add, ← Array.getElem?_toList]
    exact List.getElem?_eq_getElem hi⟩⟩
set_option maxRecDepth 100000 in
set_option maxHeartbeats 25600000 in
theorem own_law (V P1 : Value) (N : Nt) (xs : List Int) (w : World) (h : NR w V N) (h1 : Sl w (fun q => q < w.heap.size) P1 (xs.map iv)) :
    Calls Try.prog 7 #[V, P1] w (TrueF w) := by
  obtain ⟨A1, n1, c1, A, n, c, rfl⟩ := h.form
  obtain ⟨B1, m1, d1, rfl, -⟩ := id h1
  have hm1 : m1 = xs.length := by obtain ⟨_, _, _, e, q, -⟩ := id h1; cases e; rw [List.length_map] at q; exact q
  obtain ⟨G, hG⟩ : ∃ G, G = w.heap.size := ⟨_, rfl⟩
  obtain ⟨W0, hW0⟩ : ∃ W, W = w.alloc (.cells #[.slice A1 n1 c1, .slice A n c] 25) := ⟨_, rfl⟩
  have hb0 := NB.new h
  have hF0 : Frm (fun _ => False) w (w.alloc (.cells #[.slice A1 n1 c1, .slice A n c] 25)) := (Frm.refl _ _).alloc _
  rw [← hW0] at hb0 hF0
  rw [← hG] at hb0
  have HN : Hid (∀ W, Frm (fun _ => False) W0 W → NB W G A1 n1 c1 A n c N) := Lib.hid fun W hW => hb0.kept hW
  have HP1 : Hid (∀ W, Frm (fun _ => False) W0 W → Sl W (fun q => q < W.heap.size) (.slice B1 m1 d1) (xs.map iv)) := Lib.hid fun W hW => h1.keptTo fun q hq => ⟨(tr hF0 hW).block q hq id, Nat.lt_of_lt_of_le hq (tr hF0 hW).size⟩
  have HF0 := Lib.hid hF0
  have HM := Lib.hid hm1
  have HW := Lib.hid h
  have x0 := hb0.c0
  have x1 := hb0.c1
  clear h h1 hb0 hF0 hm1
  go_enter Try.func7, Try.ntmps7
  go_upto_region 1 with fail
  rw [← hG, ← hW0]
  clear hW0
  have HG := Lib.hid hG
  clear hG
  go_wp2_with fail
  refine (great_v _ N W0 (HN.out W0 (Frm.refl _ _)).r).mono ?_
  rintro e w1 ⟨gr, rfl, hF, hgr⟩
  have HW1 := Lib.hid hF
  have HF1 := Lib.hid (tr HF0.out hF)
  clear hF x0 x1
  cases gr with
  | true =>
    clear hgr
    go_wp2_with fail
    refine (wakes_any w1).mono ?_
    rintro e wk ⟨rfl, hFk⟩
    have HFk := Lib.hid (tr HF1.out hFk)
    clear hFk
    go_wp2_with fail
    go_ret
    exact ⟨by rfl, HFk.out⟩
  | false =>
    have HSm := Lib.hid (hgr rfl)
    clear hgr
    by_cases hl1 : m1 ≤ 20
    · have g1 : decide ((20 : Int) < m1) = false := by simp; omega
      have x0 := (HN.out w1 HW1.out).c0
      have x1 := (HN.out w1 HW1.out).c1
      go_wp2_with fail
      refine (rright_v _ N w1 (HN.out w1 HW1.out).r HSm.out.1.1).mono ?_
      rintro e w2 ⟨rfl, hF⟩
      have HW2 := Lib.hid (tr HW1.out hF)
      have HF2 := Lib.hid (tr HF1.out hF)
      clear hF x0 x1
      cases hcl : rightNt N with
      | false =>
        clear hcl
        go_wp2_with fail
        refine (wakes_any w2).mono ?_
        rintro e wk ⟨rfl, hFk⟩
        have HFk := Lib.hid (tr HF2.out hFk)
        clear hFk
        go_wp2_with fail
        go_ret
        exact ⟨by rfl, HFk.out⟩
      | true =>
        clear hcl
        have x0 := (HN.out w2 HW2.out).c0
        have x1 := (HN.out w2 HW2.out).c1
        go_wp2_with fail
        refine (rown_n _ N w2 (HN.out w2 HW2.out).r HSm.out.1).mono ?_
        rintro e t3 ⟨A1o, n1o, c1o, Ao, no, co, ps6, cks6, rfl, hPR, hCR, hp6, hc6, hF3⟩
        go_upto_region 5 with fail
        have hV := ROwn.nvl hPR hCR hp6 hc6
        obtain ⟨w5, hw5⟩ : ∃ W, W = (t3.alloc (.cells #[.slice A1o n1o c1o, .slice Ao no co] 25)).alloc (.cells #[] 25) := ⟨_, rfl⟩
        obtain ⟨go, hgo⟩ : ∃ g, g = t3.heap.size := ⟨_, rfl⟩
        have hF35 : Frm (fun _ => False) t3 w5 := by rw [hw5]; exact ((Frm.refl _ t3).alloc _).alloc _
        have hbo : Blk w5 go 25 #[.slice A1o n1o c1o, .slice Ao no co] := by rw [hw5, hgo]; exact (Blk.new t3 _ _).alloc _
        have how : w5.ownsRow (go + 1) 25 2 (.slice (some ⟨go + 1, 0, none⟩) 0 0) 0 [] := by
          rw [hw5, hgo]
          have := World.ownsRow_made (t3.alloc (.cells #[.slice A1o n1o c1o, .slice Ao no co] 25)) (base := t3.heap.size + 1) (e := 25) (size := 2) #[] 0 (by simp) (Nat.zero_le _) rfl
          rwa [World.size_alloc] at this
        have hs5 : w5.heap.size = go + 2 := by rw [hw5, hgo]; simp
        rw [← hw5, ← hgo]
        obtain ⟨B, hB⟩ : ∃ B, B = w5.heap.size := ⟨_, rfl⟩
        have hVo : NR w5 (.agg #[.slice A1o n1o c1o, .slice Ao no co]) N := hV.kept hF35
        have HOw : Hid ((w.heap.size ≤ G ∧ go + 2 = B ∧ B = w5.heap.size ∧ G < go ∧ NV w5 (fun q => q < go) (.agg #[.slice A1o n1o c1o, .slice Ao no co]) N) ∧ (∀ W, Frm (fun _ => False) w5 W → W.ownsRow (go + 1) 25 2 (.slice (some ⟨go + 1, 0, none⟩) 0 0) 0 []) ∧ Blk w5 go 25 #[.slice A1o n1o c1o, .slice Ao no co]) := Lib.hid
          ⟨⟨Nat.le_of_eq HG.out.symm, by omega, hB, by have := (HN.out t3 (tr HW2.out hF3)).b.lt; omega, NV.keptTo hV fun q hq => ⟨hF35.block q hq id, by omega⟩⟩, fun W hW => hW.own how fun _ _ => id, hbo⟩
        have HW5 := Lib.hid (tr HW2.out (tr hF3 hF35))
        have HF5 := Lib.hid (tr HF2.out (tr hF3 hF35))
        clear hPR hCR hp6 hc6 hF3 hV hF35 hbo how hs5 hB hVo hw5 hgo x0 x1 HW2 HF2
        obtain ⟨R, hR⟩ : ∃ F, F = (runNt N xs).1 := ⟨_, rfl⟩
        obtain ⟨F, hFn⟩ : ∃ F, F = (finR N).1 := ⟨_, rfl⟩
        obtain ⟨S, hS⟩ : ∃ F, F = (stepNt N (-1)).1 := ⟨_, rfl⟩
        have HE := Lib.hid (And.intro hR (And.intro hFn hS))
        clear hR hFn hS
        have x0 := (HN.out w5 HW5.out).c0
        have x1 := (HN.out w5 HW5.out).c1
        go_wp2_with fail
        refine (run_n _ N _ xs w5 (HN.out w5 HW5.out).r HSm.out.1 (HP1.out w5 HW5.out) (by have := HM.out; omega)).mono ?_
        rw [← HE.out.1]
        rintro e t6 ⟨Vf, rfl, hV, hF⟩
        obtain ⟨A1a, n1a, c1a, Aa, na, ca, rfl⟩ := hV.form
        have HV := Lib.hid (And.intro hV hF)
        clear hV hF x0 x1
        go_upto_region 6 with fail
        obtain ⟨ga, hga⟩ : ∃ g, g = t6.heap.size := ⟨_, rfl⟩
        have hbn := NBC.new (B := B) HV.out.1 (Nat.le_of_eq HOw.out.1.2.2.1)
        rw [← hga] at hbn ⊢
        have hFs : Frm (fun _ => False) w5 (t6.alloc (.cells #[.slice A1a n1a c1a, .slice Aa na ca] 25)) := tr HV.out.2 ((Frm.refl _ _).alloc _)
        have HBa : Hid (∀ W, Frm (fun _ => False) (t6.alloc (.cells #[.slice A1a n1a c1a, .slice Aa na ca] 25)) W → NBC W B ga A1a n1a c1a Aa na ca R) := Lib.hid fun W hW => hbn.kept hW
        have H06 := Lib.hid (tr HW5.out hFs)
        have H56 := Lib.hid (hFs)
        have HW6 := H06
        clear H06
        have HLa : Hid (w5.heap.size ≤ ga ∧ ga < (t6.alloc (.cells #[.slice A1a n1a c1a, .slice Aa na ca] 25)).heap.size) := Lib.hid ⟨by rw [hga]; exact HV.out.2.size, hbn.b.lt⟩
        generalize t6.alloc (.cells #[.slice A1a n1a c1a, .slice Aa na ca] 25) = w6 at *
        clear hbn hFs hga HV HW5
        have x0 := (HN.out w6 HW6.out).c0
        have x1 := (HN.out w6 HW6.out).c1
        go_wp2_with fail
        refine (finish_n _ N w6 (HN.out w6 HW6.out).r HSm.out.1 HSm.out.2).mono ?_
        unfold FinR; rw [← HE.out.2.1]
        rintro e t7 ⟨Vf, rfl, hV, hF⟩
        obtain ⟨A1b, n1b, c1b, Ab, nb, cb, rfl⟩ := hV.form
        have HV := Lib.hid (And.intro hV hF)
        clear hV hF x0 x1
        go_upto_region 7 with fail
        obtain ⟨gb, hgb⟩ : ∃ g, g = t7.heap.size := ⟨_, rfl⟩
        have hbn := NBC.new (B := B) HV.out.1 (by have := HOw.out.1.2.2.1; have := H56.out.size; omega)
        rw [← hgb] at hbn ⊢
        have hFs : Frm (fun _ => False) w6 (t7.alloc (.cells #[.slice A1b n1b c1b, .slice Ab nb cb] 25)) := tr HV.out.2 ((Frm.refl _ _).alloc _)
        have HBb : Hid (∀ W, Frm (fun _ => False) (t7.alloc (.cells #[.slice A1b n1b c1b, .slice Ab nb cb] 25)) W → NBC W B gb A1b n1b c1b Ab nb cb F) := Lib.hid fun W hW => hbn.kept hW
        have H07 := Lib.hid (tr HW6.out hFs)
        have H57 := Lib.hid (tr H56.out hFs)
        replace HBa : Hid (∀ W, Frm (fun _ => False) (t7.alloc (.cells #[.slice A1b n1b c1b, .slice Ab nb cb] 25)) W → NBC W B ga A1a n1a c1a Aa na ca R) := Lib.hid fun W hW => HBa.out W (tr hFs hW)
        have HW7 := H07
        clear H07
        have HLb : Hid (w6.heap.size ≤ gb ∧ gb < (t7.alloc (.cells #[.slice A1b n1b c1b, .slice Ab nb cb] 25)).heap.size) := Lib.hid ⟨by rw [hgb]; exact HV.out.2.size, hbn.b.lt⟩
        generalize t7.alloc (.cells #[.slice A1b n1b c1b, .slice Ab nb cb] 25) = w7 at *
        clear hbn hFs hgb HV HW6
        have x0 := (HN.out w7 HW7.out).c0
        have x1 := (HN.out w7 HW7.out).c1
        go_wp2_with fail
        refine (step_n _ N (-1) w7 (HN.out w7 HW7.out).r HSm.out.1).mono ?_
        unfold StepTold; rw [← HE.out.2.2]
        rintro e t8 ⟨Vf, rfl, hV, hF⟩
        obtain ⟨A1c, n1c, c1c, Ac, nc, cc, rfl⟩ := hV.form
        have HV := Lib.hid (And.intro hV hF)
        clear hV hF x0 x1
        go_upto_region 8 with fail
        obtain ⟨gc, hgc⟩ : ∃ g, g = t8.heap.size := ⟨_, rfl⟩
        have hbn := NBC.new (B := B) HV.out.1 (by have := HOw.out.1.2.2.1; have := H57.out.size; omega)
        rw [← hgc] at hbn ⊢
        have hFs : Frm (fun _ => False) w7 (t8.alloc (.cells #[.slice A1c n1c c1c, .slice Ac nc cc] 25)) := tr HV.out.2 ((Frm.refl _ _).alloc _)
        have HBc : Hid (∀ W, Frm (fun _ => False) (t8.alloc (.cells #[.slice A1c n1c c1c, .slice Ac nc cc] 25)) W → NBC W B gc A1c n1c c1c Ac nc cc S) := Lib.hid fun W hW => hbn.kept hW
        have H08 := Lib.hid (tr HW7.out hFs)
        have H58 := Lib.hid (tr H57.out hFs)
        replace HBa : Hid (∀ W, Frm (fun _ => False) (t8.alloc (.cells #[.slice A1c n1c c1c, .slice Ac nc cc] 25)) W → NBC W B ga A1a n1a c1a Aa na ca R) := Lib.hid fun W hW => HBa.out W (tr hFs hW)
        replace HBb : Hid (∀ W, Frm (fun _ => False) (t8.alloc (.cells #[.slice A1c n1c c1c, .slice Ac nc cc] 25)) W → NBC W B gb A1b n1b c1b Ab nb cb F) := Lib.hid fun W hW => HBb.out W (tr hFs hW)
        have HW8 := H08
        clear H08
        have HLc : Hid (w7.heap.size ≤ gc ∧ gc < (t8.alloc (.cells #[.slice A1c n1c c1c, .slice Ac nc cc] 25)).heap.size) := Lib.hid ⟨by rw [hgc]; exact HV.out.2.size, hbn.b.lt⟩
        generalize t8.alloc (.cells #[.slice A1c n1c c1c, .slice Ac nc cc] 25) = w8 at *
        clear hbn hFs hgc HV HW7
        have hos := HOw.out.1.2.2.1
        have hsz := H58.out.size
        have y0 := (HBa.out w8 (Frm.refl _ _)).c0
        have y1 := (HBa.out w8 (Frm.refl _ _)).c1
        have y2 := (HBb.out w8 (Frm.refl _ _)).c0
        have y3 := (HBb.out w8 (Frm.refl _ _)).c1
        have y4 := (HBc.out w8 (Frm.refl _ _)).c0
        have y5 := (HBc.out w8 (Frm.refl _ _)).c1
        obtain ⟨i0, hi, hz0, hz1, hz2⟩ := info_parts infoN
        go_upto_region 9 with (at_builtin; refine wpList_append_slz (by rfl) _ _ 56 (by rfl) (go + 1) 25 i0 _ 2 48 Try.underlying56 hi hz0 hz1 hz2 (by rfl) (by decide) _ 0 [] (by rfl) (by exact HOw.out.2.1 _ (tr H58.out ((Frm.refl _ w8).alloc _))) (fun q => q = w8.heap.size) _ 3 [.slice A1a n1a c1a, .slice Aa na ca, .slice A1b n1b c1b, .slice Ab nb cb, .slice A1c n1c c1c, .slice Ac nc cc] (by rfl) (sl6 w8 _ _ _ _ _ _ _) rfl (by intro u hu; simp only [List.mem_cons, List.not_mem_nil, or_false] at hu; rcases hu with rfl | rfl | rfl | rfl | rfl | rfl <;> rfl) (by unfold maxLen; omega) (by omega) (by have := HOw.out.1.2.1; simp; omega) ?_; intro Al Nl cl w9 HNl hNcl hcml hownl hgl hatl; have H9 := Lib.hid (And.intro hownl hgl); clear hownl hgl hatl)
        obtain rfl : Nl = 3 := by have := HNl.out; omega
        obtain ⟨hown, hgl⟩ := H9.out
        have hF89 : Frm (fun q => q = go + 1) w8 w9 := (((Frm.refl (fun _ => False) w8).alloc _).up (K := fun q => q = go + 1)).grown hgl fun q hq => .inl (by
          have e : some (go + 1) = some q := hq
          injection e with e; exact e.symm)
        have hgB : go + 1 < B := by have := HOw.out.1.2.1; omega
        have ka := (HBa.out w8 (Frm.refl _ _)).keptK hF89 (by have := HLa.out.1; omega) fun q hq e => by omega
        have kb := (HBb.out w8 (Frm.refl _ _)).keptK hF89 (by have := HLb.out.1; have := HLa.out; omega) fun q hq e => by omega
        have kc := (HBc.out w8 (Frm.refl _ _)).keptK hF89 (by have := HLc.out.1; have := HLb.out; have := HLa.out; omega) fun q hq e => by omega
        obtain ⟨sa1, sa2, sa3, sa4⟩ := ka.v.shape
        obtain ⟨sb1, sb2, sb3, sb4⟩ := kb.v.shape
        obtain ⟨sc1, sc2, sc3, sc4⟩ := kc.v.shape
        obtain ⟨gl, hgl', z0⟩ := own_at hown 0 (by simp)
        subst hgl'
        have zz := fun k (hk : k < 6) => own_at hown k (by simpa using hk)
        have HL : Hid (∀ i : Nat, i < 3 → ∃ X1 p1 q1 X p q, w9.cell? ⟨gl, i * 2, none⟩ = some (.slice X1 p1 q1) ∧ w9.cell? ⟨gl, i * 2 + 1, none⟩ = some (.slice X p q) ∧ ShapeC w9 B X p ∧ ShapeP w9 B X1 p1 ∧ p ≤ 9223372036854775807 ∧ p1 ≤ 9223372036854775807) := Lib.hid fun i hi => by
          have zi := fun k (hk : k < 6) => (zz k hk)
          match i, hi with
          | 0, _ =>
            obtain ⟨_, e0, z0⟩ := zi 0 (by omega)
            cases e0
            obtain ⟨_, e1, z1⟩ := zi 1 (by omega)
            cases e1
            exact ⟨_, _, _, _, _, _, z0, z1, sa1, sa2, sa3, sa4⟩
          | 1, _ =>
            obtain ⟨_, e0, z0⟩ := zi 2 (by omega)
            cases e0
            obtain ⟨_, e1, z1⟩ := zi 3 (by omega)
            cases e1
            exact ⟨_, _, _, _, _, _, z0, z1, sb1, sb2, sb3, sb4⟩
          | 2, _ =>
            obtain ⟨_, e0, z0⟩ := zi 4 (by omega)
            cases e0
            obtain ⟨_, e1, z1⟩ := zi 5 (by omega)
            cases e1
            exact ⟨_, _, _, _, _, _, z0, z1, sc1, sc2, sc3, sc4⟩
        have hs9 := hF89.size
        have hNn : NV w9 (fun q => q < w.heap.size) (.agg #[.slice A1 n1 c1, .slice A n c]) N := NV.keptTo HW.out fun q hq => ⟨(hF89.block q (by have := (tr HF5.out H58.out).size; omega) (by have := HOw.out.1; omega)).trans ((tr HF5.out H58.out).block q hq id), hq⟩
        have hNo : NV w9 (fun q => q < go) (.agg #[.slice A1o n1o c1o, .slice Ao no co]) N := NV.keptTo HOw.out.1.2.2.2.2 fun q hq => ⟨(hF89.block q (by have := HOw.out.1; have := H58.out.size; omega) (by omega)).trans (H58.out.block q (by have := HOw.out.1; omega) id), hq⟩
        have hbn : Blk w9 G 25 #[.slice A1 n1 c1, .slice A n c] := (HN.out w8 HW8.out).b.kept hF89 (by have := HOw.out.1; omega)
        have hbo : Blk w9 go 25 #[.slice A1o n1o c1o, .slice Ao no co] := (HOw.out.2.2.kept H58.out id).kept hF89 (by omega)
        have HEn : Hid (∀ W, Kin B w9 W → (NR W (.agg #[.slice A1 n1 c1, .slice A n c]) N ∧ NR W (.agg #[.slice A1o n1o c1o, .slice Ao no co]) N) ∧ (Blk W G 25 #[.slice A1 n1 c1, .slice A n c] ∧ Blk W go 25 #[.slice A1o n1o c1o, .slice Ao no co]) ∧ Frm (fun _ => False) w W) := Lib.hid fun W hK => by
          have hq := HOw.out.1
          have hsz2 := hK.frm.size
          have h5 := HF5.out.size
          refine ⟨⟨NV.keptTo hNn fun q hq' => ⟨hK.frm.block q (by omega) (by omega), by omega⟩, NV.keptTo hNo fun q hq' => ⟨hK.frm.block q (by omega) (by omega), by omega⟩⟩, ⟨hbn.kept hK.frm (by omega), hbo.kept hK.frm (by omega)⟩, ?_⟩
          exact ((tr HF5.out H58.out).trans hF89 fun q hq' => .inr (by omega)).trans hK.frm fun q hq' => .inr (by omega)
        clear hown hgl hF89 hgB ka kb kc sa1 sa2 sa3 sa4 sb1 sb2 sb3 sb4 sc1 sc2 sc3 sc4 z0 zz hs9 hNn hNo hbn hbo hos hsz y0 y1 y2 y3 y4 y5 HBa HBb HBc HLa HLb HLc HW8 HF5 H56 H57 H58 HOw HN HP1 HM HE HSm HW HG g1 hl1 H9 HNl hNcl hcml hi hz0 hz1 hz2
        go_wp2_with fail
        go_loopw [14] (fun i wr => ∃ k : Nat, k ≤ 3 ∧ i = .int .i64 k ∧ Hid (Kin B w9 wr)) (fun i _ => 3 - (intOf i).toNat)
        case atStart => exact ⟨0, by omega, rfl, Lib.hid (Kin.refl _ _)⟩
        case round =>
          obtain ⟨i, hi, rfl, hT⟩ := hrel
          by_cases hlt : i < 3
          · obtain ⟨X1, p1, q1, X, p, q, z0, z1, s1, s2, s3, s4⟩ := HL.out i hlt
            have hi0 : (0 : Int) ≤ (i : Int) := by omega
            have HS := Lib.hid (And.intro s1 (And.intro s2 (And.intro z0 z1)))
            clear s1 s2 z0 z1
            go_wp2_with fail
            go_loopw [15] (fun i wr => ∃ k : Nat, k ≤ p ∧ i = .int .i64 k ∧ Hid (Kin B w9 wr)) (fun i _ => p - (intOf i).toNat)
            case atStart => exact ⟨0, by omega, rfl, hT⟩
            case round =>
              obtain ⟨k, hk, rfl, hT⟩ := hrel
              have z1 := hT.out.slice HS.out.2.2.2
              by_cases hltk : k < p
              · obtain ⟨g5, o5, A5, n5, c5, rfl, e0, hn5, hj5⟩ := HS.out.1 k hltk
                have hk0 : (0 : Int) ≤ (k : Int) := by omega
                have HJ := Lib.hid (And.intro e0 hj5)
                clear e0 hj5
                go_wp2_with fail
                go_loopw [16] (fun i wr => ∃ j : Nat, j ≤ n5 ∧ i = .int .i64 j ∧ Hid (Kin B w9 wr)) (fun i _ => n5 - (intOf i).toNat)
                case atStart => exact ⟨0, by omega, rfl, hT⟩
                case round =>
                  obtain ⟨j, hj, rfl, hT⟩ := hrel
                  clear z1
                  have z1 := hT.out.slice HS.out.2.2.2
                  have e0 := hT.out.slice HJ.out.1
                  by_cases hltj : j < n5
                  · obtain ⟨g7, o7, x7, rfl, hg7, hu7, d7⟩ := HJ.out.2 j hltj
                    obtain ⟨y7, d7'⟩ := hT.out.int d7
                    have f7 := hT.out.open_ hu7 (o7 + j * 3 + 2)
                    have hj0 : (0 : Int) ≤ (j : Int) := by omega
                    have HK := Lib.hid (hT.out.set (y := 99) d7' hg7 hu7)
                    clear hg7 hu7 d7
                    go_wp2_with fail
                    go_roundw
                    case rel => exact ⟨j + 1, by omega, by go_num, HK⟩
                    case measure => simp [intOf]; omega
                  · obtain rfl : j = n5 := by omega
                    go_wp2_with fail
                    go_roundw
                    case rel => exact ⟨k + 1, by omega, by go_num, hT⟩
                    case measure => simp [intOf]; omega
              · obtain rfl : k = p := by omega
                have z0 := hT.out.slice HS.out.2.2.1
                go_wp2_with fail
                go_loopw [17] (fun i wr => ∃ k : Nat, k ≤ p1 ∧ i = .int .i64 k ∧ Hid (Kin B w9 wr)) (fun i _ => p1 - (intOf i).toNat)
                case atStart => exact ⟨0, by omega, rfl, hT⟩
                case round =>
                  obtain ⟨k', hk', rfl, hT⟩ := hrel
                  clear z0 z1
                  have z0 := hT.out.slice HS.out.2.2.1
                  by_cases hltk : k' < p1
                  · obtain ⟨g5, o5, A5, n5, c5, x5, rfl, hg5, hu5, d5, e0, hn5, hj5⟩ := HS.out.2.1 k' hltk
                    have hk0 : (0 : Int) ≤ (k' : Int) := by omega
                    have HJ := Lib.hid (And.intro e0 (And.intro hj5 (And.intro hg5 (And.intro hu5 d5))))
                    clear e0 hj5 hg5 hu5 d5
                    go_wp2_with fail
                    go_loopw [18] (fun i wr => ∃ j : Nat, j ≤ n5 ∧ i = .int .i64 j ∧ Hid (Kin B w9 wr)) (fun i _ => n5 - (intOf i).toNat)
                    case atStart => exact ⟨0, by omega, rfl, hT⟩
                    case round =>
                      obtain ⟨j, hj, rfl, hT⟩ := hrel
                      clear z0
                      have z0 := hT.out.slice HS.out.2.2.1
                      have e0 := hT.out.slice HJ.out.1
                      by_cases hltj : j < n5
                      · obtain ⟨g7, o7, x7, rfl, hg7, hu7, d7⟩ := HJ.out.2.1 j hltj
                        obtain ⟨y7, d7'⟩ := hT.out.int d7
                        have f7 := hT.out.open_ hu7 (o7 + j)
                        have hj0 : (0 : Int) ≤ (j : Int) := by omega
                        have HK := Lib.hid (hT.out.set (y := 99) d7' hg7 hu7)
                        clear hg7 hu7 d7
                        go_wp2_with fail
                        go_roundw
                        case rel => exact ⟨j + 1, by omega, by go_num, HK⟩
                        case measure => simp [intOf]; omega
                      · obtain rfl : j = n5 := by omega
                        obtain ⟨y5, d5'⟩ := hT.out.int HJ.out.2.2.2.2
                        have f5 := hT.out.open_ HJ.out.2.2.2.1 (o5 + k' * 3)
                        have HK := Lib.hid (hT.out.set (y := -9) d5' HJ.out.2.2.1 HJ.out.2.2.2.1)
                        go_wp2_with fail
                        go_roundw
                        case rel => exact ⟨k' + 1, by omega, by go_num, HK⟩
                        case measure => simp [intOf]; omega
                  · obtain rfl : k' = p1 := by omega
                    go_wp2_with fail
                    go_roundw
                    case rel => exact ⟨i + 1, by omega, by go_num, hT⟩
                    case measure => simp [intOf]; omega
          · obtain rfl : i = 3 := by omega
            obtain ⟨⟨n0, n2⟩, ⟨b0, b2⟩, hFr⟩ := HEn.out wr hT.out
            have x0 : wr.cell? ⟨G, 0, none⟩ = some (.slice A1 n1 c1) := b0.cell 0
            have x1 : wr.cell? ⟨G, 1, none⟩ = some (.slice A n c) := b0.cell 1
            have x2 : wr.cell? ⟨go, 0, none⟩ = some (.slice A1o n1o c1o) := b2.cell 0
            have x3 : wr.cell? ⟨go, 1, none⟩ = some (.slice Ao no co) := b2.cell 1
            have HZ := Lib.hid (And.intro n0 (And.intro n2 hFr))
            clear n0 n2 b0 b2 hFr
            go_wp2_with fail
            refine (rsame_n _ _ N N wr HZ.out.1 HZ.out.2.1).mono ?_
            rw [decide_eq_true rfl]
            rintro e wa ⟨rfl, hFa⟩
            have HA := Lib.hid (tr HZ.out.2.2 hFa)
            clear hFa x0 x1 x2 x3
            go_wp2_with fail
            refine (wakes_any _).mono ?_
            rintro e wk ⟨rfl, hFk⟩
            have HFk := Lib.hid (tr HA.out hFk)
            clear hFk
            go_wp2_with fail
            go_ret
            exact ⟨by rfl, HFk.out⟩
    · have g1 : decide ((20 : Int) < m1) = true := by simp; omega
      go_wp2_with fail
      refine (wakes_any w1).mono ?_
      rintro e wk ⟨rfl, hFk⟩
      have HFk := Lib.hid (tr HF1.out hFk)
      clear hFk
      go_wp2_with fail
      go_ret
      exact ⟨by rfl, HFk.out⟩
end Go.Proofs.Ytnibllkcacalhaa
