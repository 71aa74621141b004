/- The walk of teaselref24.Finish. -/
import Derived.Test.YtnibllkcacalhaaHQr
namespace Go.Proofs.Ytnibllkcacalhaa
set_option maxRecDepth 100000
open Go.RowKit
def RFin (r : Nt × Nat × Int) (w : World) (e : Ending) (w' : World) : Prop := ∃ V, e = .returned (.tuple #[V, .int .i64 r.2.1, .int .i64 r.2.2]) ∧ NR w' V r.1 ∧ Frm (fun _ => False) w w'
theorem rfin_res (tmps : Array Value) (w : World) (g : Nat) (vp vc : Value) (x y : Value) (hp : tmps.getD 2 undef = .pointer (some ⟨g, 0, none⟩)) (hq : tmps.getD 3 undef = x) (hr : tmps.getD 4 undef = y)
    (hg : w.heap[g]? = some (.cells #[vp, vc] 25 (0, 0))) : (results Try.f15 tmps).run Try.prog w = .ok (.tuple #[.agg #[vp, vc], x, y]) w := by
  have hp' : tmps[2]?.getD undef = .pointer (some ⟨g, 0, none⟩) := by simpa using hp
  have hq' : tmps[3]?.getD undef = x := by simpa using hq
  have hr' : tmps[4]?.getD undef = y := by simpa using hr
  have c0 : w.cell? ⟨g, 0, none⟩ = some vp := cell_of_row w g 0 _ _ _ hg
  have c1 : w.cell? ⟨g, 1, none⟩ = some vc := cell_of_row w g 1 _ _ _ hg
  simp [results, Try.results15, go_sem, hp', hq', hr', asAddr, c0, c1]
set_option maxHeartbeats 6400000 in
theorem rfinish_n (V : Value) (N : Nt) (w : World) (h : NR w V N) (hsm : SmN N) (hlt : leftNt N ≤ 1000000) : Calls Try.prog 15 #[V] w (RFin (finR N) w) := by
  have hown := fun (W : World) (hW : Frm (fun _ => False) w W) => rown_n V N W (h.kept hW) hsm
  have hrr := fun (W : World) (hW : Frm (fun _ => False) w W) => rright_v V N W (h.kept hW) hsm.1
  obtain ⟨A1, n1, c1, A, n, c, rfl⟩ := h.form
  obtain ⟨W0, hW0⟩ : ∃ W, W = (w.alloc (.cells #[.slice A1 n1 c1, .slice A n c] 25)).alloc (.cells #[.slice none 0 0, .slice none 0 0] 25) := ⟨_, rfl⟩
  obtain ⟨G, hG⟩ : ∃ G, G = w.heap.size := ⟨_, rfl⟩
  have hF0 : Frm (fun _ => False) w W0 := by rw [hW0]; exact ((Frm.refl _ w).alloc _).alloc _
  have hb0 : Blk W0 G 25 #[.slice A1 n1 c1, .slice A n c] := by rw [hW0, hG]; exact (Blk.new w _ _).alloc _
  have hb1 : Blk W0 (G + 1) 25 #[.slice none 0 0, .slice none 0 0] := by
    rw [hW0, hG]
    have := Blk.new (w.alloc (.cells #[.slice A1 n1 c1, .slice A n c] 25)) 25 #[.slice none 0 0, .slice none 0 0]
    rwa [World.size_alloc] at this
  have x0 : W0.cell? ⟨G, 0, none⟩ = some (.slice A1 n1 c1) := hb0.cell 0
  have x1 : W0.cell? ⟨G, 1, none⟩ = some (.slice A n c) := hb0.cell 1
  obtain ⟨T, hT⟩ : ∃ T, T = leftNt N := ⟨_, rfl⟩
  have hT6 : T ≤ 1000000 := by omega
  have H := Lib.hid (And.intro hown (And.intro hF0 (And.intro hb1 (And.intro hG (And.intro hb0 (And.intro hsm (And.intro hT hrr)))))))
  clear h hsm hown hF0 hb0 hb1 hrr hlt hT
  go_enter Try.func15, Try.ntmps15
  go_upto_region 1 with fail
  rw [← hG, ← hW0]
  clear hG hW0
  go_wp2_with fail
  refine (H.out.1 W0 H.out.2.1).mono ?_
  rintro e w1 ⟨A6, n6, c6, A7, n7, c7, ps6, cks6, rfl, hPR, hCR, hp6, hc6, hF1⟩
  go_upto_region 2 with fail
  obtain ⟨W2, hW2⟩ : ∃ W, W = w1.alloc (.cells #[.slice A6 n6 c6, .slice A7 n7 c7] 25) := ⟨_, rfl⟩
  obtain ⟨g6, hg6⟩ : ∃ g, g = w1.heap.size := ⟨_, rfl⟩
  have hNB : NB2 W2 W0.heap.size g6 A6 n6 c6 A7 n7 c7 N := by rw [hW2, hg6]; exact NB2.new (ROwn.nv hPR hCR hp6 hc6)
  have hF12 : Frm (fun _ => False) w1 W2 := by rw [hW2]; exact (Frm.refl _ w1).alloc _
  rw [← hW2, ← hg6]
  have hg6s : W0.heap.size ≤ g6 := by rw [hg6]; exact hF1.size
  replace x0 := (tr hF1 hF12).cell x0 id
  replace x1 := (tr hF1 hF12).cell x1 id
  have H2 := Lib.hid (And.intro hNB (And.intro (tr H.out.2.1 (tr hF1 hF12)) (And.intro (H.out.2.2.1.kept (tr hF1 hF12) id) hg6s)))
  clear hPR hCR hp6 hc6 hF1 hF12 hNB hg6s hW2 hg6
  go_wp2_with fail
  refine (H.out.2.2.2.2.2.2.2 W2 H2.out.2.1).mono ?_
  rintro e w3 ⟨rfl, hF3⟩
  have H3 := Lib.hid (And.intro (H2.out.1.kept hF3) (And.intro (tr H2.out.2.1 hF3) (H2.out.2.2.1.kept hF3 id)))
  clear hF3 x0 x1
  have hwG : w.heap.size ≤ G := Nat.le_of_eq H.out.2.2.2.1.symm
  have hGl : G + 1 < W0.heap.size := H.out.2.2.1.lt
  cases hr : rightNt N with
  | false =>
    have hNB := H3.out.1
    have hbr := H3.out.2.2
    have q0 := hNB.nb.c0
    have q1 := hNB.nb.c1
    have y3 : w3.cell? ⟨G + 1, 0, none⟩ = some (.slice none 0 0) := hbr.cell 0
    have y4 : w3.cell? ⟨G + 1, 1, none⟩ = some (.slice none 0 0) := hbr.cell 1
    have f3 := hbr.frozen 0
    have f4 := hbr.frozen 1
    have HR := Lib.hid hr
    clear hNB hbr hr
    go_wp2_with fail
    obtain ⟨t1, t2, t3⟩ := H3.out.1.told H3.out.2.2 hGl (by omega) H3.out.2.1
    refine bodyPost_ret (rfin_res _ _ (G + 1) _ _ _ _ rfl rfl rfl t1) rfl ?_
    unfold finR
    rw [if_neg (by rw [HR.out]; simp)]
    exact ⟨_, rfl, t2, t3⟩
  | true =>
    have HR := Lib.hid hr
    clear hr
    go_wp2_with fail
    go_loopw [6] (fun s wr => ∃ m : Nat, m ≤ T ∧ s = .int .i64 m ∧ Hid (∃ nt A1' n1' c1' A' n' c', NB2 wr W0.heap.size g6 A1' n1' c1' A' n' c' nt ∧ SmN nt ∧ (finN N).1 = (finN nt).1 ∧ (finN N).2 = m + (finN nt).2 ∧ m + leftNt nt ≤ T ∧ Frm (fun _ => False) w wr ∧ Blk wr (G + 1) 25 #[.slice none 0 0, .slice none 0 0])) (fun s _ => T - (intOf s).toNat)
    case atStart => exact ⟨0, by omega, rfl, Lib.hid ⟨N, _, _, _, _, _, _, H3.out.1, H.out.2.2.2.2.2.1, by simp, by simp, by rw [H.out.2.2.2.2.2.2.1]; omega, H3.out.2.1, H3.out.2.2⟩⟩
    case round =>
      obtain ⟨m, hm, rfl, hT⟩ := hrel
      obtain ⟨nt, A1', n1', c1', A', n', c', hNB, hsm, hr1, hr2, hmk, hF, hbr⟩ := hT.out
      have hrd := fun W (hW : Frm (fun _ => False) wr W) => rready_n _ nt W (hNB.kept hW).nb.r hsm
      have q0 := hNB.nb.c0
      have q1 := hNB.nb.c1
      have HS := Lib.hid (And.intro hNB (And.intro hr1 (And.intro hr2 (And.intro hF (And.intro hbr (And.intro hmk (And.intro hrd hsm)))))))
      clear hNB hr1 hr2 hF hbr hmk hrd hsm hT
      go_wp2_with fail
      refine (HS.out.2.2.2.2.2.2.1 wr (Frm.refl _ _)).mono ?_
      rintro e w4 ⟨v, rfl, hown, -, hF4⟩
      obtain ⟨Al, cl, rfl, -, -⟩ := ints_len hown
      replace q0 := hF4.cell q0 id
      replace q1 := hF4.cell q1 id
      have H4 := Lib.hid hF4
      clear hown hF4
      cases hrd : readyNt nt with
      | nil =>
        have hL : (rdAll nt).length = 0 := by unfold rdAll; rw [hrd]; rfl
        have Hend := Lib.hid (fin_end hrd)
        clear hrd
        rw [hL]
        clear hL
        have hbr := HS.out.2.2.2.2.1.kept H4.out id
        have y3 : w4.cell? ⟨G + 1, 0, none⟩ = some (.slice none 0 0) := hbr.cell 0
        have y4 : w4.cell? ⟨G + 1, 1, none⟩ = some (.slice none 0 0) := hbr.cell 1
        have f3 := hbr.frozen 0
        have f4 := hbr.frozen 1
        clear hbr
        go_wp2_with fail
        obtain ⟨t1, t2, t3⟩ := (HS.out.1.kept H4.out).told (HS.out.2.2.2.2.1.kept H4.out id) hGl (by omega) (tr HS.out.2.2.2.1 H4.out)
        refine bodyPost_ret (rfin_res _ _ (G + 1) _ _ _ _ rfl rfl rfl t1) rfl ?_
        unfold finR
        rw [if_pos HR.out]
        refine ⟨_, by dsimp only; rw [HS.out.2.2.1, Hend.out]; rfl, ?_, t3⟩
        dsimp only
        rw [HS.out.2.1, Hend.out]
        exact t2
      | cons K Ks =>
        have hKm : K ∈ readyNt nt := by rw [hrd]; simp
        have hL : (rdAll nt).length = Ks.length + 1 := by unfold rdAll; rw [hrd]; simp
        have hL8 := rdAll_le nt
        have hcv : ((rdAll nt).map iv)[0]? = some (.int .i64 K) := by unfold rdAll; rw [hrd]; rfl
        have hstp := fun W (hW : Frm (fun _ => False) w4 W) => rstep_to _ nt K W hKm (HS.out.1.kept (tr H4.out hW)).nb.r HS.out.2.2.2.2.2.2.2
        have HP := Lib.hid (And.intro (fin_head hrd) (And.intro hstp (And.intro (step_left hKm) (And.intro (sm_step hKm) hcv))))
        rw [hL] at hL8 ⊢
        clear hstp hcv hrd hKm
        generalize hLL : Ks.length = L at *
        have hz : decide ((0 : Int) < ((L : Nat) : Int) + 1) = true := by simp <;> omega
        have hb4 := HS.out.1.kept H4.out
        have fz0 := hb4.b.frozen 0
        have fz1 := hb4.b.frozen 1
        have hrdy := fun W (hW : Frm (fun _ => False) w4 W) => HS.out.2.2.2.2.2.2.1 W (tr H4.out hW)
        have hend : ∀ (V' : Value) (w5 w6 : World), Frm (fun _ => False) w4 w5 → NV w6 (fun q => w5.heap.size ≤ q ∧ q < w6.heap.size) V' (stepC nt K) → Frm (fun _ => False) w5 w6 → ∃ A1x n1x c1x Ax nx cx, V' = .agg #[.slice A1x n1x c1x, .slice Ax nx cx] ∧
            Hid (NB2 ((w6.setCell ⟨g6, 0, none⟩ (.slice A1x n1x c1x)).setCell ⟨g6, 1, none⟩ (.slice Ax nx cx)) W0.heap.size g6 A1x n1x c1x Ax nx cx (stepC nt K) ∧ Frm (fun _ => False) w ((w6.setCell ⟨g6, 0, none⟩ (.slice A1x n1x c1x)).setCell ⟨g6, 1, none⟩ (.slice Ax nx cx)) ∧ Blk ((w6.setCell ⟨g6, 0, none⟩ (.slice A1x n1x c1x)).setCell ⟨g6, 1, none⟩ (.slice Ax nx cx)) (G + 1) 25 #[.slice none 0 0, .slice none 0 0]) := fun V' w5 w6 hF5 hV hF6 => by
          obtain ⟨A1x, n1x, c1x, Ax, nx, cx, rfl⟩ := hV.form
          have hg6 := H2.out.2.2.2
          have hs := H.out.2.1.size
          have hs5 := hF5.size
          have hl := hb4.b.lt
          have hF46 := tr hF5 hF6
          obtain ⟨h1, h2⟩ := NB2.put (B := W0.heap.size) hV (hb4.b.kept hF46 id) (by omega) (by omega)
          exact ⟨_, _, _, _, _, _, rfl, Lib.hid ⟨h1, (tr HS.out.2.2.2.1 (tr H4.out hF46)).trans h2 fun q hq => .inr (by omega), (HS.out.2.2.2.2.1.kept (tr H4.out hF46) id).kept h2 (by omega)⟩⟩
        have HEnd := Lib.hid (And.intro hend (And.intro hrdy hb4.b))
        clear hend hrdy hb4
        go_upto_region 6 with fail
        go_region_law (first
          | (refine step_call (by rfl) (HP.out.2.1 _ (by exact hR5)) _ _ (by rfl) (args2 (by rfl) (by rfl)) (Try.call11 _ _) ?_; rintro e w6 ⟨V', rfl, hV, hF6⟩; refine ⟨_, rfl, ?_⟩; obtain ⟨A1x, n1x, c1x, Ax, nx, cx, rfl, hE⟩ := HEnd.out.1 V' _ w6 hR5 hV hF6; have s0 : w6.cell? ⟨g6, 0, none⟩ = some (.slice A1' n1' c1') := hF6.cell q0' id; have s1 : w6.cell? ⟨g6, 1, none⟩ = some (.slice A' n' c') := hF6.cell q1' id; have hb6 := (HEnd.out.2.2.kept hR5 id).kept hF6 id; have s2 := hb6.frozen 0; have s3 := hb6.frozen 1; clear hb6 hV hF6)
          | (refine step_call (by rfl) (HEnd.out.2.1 _ (by exact (Frm.refl (fun _ => False) w4).drew)) _ _ (by rfl) (args1 (by rfl)) (Try.call21 _ _) ?_; rintro e w5 ⟨v5, rfl, ho5, -, hF5⟩; refine ⟨_, rfl, ?_⟩; obtain ⟨Al5, cl5, rfl, -, -⟩ := ints_len ho5; obtain ⟨gl, hgl, hc5⟩ := own_at ho5 0 (by rw [List.length_map, hL]; omega); subst hgl; rw [(List.getElem_eq_iff _).2 HP.out.2.2.2.2] at hc5; rw [hL]; have hR5 := tr (Frm.refl (fun _ => False) w4).drew hF5; have q0' := hR5.cell q0 id; have q1' := hR5.cell q1 id; clear ho5 hF5))
        all_goals
          generalize (w6.setCell ⟨g6, 0, none⟩ (.slice A1x n1x c1x)).setCell ⟨g6, 1, none⟩ (.slice Ax nx cx) = W7 at *
          have hmT : m + 1 ≤ T := by have := HS.out.2.2.2.2.2.1; have := HP.out.2.2.1; omega
          clear s0 s1 s2 s3 q0 q1 q0' q1' fz0 fz1 hc5 hz
          go_wp2_with fail
          go_roundw
          case rel =>
            obtain ⟨-, hr1, hr2, -, -, hmk, -⟩ := HS.out
            rw [HP.out.1] at hr1 hr2
            exact ⟨m + 1, hmT, by go_num, Lib.hid ⟨_, _, _, _, _, _, _, hE.out.1, HP.out.2.2.2.1, hr1, by rw [hr2]; dsimp only; omega, by have := HP.out.2.2.1; omega, hE.out.2.1, hE.out.2.2⟩⟩
          case measure => simp [intOf]; omega
end Go.Proofs.Ytnibllkcacalhaa
