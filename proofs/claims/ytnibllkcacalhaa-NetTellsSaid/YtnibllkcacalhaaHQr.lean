/- The walk of teaselref24.Run. -/
import Derived.Test.YtnibllkcacalhaaHRx
namespace Go.Proofs.Ytnibllkcacalhaa
set_option maxRecDepth 100000
open Go.RowKit
theorem pick_neg (r m : Int) (L : Nat) (e : (r + L).tmod L = m) (h2 : 0 ≤ r + L) (h3 : r + L < 2 * L) : (r < 0 → r + L = m) ∧ (0 ≤ r → r = m) := by
  rw [Int.tmod_eq_emod_of_nonneg h2] at e
  refine ⟨fun hr => ?_, fun hr => ?_⟩
  · rw [← e, Int.emod_eq_of_lt h2 (by omega)]
  · rw [← e, Int.add_emod_right, Int.emod_eq_of_lt hr (by omega)]
theorem sm_step {n : Nt} {k : Nat} (h : k ∈ readyNt n) : SmN (stepC n k) := by
  obtain ⟨c, j, x, hc, -, hr, -, -, -, -, -, hst⟩ := step_parts h
  obtain ⟨q1, q2, q3, q4⟩ := right_sm hr
  have hl := step_cs h
  refine ⟨by omega, by omega, fun p hp => ?_, fun d hd => ?_⟩
  · rw [hst] at hp
    replace hp : p ∈ pipesN x c n.ps := hp
    unfold pipesN at hp
    split at hp
    · have := q3 p hp; omega
    · obtain ⟨i, hi⟩ := List.mem_iff_getElem?.1 hp
      rw [List.getElem?_modify] at hi
      obtain ⟨p0, hp0, e⟩ := Option.map_eq_some_iff.1 hi
      have h0 := q3 p0 (List.mem_of_getElem? hp0)
      have h1 : (pipeN x c p0).ins.length ≤ p0.ins.length + 1 := by
        unfold pipeN putP getP
        split
        · split
          · omega
          · simp
        · split
          · simp; omega
          · split <;> simp
      subst e
      split
      · omega
      · omega
  · rw [hst] at hd
    rcases List.mem_or_eq_of_mem_set hd with hd | rfl
    · have := q4 d hd; omega
    · rw [choreN_row]; have := q4 c (List.mem_of_getElem? hc); omega
def RTo (M : Nt) (w : World) (e : Ending) (w' : World) : Prop := ∃ V, e = .returned (.tuple #[V, .bool true]) ∧ NV w' (fun q => w.heap.size ≤ q ∧ q < w'.heap.size) V M ∧ Frm (fun _ => False) w w'
theorem rstep_to (V : Value) (N : Nt) (K : Nat) (w : World) (hK : K ∈ readyNt N) (h : NR w V N) (hsm : SmN N) : Calls Try.prog 11 #[V, .int .i64 K] w (RTo (stepC N K) w) := by
  have := rstep_n V N K w h hsm
  unfold RStep at this
  rwa [rstep_yes hK] at this
def RRun (N : Nt) (m : Nat) (w : World) (e : Ending) (w' : World) : Prop := ∃ V, e = .returned (.tuple #[V, .int .i64 m]) ∧ NR w' V N ∧ Frm (fun _ => False) w w'
theorem rrun_res (tmps : Array Value) (w : World) (g : Nat) (vp vc : Value) (m : Nat) (hp : tmps.getD 4 undef = .pointer (some ⟨g, 0, none⟩)) (hq : tmps.getD 5 undef = .int .i64 m)
    (hg : w.heap[g]? = some (.cells #[vp, vc] 25 (0, 0))) : (results Try.f13 tmps).run Try.prog w = .ok (.tuple #[.agg #[vp, vc], .int .i64 m]) w := by
  have hp' : tmps[4]?.getD undef = .pointer (some ⟨g, 0, none⟩) := by simpa using hp
  have hq' : tmps[5]?.getD undef = .int .i64 m := by simpa using hq
  have c0 : w.cell? ⟨g, 0, none⟩ = some vp := cell_of_row w g 0 _ _ _ hg
  have c1 : w.cell? ⟨g, 1, none⟩ = some vc := cell_of_row w g 1 _ _ _ hg
  simp [results, Try.results13, go_sem, hp', hq', asAddr, c0, c1]
/-- A box of a net in memory from B on. -/
structure NB2 (w : World) (B g : Nat) (A1 : Option Addr) (n1 c1 : Nat) (A : Option Addr) (n c : Nat) (N : Nt) : Prop where
  b : Blk w g 25 #[.slice A1 n1 c1, .slice A n c]
  v : NV w (fun q => B ≤ q ∧ q < w.heap.size) (.agg #[.slice A1 n1 c1, .slice A n c]) N
theorem NB2.nb {w : World} {B g : Nat} {A1 A : Option Addr} {n1 c1 n c : Nat} {N : Nt} (h : NB2 w B g A1 n1 c1 A n c N) : NB w g A1 n1 c1 A n c N := ⟨h.b, NV.keptTo h.v fun _ hq => ⟨rfl, hq.2⟩⟩
theorem NB2.kept {w w' : World} {B g : Nat} {A1 A : Option Addr} {n1 c1 n c : Nat} {N : Nt} (h : NB2 w B g A1 n1 c1 A n c N) (hF : Frm (fun _ => False) w w') : NB2 w' B g A1 n1 c1 A n c N :=
  ⟨h.b.kept hF id, NV.keptTo h.v fun q hq => ⟨hF.block q hq.2 id, hq.1, Nat.lt_of_lt_of_le hq.2 hF.size⟩⟩
theorem NB2.new {w : World} {B : Nat} {A1 A : Option Addr} {n1 c1 n c : Nat} {N : Nt} (h : NV w (fun q => B ≤ q ∧ q < w.heap.size) (.agg #[.slice A1 n1 c1, .slice A n c]) N) : NB2 (w.alloc (.cells #[.slice A1 n1 c1, .slice A n c] 25)) B w.heap.size A1 n1 c1 A n c N :=
  ⟨Blk.new w _ _, NV.keptTo h fun q hq => ⟨((Frm.refl (fun _ => False) w).alloc _).block q hq.2 id, hq.1, Nat.lt_of_lt_of_le hq.2 ((Frm.refl (fun _ => False) w).alloc _).size⟩⟩
/-- The box of a net that is written over. -/
theorem NB2.put {w1 w2 : World} {B g : Nat} {x y : Value} {N : Nt} {A1 A : Option Addr} {n1 c1 n c : Nat} (hV : NV w2 (fun q => w1.heap.size ≤ q ∧ q < w2.heap.size) (.agg #[.slice A1 n1 c1, .slice A n c]) N) (hb : Blk w2 g 25 #[x, y]) (hg : g < w1.heap.size) (hB : B ≤ w1.heap.size) :
    NB2 ((w2.setCell ⟨g, 0, none⟩ (.slice A1 n1 c1)).setCell ⟨g, 1, none⟩ (.slice A n c)) B g A1 n1 c1 A n c N ∧ Frm (fun q => q = g) w2 ((w2.setCell ⟨g, 0, none⟩ (.slice A1 n1 c1)).setCell ⟨g, 1, none⟩ (.slice A n c)) := by
  have hF : Frm (fun q => q = g) w2 ((w2.setCell ⟨g, 0, none⟩ (.slice A1 n1 c1)).setCell ⟨g, 1, none⟩ (.slice A n c)) := ((Frm.refl (fun q => q = g) w2).setCell ⟨g, 0, none⟩ (.inl rfl) _).setCell ⟨g, 1, none⟩ (.inl rfl) _
  exact ⟨⟨(hb.set_ 0 _).set_ 1 _, NV.keptTo hV fun q hq => ⟨hF.block q hq.2 (by omega), by omega, Nat.lt_of_lt_of_le hq.2 hF.size⟩⟩, hF⟩
/-- It is told in the box G. -/
theorem NB2.told {w wr : World} {B g G : Nat} {x y : Value} {N : Nt} {A1 A : Option Addr} {n1 c1 n c : Nat} (h : NB2 wr B g A1 n1 c1 A n c N) (hb : Blk wr G 25 #[x, y]) (hG : G < B) (hw : w.heap.size ≤ G) (hF : Frm (fun _ => False) w wr) :
    Blk ((wr.setCell ⟨G, 0, none⟩ (.slice A1 n1 c1)).setCell ⟨G, 1, none⟩ (.slice A n c)) G 25 #[.slice A1 n1 c1, .slice A n c] ∧ NR ((wr.setCell ⟨G, 0, none⟩ (.slice A1 n1 c1)).setCell ⟨G, 1, none⟩ (.slice A n c)) (.agg #[.slice A1 n1 c1, .slice A n c]) N ∧ Frm (fun _ => False) w ((wr.setCell ⟨G, 0, none⟩ (.slice A1 n1 c1)).setCell ⟨G, 1, none⟩ (.slice A n c)) := by
  have hF9 : Frm (fun q => q = G) wr ((wr.setCell ⟨G, 0, none⟩ (.slice A1 n1 c1)).setCell ⟨G, 1, none⟩ (.slice A n c)) := ((Frm.refl (fun q => q = G) wr).setCell ⟨G, 0, none⟩ (.inl rfl) _).setCell ⟨G, 1, none⟩ (.inl rfl) _
  exact ⟨(hb.set_ 0 _).set_ 1 _, NV.keptTo h.v fun q hq => ⟨hF9.block q hq.2 (by omega), Nat.lt_of_lt_of_le hq.2 hF9.size⟩, hF.trans hF9 fun q hq => .inr (by omega)⟩
theorem ROwn.nv {w w' : World} {A1 A : Option Addr} {n1 c1 n c : Nat} {ps : List Pk} {cks : List Ck} {N : Nt} (h1 : PR w' w.heap.size (.slice A1 n1 c1) ps) (h2 : CR w' w.heap.size (.slice A n c) cks) (h3 : ps.map (·.p) = N.ps) (h4 : cks.map (·.c) = N.cs) : NV w' (fun q => w.heap.size ≤ q ∧ q < w'.heap.size) (.agg #[.slice A1 n1 c1, .slice A n c]) N :=
  ⟨_, _, _, _, _, _, rfl, ps, cks, h1.at, h2.cs, h3, h4⟩
set_option maxHeartbeats 6400000 in
theorem rrun_n (V : Value) (N : Nt) (vp : Value) (picks : List Int) (w : World) (h : NR w V N) (hsm : SmN N) (hp : Sl w (fun q => q < w.heap.size) vp (picks.map iv)) (hl : picks.length ≤ 1000000) : Calls Try.prog 13 #[V, vp] w (RRun (runNt N picks).1 (runNt N picks).2 w) := by
  have hown := fun (W : World) (hW : Frm (fun _ => False) w W) => rown_n V N W (h.kept hW) hsm
  obtain ⟨A1, n1, c1, A, n, c, rfl⟩ := h.form
  obtain ⟨Ap, np, cp, rfl, hnp, hcp, hcm, hx⟩ := hp
  rw [List.length_map] at hnp
  obtain ⟨W0, hW0⟩ : ∃ W, W = (w.alloc (.cells #[.slice A1 n1 c1, .slice A n c] 25)).alloc (.cells #[.slice none 0 0, .slice none 0 0] 25) := ⟨_, rfl⟩
  obtain ⟨G, hG⟩ : ∃ G, G = w.heap.size := ⟨_, rfl⟩
  have hF0 : Frm (fun _ => False) w W0 := by rw [hW0]; exact ((Frm.refl _ w).alloc _).alloc _
  have hb0 : Blk W0 G 25 #[.slice A1 n1 c1, .slice A n c] := by rw [hW0, hG]; exact (Blk.new w _ _).alloc _
  have hb1 : Blk W0 (G + 1) 25 #[.slice none 0 0, .slice none 0 0] := by
    rw [hW0, hG]
    have := Blk.new (w.alloc (.cells #[.slice A1 n1 c1, .slice A n c] 25)) 25 #[.slice none 0 0, .slice none 0 0]
    rwa [World.size_alloc] at this
  have x0 : W0.cell? ⟨G, 0, none⟩ = some (.slice A1 n1 c1) := hb0.cell 0
  have x1 : W0.cell? ⟨G, 1, none⟩ = some (.slice A n c) := hb0.cell 1
  have H := Lib.hid (And.intro hown (And.intro hF0 (And.intro hb1 (And.intro hG (And.intro hx (And.intro hnp hsm))))))
  have hnp6 : np ≤ 1000000 := by omega
  clear h hx hsm hown hF0 hb0 hb1 hl hcp hcm
  go_enter Try.func13, Try.ntmps13
  go_upto_region 1 with fail
  rw [← hG, ← hW0]
  clear hG hW0
  go_wp2_with fail
  refine (H.out.1 W0 H.out.2.1).mono ?_
  rintro e w1 ⟨A6, n6, c6, A7, n7, c7, ps6, cks6, rfl, hPR, hCR, hp6, hc6, hF1⟩
  go_upto_region 2 with fail
  obtain ⟨W2, hW2⟩ : ∃ W, W = w1.alloc (.cells #[.slice A6 n6 c6, .slice A7 n7 c7] 25) := ⟨_, rfl⟩
  obtain ⟨g6, hg6⟩ : ∃ g, g = w1.heap.size := ⟨_, rfl⟩
  have hNB : NB2 W2 W0.heap.size g6 A6 n6 c6 A7 n7 c7 N := by rw [hW2, hg6]; exact NB2.new (ROwn.nv hPR hCR hp6 hc6)
  have hF12 : Frm (fun _ => False) w1 W2 := by rw [hW2]; exact (Frm.refl _ w1).alloc _
  rw [← hW2, ← hg6]
  have hg6s : W0.heap.size ≤ g6 := by rw [hg6]; exact hF1.size
  have H2 := Lib.hid (And.intro hNB (And.intro (tr H.out.2.1 (tr hF1 hF12)) (And.intro (H.out.2.2.1.kept (tr hF1 hF12) id) hg6s)))
  clear hPR hCR hp6 hc6 hF1 hF12 hNB hg6s hW2 hg6 x0 x1
  go_wp2_with fail
  go_loopw [7, 8] (fun t i wr => ∃ k m : Nat, k ≤ np ∧ m ≤ k ∧ t = .int .i64 m ∧ i = .int .i64 k ∧ Hid (∃ nt A1' n1' c1' A' n' c', NB2 wr W0.heap.size g6 A1' n1' c1' A' n' c' nt ∧ SmN nt ∧ (runNt N picks).1 = (runNt nt (picks.drop k)).1 ∧ (runNt N picks).2 = m + (runNt nt (picks.drop k)).2 ∧ Frm (fun _ => False) w wr ∧ Blk wr (G + 1) 25 #[.slice none 0 0, .slice none 0 0])) (fun _ i _ => np - (intOf i).toNat)
  case atStart => exact ⟨0, 0, Nat.zero_le _, Nat.le_refl _, rfl, rfl, Lib.hid ⟨N, _, _, _, _, _, _, H2.out.1, H.out.2.2.2.2.2.2, by simp, by simp, H2.out.2.1, H2.out.2.2.1⟩⟩
  case round =>
    obtain ⟨k, m, hk, hmk, rfl, rfl, hT⟩ := hrel
    by_cases hlt : k < np
    · obtain ⟨nt, A1', n1', c1', A', n', c', hNB, hsm, hr1, hr2, hF, hbr⟩ := hT.out
      obtain ⟨-, -, -, -, hx, hnp, -⟩ := H.out
      obtain ⟨g, o, rfl, hg, hxc⟩ := hx.resolve_left (by omega)
      have hkx : k < picks.length := by omega
      have d0 : wr.cell? ⟨g, o + k, none⟩ = some (.int .i64 picks[k]) := hF.cell ((hxc k (by rw [List.length_map]; exact hkx)).trans (by simp [iv])) id
      have hdr : picks.drop k = picks[k] :: picks.drop (k + 1) := List.drop_eq_getElem_cons hkx
      have hrd := rready_n _ nt wr hNB.nb.r hsm
      have q0 := hNB.nb.c0
      have q1 := hNB.nb.c1
      have HS := Lib.hid (And.intro hNB (And.intro hr1 (And.intro hr2 (And.intro hF (And.intro hbr (And.intro hdr (And.intro hrd hsm)))))))
      clear hNB hr1 hr2 hF hbr hx hnp hg hxc hdr hrd hsm hT
      generalize hpk : picks[k] = pk at *
      clear hpk hkx
      go_wp2_with fail
      refine HS.out.2.2.2.2.2.2.1.mono ?_
      rintro e w3 ⟨v, rfl, hown, -, hF3⟩
      obtain ⟨Al, cl, rfl, -, -⟩ := ints_len hown
      have H3 := Lib.hid (And.intro hown hF3)
      replace d0 := hF3.cell d0 id
      replace q0 := hF3.cell q0 id
      replace q1 := hF3.cell q1 id
      clear hown hF3
      by_cases hrd : readyNt nt = []
      · have hL : (rdAll nt).length = 0 := by unfold rdAll; rw [hrd]; rfl
        have e1 := runNt_end (picks.drop k) hrd
        have e2 := runNt_end (picks.drop (k + 1)) hrd
        have Hend := Lib.hid (And.intro e1 e2)
        clear e1 e2 hrd d0
        rw [hL]
        clear hL
        go_wp2_with fail
        go_roundw
        case rel => exact ⟨k + 1, m, by omega, by omega, rfl, by go_num, Lib.hid ⟨nt, _, _, _, _, _, _, HS.out.1.kept H3.out.2, HS.out.2.2.2.2.2.2.2, by rw [HS.out.2.1, Hend.out.1, Hend.out.2], by rw [HS.out.2.2.1, Hend.out.1, Hend.out.2], tr HS.out.2.2.2.1 H3.out.2, HS.out.2.2.2.2.1.kept H3.out.2 id⟩⟩
        case measure => simp [intOf]; omega
      · have hL : (rdAll nt).length = (readyNt nt).length := by unfold rdAll; simp
        have hLp : 0 < (readyNt nt).length := List.length_pos_iff.2 hrd
        have hL8 := rdAll_le nt
        obtain ⟨i1, i2, i3⟩ := pick_at pk hrd
        obtain ⟨j1, j2, j3⟩ := pick_num pk (readyNt nt).length hLp
        obtain ⟨jn, jp⟩ := pick_neg _ _ _ j1 j2 j3
        have hrs := runNt_step (p := pk) (ps := picks.drop (k + 1)) hrd
        obtain ⟨gl, hgl, hcl⟩ := own_at H3.out.1 (pk % ((readyNt nt).length : Int)).toNat (by rw [List.length_map, hL]; exact i1)
        subst hgl
        have hcv : ((rdAll nt).map iv)[(pk % ((readyNt nt).length : Int)).toNat]? = some (.int .i64 (pickAt (readyNt nt) pk)) := by
          unfold rdAll
          rw [List.getElem?_map, List.getElem?_map, i2]
          rfl
        rw [(List.getElem_eq_iff _).2 hcv] at hcl
        have hnn := Int.emod_nonneg pk (show ((readyNt nt).length : Int) ≠ 0 by omega)
        have hll := Int.emod_lt_of_pos pk (show (0 : Int) < ((readyNt nt).length : Int) by omega)
        have hNB3 := HS.out.1.kept H3.out.2
        have hstp := fun W (hW : Frm (fun _ => False) w3 W) => rstep_to _ nt (pickAt (readyNt nt) pk) W i3 (hNB3.kept hW).nb.r HS.out.2.2.2.2.2.2.2
        rw [hL] at H3 hL8 ⊢
        have HP := Lib.hid (And.intro hrs (And.intro hstp (And.intro (sm_step i3) hNB3)))
        clear hrs hstp hcv i1 i2 i3 hrd hL hNB3
        generalize pickAt (readyNt nt) pk = K at *
        generalize (readyNt nt).length = L at *
        generalize pk % (L : Int) = pm at *
        have hcl' : w3.cell? ⟨gl, pm.toNat, none⟩ = some (.int .i64 K) := hcl
        have hb3 := HP.out.2.2.2
        have fz0 := hb3.b.frozen 0
        have fz1 := hb3.b.frozen 1
        have hLz : ((L : Nat) : Int) ≠ 0 := by omega
        clear hcl j1 j2 j3 hb3
        have hend : ∀ (V' : Value) (w4 : World), NV w4 (fun q => w3.heap.size ≤ q ∧ q < w4.heap.size) V' (stepC nt K) → Frm (fun _ => False) w3 w4 → ∃ A1x n1x c1x Ax nx cx, V' = .agg #[.slice A1x n1x c1x, .slice Ax nx cx] ∧
            Hid (NB2 ((w4.setCell ⟨g6, 0, none⟩ (.slice A1x n1x c1x)).setCell ⟨g6, 1, none⟩ (.slice Ax nx cx)) W0.heap.size g6 A1x n1x c1x Ax nx cx (stepC nt K) ∧ Frm (fun _ => False) w ((w4.setCell ⟨g6, 0, none⟩ (.slice A1x n1x c1x)).setCell ⟨g6, 1, none⟩ (.slice Ax nx cx)) ∧ Blk ((w4.setCell ⟨g6, 0, none⟩ (.slice A1x n1x c1x)).setCell ⟨g6, 1, none⟩ (.slice Ax nx cx)) (G + 1) 25 #[.slice none 0 0, .slice none 0 0]) := fun V' w4 hV hF4 => by
          obtain ⟨A1x, n1x, c1x, Ax, nx, cx, rfl⟩ := hV.form
          obtain ⟨h1, h2⟩ := NB2.put (B := W0.heap.size) hV (HP.out.2.2.2.b.kept hF4 id) HP.out.2.2.2.b.lt (by have h1 := H2.out.2.2.2; have h2 := HP.out.2.2.2.b.lt; omega)
          have hg6 := H2.out.2.2.2
          have hGl := H.out.2.2.1.lt
          have hs := H.out.2.1.size
          exact ⟨_, _, _, _, _, _, rfl, Lib.hid ⟨h1, (tr HS.out.2.2.2.1 (tr H3.out.2 hF4)).trans h2 fun q hq => .inr (by omega), (HS.out.2.2.2.2.1.kept (tr H3.out.2 hF4) id).kept h2 (by omega)⟩⟩
        have HEnd := Lib.hid hend
        clear hend
        by_cases hneg : pk.tmod (L : Int) < 0
        · have e1 := jn hneg
          have e0 : decide (pk.tmod (L : Int) < 0) = true := by simpa using hneg
          have e2 : IntKind.i64.wrap (pk.tmod (L : Int) + (L : Int)) = pm := by rw [e1]; exact IntWalk.i64_in _ (by omega)
          clear jn jp e1 hneg
          go_upto_region 11 with fail
          go_region_law (refine step_call (by rfl) (HP.out.2.1 _ (by exact (Frm.refl (fun _ => False) w3).drew)) _ _ (by rfl) (args2 (by rfl) (by rfl)) (Try.call11 _ _) ?_; rintro e w4 ⟨V', rfl, hV, hF4⟩; refine ⟨_, rfl, ?_⟩; obtain ⟨A1x, n1x, c1x, Ax, nx, cx, rfl, hE⟩ := HEnd.out V' w4 hV (tr (Frm.refl (fun _ => False) w3).drew hF4); have s0 : w4.cell? ⟨g6, 0, none⟩ = some (.slice A1' n1' c1') := hF4.cell (w := w3.drew) q0 id; have s1 : w4.cell? ⟨g6, 1, none⟩ = some (.slice A' n' c') := hF4.cell (w := w3.drew) q1 id; have hb4 := HP.out.2.2.2.b.drew.kept hF4 id; have s2 := hb4.frozen 0; have s3 := hb4.frozen 1; clear hb4 hV hF4)
          all_goals
            generalize (w4.setCell ⟨g6, 0, none⟩ (.slice A1x n1x c1x)).setCell ⟨g6, 1, none⟩ (.slice Ax nx cx) = W5 at *
            clear s0 s1 s2 s3 q0 q1 hcl' d0 fz0 fz1
            go_wp2_with fail
            go_roundw
            case rel => exact ⟨k + 1, m + 1, by omega, by omega, by go_num, by go_num, Lib.hid ⟨_, _, _, _, _, _, _, hE.out.1, HP.out.2.2.1, by rw [HS.out.2.1, HS.out.2.2.2.2.2.1, HP.out.1], by rw [HS.out.2.2.1, HS.out.2.2.2.2.2.1, HP.out.1]; dsimp only; omega, hE.out.2.1, hE.out.2.2⟩⟩
            case measure => simp [intOf]; omega
        · have e1 := jp (by omega)
          have e0 : decide (pk.tmod (L : Int) < 0) = false := by simpa using hneg
          rw [e1] at e0
          clear jn jp hneg
          go_upto_region 11 with fail
          go_region_law (refine step_call (by rfl) (HP.out.2.1 _ (by exact (Frm.refl (fun _ => False) w3).drew)) _ _ (by rfl) (args2 (by rfl) (by rfl)) (Try.call11 _ _) ?_; rintro e w4 ⟨V', rfl, hV, hF4⟩; refine ⟨_, rfl, ?_⟩; obtain ⟨A1x, n1x, c1x, Ax, nx, cx, rfl, hE⟩ := HEnd.out V' w4 hV (tr (Frm.refl (fun _ => False) w3).drew hF4); have s0 : w4.cell? ⟨g6, 0, none⟩ = some (.slice A1' n1' c1') := hF4.cell (w := w3.drew) q0 id; have s1 : w4.cell? ⟨g6, 1, none⟩ = some (.slice A' n' c') := hF4.cell (w := w3.drew) q1 id; have hb4 := HP.out.2.2.2.b.drew.kept hF4 id; have s2 := hb4.frozen 0; have s3 := hb4.frozen 1; clear hb4 hV hF4)
          all_goals
            generalize (w4.setCell ⟨g6, 0, none⟩ (.slice A1x n1x c1x)).setCell ⟨g6, 1, none⟩ (.slice Ax nx cx) = W5 at *
            clear s0 s1 s2 s3 q0 q1 hcl' d0 fz0 fz1
            go_wp2_with fail
            go_roundw
            case rel => exact ⟨k + 1, m + 1, by omega, by omega, by go_num, by go_num, Lib.hid ⟨_, _, _, _, _, _, _, hE.out.1, HP.out.2.2.1, by rw [HS.out.2.1, HS.out.2.2.2.2.2.1, HP.out.1], by rw [HS.out.2.2.1, HS.out.2.2.2.2.2.1, HP.out.1]; dsimp only; omega, hE.out.2.1, hE.out.2.2⟩⟩
            case measure => simp [intOf]; omega
    · obtain rfl : k = np := by omega
      obtain ⟨nt, A1', n1', c1', A', n', c', hNB, hsm, hr1, hr2, hF, hbr⟩ := hT.out
      rw [List.drop_eq_nil_of_le (by have := H.out.2.2.2.2.2.1; omega)] at hr1 hr2
      have q0 := hNB.nb.c0
      have q1 := hNB.nb.c1
      have y3 : wr.cell? ⟨G + 1, 0, none⟩ = some (.slice none 0 0) := hbr.cell 0
      have y4 : wr.cell? ⟨G + 1, 1, none⟩ = some (.slice none 0 0) := hbr.cell 1
      have f3 := hbr.frozen 0
      have f4 := hbr.frozen 1
      have HE := Lib.hid (And.intro hr1 (And.intro hr2 (And.intro hNB (And.intro hF hbr))))
      clear hNB hsm hr1 hr2 hF hbr hT
      go_wp2_with fail
      obtain ⟨hr1, hr2, hNB, hF, hbr⟩ := HE.out
      obtain ⟨t1, t2, t3⟩ := hNB.told hbr H.out.2.2.1.lt (by have := H.out.2.2.2.1; omega) hF
      refine bodyPost_ret (rrun_res _ _ (G + 1) _ _ m rfl rfl t1) rfl ?_
      exact ⟨_, by rw [hr2]; rfl, by rw [hr1]; exact t2, t3⟩
end Go.Proofs.Ytnibllkcacalhaa
