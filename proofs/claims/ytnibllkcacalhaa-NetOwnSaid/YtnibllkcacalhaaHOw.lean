/- The walk of net.own. -/
import Derived.Test.YtnibllkcacalhaaGE
namespace Go.Proofs.Ytnibllkcacalhaa
set_option maxRecDepth 100000
open Go.RowKit
theorem kp_cons {w w' : World} {B b : Nat} {v v' : Value} {zs : List Pk} {x : Pk} (h : ∀ z ∈ zs, Sl w (KP w B b v) z.v (uv z.p.ins)) (hk : ∀ q, KP w B b v q → w'.heap[q]? = w.heap[q]? ∧ KP w' B b v' q) (hx : Sl w' (KP w' B b v') x.v (uv x.p.ins)) :
    ∀ z ∈ zs ++ [x], Sl w' (KP w' B b v') z.v (uv z.p.ins) := by
  intro z hz
  rcases List.mem_append.1 hz with h1 | h1
  · exact (h z h1).keptTo hk
  · simp at h1; subst h1; exact hx
/-- The pipes so far. -/
def O1 (w wr : World) (B b : Nat) (k : Nat) (ps : List Pk) (Av : Option Addr) (cv : Nat) (zs : List Pk) : Prop :=
  Blk wr b 66 #[.slice Av k cv, .slice none 0 0] ∧ wr.ownsRow B 52 3 (.slice Av k cv) k (zs.flatMap pCells) ∧ (∀ z ∈ zs, Sl wr (KP wr B b (.slice Av k cv)) z.v (uv z.p.ins)) ∧ zs.map (·.p) = (ps.map (·.p)).take k ∧ Frm (fun _ => False) w wr
theorem frm_step {wr W7 X W8 : World} {B : Nat} {v v8 : Value} {T : TypeId} {sz n n8 : Nat} {xs xs8 : List Value} {cs : Array Value} {i : Nat} (hw : Blk wr (B + 1) 66 cs) (hT : T ≠ 66) (ho : wr.ownsRow B T sz v n xs) (hF : Frm (fun _ => False) wr W7) (hX : Frm (fun _ => False) W7 X) (hg : X.grownBy W8 v.ownBlock) (ho8 : W8.ownsRow B T sz v8 n8 xs8) :
    Frm (fun q => q = B + 1 ∨ v.ownBlock = some q) wr (W8.setCell ⟨B + 1, i, none⟩ v8) ∧ Blk (W8.setCell ⟨B + 1, i, none⟩ v8) (B + 1) 66 (cs.setIfInBounds i v8) ∧ (W8.setCell ⟨B + 1, i, none⟩ v8).ownsRow B T sz v8 n8 xs8 := by
  have hFX := hF.trans hX fun _ h => h.elim
  have hF8 : Frm (fun q => v.ownBlock = some q) wr W8 := (hFX.mono fun q hq => hq.elim).grown hg fun q hq => .inl hq
  have hb8 := hw.kept hF8 (own_blk_ne ho hw hT)
  have hFs : Frm (fun q => q = B + 1) W8 (W8.setCell ⟨B + 1, i, none⟩ v8) := (Frm.refl (fun q => q = B + 1) W8).setCell ⟨B + 1, i, none⟩ (.inl rfl) _
  exact ⟨(hF8.mono (K' := fun q => q = B + 1 ∨ v.ownBlock = some q) fun q hq => .inl (.inr hq)).trans hFs fun q hq => .inl (.inl hq), hb8.set_ i _, hFs.own ho8 fun q hq hk => own_blk_ne ho8 hb8 hT (by rw [hq, hk])⟩
/-- What was cloned lies apart. -/
theorem Sl.ofZ {w : World} {K : Nat → Prop} {v : Value} {xs : List Value} (h : SlZ w K 1 v xs) : Sl w K v xs := by
  obtain ⟨A, n, c, rfl, hn, hr⟩ := h
  exact ⟨A, n, c, rfl, by omega, hr⟩
theorem KP.new {wr W7 W : World} {B base n sz : Nat} {v v' u : Value} {e : TypeId} {xs : List Value} {cs : Array Value} (ho : W7.ownsRow base e sz u n xs) (hw : Blk W7 (B + 1) 66 cs) (he : e ≠ 66) (hb : wr.heap.size ≤ base) (hB : B ≤ wr.heap.size) (hv : ∀ q, v.ownBlock = some q → q < wr.heap.size)
    (hF : Frm (fun q => q = B + 1 ∨ v.ownBlock = some q) W7 W) (hat : v'.ownBlock = v.ownBlock ∨ ∃ g, v'.ownBlock = some g ∧ W7.heap.size ≤ g) : SlZ W (KP W B (B + 1) v') sz u xs := by
  refine (SlZ.of_own (K := fun q => base ≤ q ∧ q < W7.heap.size ∧ q ≠ B + 1 ∧ UF W7 q) ho fun g hg => ⟨(World.ownsRow.lt ho g hg).1, (World.ownsRow.lt ho g hg).2, fun e' => own_blk_ne ho hw he (by rw [hg, e']), (UF.own ho g hg).2.2⟩).keptTo fun q ⟨h1, h2, h3, h4⟩ => ?_
  have hb := hF.block q h2 (by rintro (e' | e'); exact h3 e'; have := hv q e'; omega)
  refine ⟨hb, by omega, Nat.lt_of_lt_of_le h2 hF.size, h3, ?_, h4.of hb⟩
  rcases hat with e' | ⟨g, e', hg⟩
  · rw [e']; intro e2; have := hv q e2; omega
  · rw [e']; intro e2; injection e2 with e2; omega
theorem at_new {v v8 : Value} {W7 X : World} (hX : Frm (fun _ => False) W7 X) (hat : v8.ownBlock = v.ownBlock ∨ v8.ownBlock = some X.heap.size) : v8.ownBlock = v.ownBlock ∨ ∃ g, v8.ownBlock = some g ∧ W7.heap.size ≤ g :=
  hat.imp id fun h => ⟨_, h, hX.size⟩
theorem frm_7 {W7 X W8 : World} {B : Nat} {v v8 : Value} {i : Nat} (hX : Frm (fun _ => False) W7 X) (hg : X.grownBy W8 v.ownBlock) : Frm (fun q => q = B + 1 ∨ v.ownBlock = some q) W7 (W8.setCell ⟨B + 1, i, none⟩ v8) :=
  ((hX.mono (K' := fun q => q = B + 1 ∨ v.ownBlock = some q) fun q hq => hq.elim).grown hg fun q hq => .inl (.inr hq)).setCell _ (.inl (.inl rfl)) _
theorem O1.next {w wr W7 X W8 : World} {B k : Nat} {ps : List Pk} {Av A6 A8 : Option Addr} {cv c6 c8 N8 base L : Nat} {zs : List Pk} {r : Int} {l : List Int} {bb : Bool} (h : O1 w wr B (B + 1) k ps Av cv zs) (hF : Frm (fun _ => False) wr W7) (ho : W7.ownsRow base 44 1 (.slice A6 L c6) L (uv l)) (hb : wr.heap.size ≤ base)
    (hX : Frm (fun _ => False) W7 X) (hBw : B ≤ wr.heap.size) (hwB : w.heap.size ≤ B) (hN : N8 = k + 1) (hown : W8.ownsRow B 52 3 (.slice A8 N8 c8) N8 (zs.flatMap pCells ++ [.int .i64 r, .slice A6 L c6, .bool bb])) (hg : X.grownBy W8 (Value.slice Av k cv).ownBlock)
    (hat : (Value.slice A8 N8 c8).ownBlock = (Value.slice Av k cv).ownBlock ∨ (Value.slice A8 N8 c8).ownBlock = some X.heap.size)
    (hts : (ps.map (·.p)).take (k + 1) = (ps.map (·.p)).take k ++ [⟨r, l, bb⟩]) :
    O1 w (W8.setCell ⟨B + 1, 0, none⟩ (.slice A8 N8 c8)) B (B + 1) (k + 1) ps A8 c8 (zs ++ [⟨.slice A6 L c6, ⟨r, l, bb⟩⟩]) ∧ Frm (fun q => q = B + 1 ∨ (Value.slice Av k cv).ownBlock = some q) wr (W8.setCell ⟨B + 1, 0, none⟩ (.slice A8 N8 c8)) := by
  subst hN
  obtain ⟨h1, h2, h3, h4, h5⟩ := h
  obtain ⟨f1, f2, f3⟩ := frm_step (i := 0) h1 (by decide) h2 hF hX hg hown
  have hk := fun q => KP.kept (B := B) (b := B + 1) (v := .slice Av k cv) (v' := .slice A8 (k + 1) c8) f1 (hat.imp id fun e => ⟨_, e, Nat.le_trans hF.size hX.size⟩) q
  refine ⟨⟨f2, by simpa [pCells] using f3, kp_cons h3 hk (Sl.ofZ (KP.new ho (h1.kept hF id) (by decide) hb hBw (fun q hq => (World.ownsRow.lt h2 q hq).2) (frm_7 hX hg) (at_new hX hat))), by rw [List.map_append, h4, hts]; rfl, h5.trans f1 fun q hq => .inr ?_⟩, f1⟩
  rcases hq with rfl | hq
  · omega
  · have := (World.ownsRow.lt h2 q hq).1; omega
theorem WA.next {w wr W7 X W8 : World} {B k : Nat} {vp : Value} {ps : List Pk} {Av A6 A8 : Option Addr} {cv c6 c8 N8 base L : Nat} {ys : List Ck} {c : Ch} (h : WA wr B (B + 1) vp (.slice Av k cv) ps ys) (hF : Frm (fun _ => False) wr W7) (ho : W7.ownsRow base 49 3 (.slice A6 L c6) L (c.row.flatMap eCells)) (hb : wr.heap.size ≤ base)
    (hX : Frm (fun _ => False) W7 X) (hBw : B ≤ wr.heap.size) (hwB : w.heap.size ≤ B) (hk : ys.length = k) (hN : N8 = k + 1) (hown : W8.ownsRow B 46 4 (.slice A8 N8 c8) N8 (ys.flatMap cCells ++ [.slice A6 L c6, .int .i64 c.at_, .int .u32 c.sum, .int .i64 c.wrong])) (hg : X.grownBy W8 (Value.slice Av k cv).ownBlock)
    (hat : (Value.slice A8 N8 c8).ownBlock = (Value.slice Av k cv).ownBlock ∨ (Value.slice A8 N8 c8).ownBlock = some X.heap.size) (hFw : Frm (fun _ => False) w wr) :
    WA (W8.setCell ⟨B + 1, 1, none⟩ (.slice A8 N8 c8)) B (B + 1) vp (.slice A8 N8 c8) ps (ys ++ [⟨.slice A6 L c6, c⟩]) ∧ Frm (fun _ => False) w (W8.setCell ⟨B + 1, 1, none⟩ (.slice A8 N8 c8)) ∧ Frm (fun q => q = B + 1 ∨ (Value.slice Av k cv).ownBlock = some q) wr (W8.setCell ⟨B + 1, 1, none⟩ (.slice A8 N8 c8)) := by
  subst hN
  obtain ⟨h1, h2, h3, h4, h5⟩ := h
  rw [hk] at h3
  obtain ⟨f1, f2, f3⟩ := frm_step (i := 1) h1 (by decide) h3 hF hX hg hown
  have hk := fun q => KP.kept (B := B) (b := B + 1) (v := .slice Av k cv) (v' := .slice A8 (k + 1) c8) f1 (hat.imp id fun e => ⟨_, e, Nat.le_trans hF.size hX.size⟩) q
  refine ⟨⟨f2, h2, by rw [List.length_append, List.flatMap_append]; subst_vars; simpa [cCells] using f3, h4.keptTo hk, fun z hz => ?_⟩, hFw.trans f1 fun q hq => .inr ?_, f1⟩
  · rcases List.mem_append.1 hz with hz | hz
    · exact (h5 z hz).keptTo hk
    · simp at hz; subst hz
      exact KP.new ho (h1.kept hF id) (by decide) hb hBw (fun q hq => (World.ownsRow.lt h3 q hq).2) (frm_7 hX hg) (at_new hX hat)
  · rcases hq with rfl | hq
    · omega
    · have := (World.ownsRow.lt h3 q hq).1; omega
theorem O1.wa {w wr : World} {B k : Nat} {ps zs : List Pk} {Av : Option Addr} {cv : Nat} (h : O1 w wr B (B + 1) k ps Av cv zs) : WA wr B (B + 1) (.slice Av k cv) (.slice none 0 0) zs [] := by
  obtain ⟨h1, h2, h3, h4, h5⟩ := h
  refine ⟨h1, by omega, World.ownsRow_nil _ _ _ _, ⟨SlZ.of_own h2 fun g hg => ⟨(World.ownsRow.lt h2 g hg).1, (World.ownsRow.lt h2 g hg).2, fun e => own_blk_ne h2 h1 (by decide) (by rw [hg, e]), (by intro e; cases e), (UF.own h2 g hg).2.2⟩, fun z hz => (h3 z hz).keptTo fun q hq => ⟨rfl, hq.1, hq.2.1, hq.2.2.1, (by intro e; cases e), hq.2.2.2.2⟩⟩, by simp⟩
def OwnPost (B : Nat) (n : Nt) (w : World) (e : Ending) (w' : World) : Prop := ∃ b, e = .returned (.pointer (some ⟨b, 0, none⟩)) ∧ WAt w' B b n ∧ Frm (fun _ => False) w w'
set_option maxHeartbeats 3200000 in
theorem own_n (V : Value) (N : Nt) (w : World) (h : NR w V N) (hsm : SmN N) : Calls Try.prog 35 #[V] w (OwnPost w.heap.size N w) := by
  obtain ⟨A1, n1, c1, A, n, c, rfl, ps, cks, hps, hcs, hp, hc⟩ := h
  obtain ⟨N1, N2⟩ := N
  dsimp only at hp hc
  subst hp hc
  obtain ⟨e1, -, -, q1⟩ := hps.cells
  obtain ⟨e2, -, -, q2⟩ := hcs.cells
  obtain ⟨s1, s2, s3, s4⟩ := hsm
  simp only [List.length_map] at s1 s2
  obtain ⟨B, hB⟩ : ∃ B, B = w.heap.size := ⟨_, rfl⟩
  have H := Lib.hid (And.intro e1 (And.intro q1 (And.intro hps.2 (And.intro e2 (And.intro q2 (And.intro hcs.2 (And.intro s3 (And.intro s4 hB))))))))
  have l1 : n1 ≤ 1000 := by omega
  have l2 : n ≤ 1000 := by omega
  rw [← hB]
  obtain ⟨W0, hW0⟩ : ∃ W, W = (w.alloc (.cells #[.slice A1 n1 c1, .slice A n c] 25)).alloc (.cells #[.slice none 0 0, .slice none 0 0] 66) := ⟨_, rfl⟩
  have hF0 : Frm (fun _ => False) w W0 := by rw [hW0]; exact ((Frm.refl _ w).alloc _).alloc _
  have hb0 : Blk W0 B 25 #[.slice A1 n1 c1, .slice A n c] := by rw [hW0, hB]; exact (Blk.new w _ _).alloc _
  have hb1 : Blk W0 (B + 1) 66 #[.slice none 0 0, .slice none 0 0] := by
    rw [hW0, hB]
    have := Blk.new (w.alloc (.cells #[.slice A1 n1 c1, .slice A n c] 25)) 66 #[.slice none 0 0, .slice none 0 0]
    rwa [World.size_alloc] at this
  have H0 := Lib.hid (And.intro hF0 (And.intro hb0 hb1))
  have c0 : W0.cell? ⟨B, 0, none⟩ = some (.slice A1 n1 c1) := hb0.cell 0
  have HE : Hid (O1 w W0 B (B + 1) 0 ps none 0 []) := Lib.hid ⟨hb1, World.ownsRow_nil _ _ _ _, by simp, by simp, hF0⟩
  clear hps hcs e1 q1 e2 q2 s1 s2 s3 s4 hF0 hb0 hb1
  go_enter Try.func35, Try.ntmps35
  go_upto_region 2 with fail
  rw [← hB, ← hW0]
  clear hB hW0
  go_wp2_with fail
  go_loopw [13] (fun i wr => ∃ k : Nat, k ≤ n1 ∧ i = .int .i64 k ∧ Hid (∃ Av cv zs, O1 w wr B (B + 1) k ps Av cv zs ∧ Blk wr B 25 #[.slice A1 n1 c1, .slice A n c] ∧ B + 2 ≤ wr.heap.size)) (fun i _ => n1 - (intOf i).toNat)
  case atStart => exact ⟨0, Nat.zero_le _, rfl, Lib.hid ⟨_, _, _, HE.out, H0.out.2.1, H0.out.2.2.lt⟩⟩
  case round =>
    obtain ⟨k, hk, rfl, hT⟩ := hrel
    by_cases hlt : k < n1
    · obtain ⟨Av, cv, zs, hO, hFB⟩ := hT.out
      obtain ⟨hps, hcs, hsl, -, -, -, hin, -, hBw⟩ := H.out
      have hkx : k < ps.length := by omega
      obtain ⟨g, o, rfl, hg, d0, d1, d2⟩ := hcs k hkx
      have sa := hsl ps[k] (List.getElem_mem hkx)
      have hl := hin ps[k].p (List.mem_map_of_mem (List.getElem_mem hkx))
      have hts : (ps.map (·.p)).take (k + 1) = (ps.map (·.p)).take k ++ [ps[k].p] := by rw [List.take_succ_eq_append_getElem (by simpa using hkx)]; simp
      obtain ⟨x, hxk⟩ : ∃ x, x = ps[k] := ⟨_, rfl⟩
      rw [← hxk] at d0 d1 d2 sa hl hts
      obtain ⟨vx, r, l, bb⟩ := x
      obtain ⟨A5, n5, c5, e5, hn5, -⟩ := id sa
      dsimp only at *
      subst e5
      have hF := hO.2.2.2.2
      replace d0 := hF.cell d0 id
      replace d1 := hF.cell d1 id
      replace d2 := hF.cell d2 id
      have HS := Lib.hid (And.intro sa (And.intro hl (And.intro hts (And.intro hO (And.intro hFB hF)))))
      have hk0 : (0 : Int) ≤ (k : Int) := by omega
      clear hps hcs hsl hin hkx hg sa hl hts hxk hn5 hO hFB hF hT hBw
      go_upto_region 5 with fail
      obtain ⟨W5, hW5⟩ : ∃ W, W = wr.alloc (.cells #[.int .i64 r, .slice A5 n5 c5, .bool bb] 52) := ⟨_, rfl⟩
      rw [← hW5]
      have hF5 : Frm (fun _ => False) wr W5 := by rw [hW5]; exact (Frm.refl _ wr).alloc _
      have hb5 : Blk W5 wr.heap.size 52 #[.int .i64 r, .slice A5 n5 c5, .bool bb] := by rw [hW5]; exact Blk.new wr _ _
      clear hW5 d0 d1 d2
      obtain ⟨gp, hgp⟩ : ∃ g, g = wr.heap.size := ⟨_, rfl⟩
      rw [← hgp] at hb5 ⊢
      have p1 : W5.cell? ⟨gp, 1, none⟩ = some (.slice A5 n5 c5) := hb5.cell 1
      have H5 := Lib.hid (And.intro hF5 (And.intro hb5 hgp))
      clear hF5 hb5 hgp
      have hcl := clone_u (fun q => q < w.heap.size) (.slice A5 n5 c5) (uv l) l.length W5 ((HS.out.1.keptTo fun q hq => ⟨(HS.out.2.2.2.2.2.trans H5.out.1 fun _ h => h.elim).block q hq id, hq⟩).toZ) (by rw [uv_length]; omega) (fun q hq => Nat.lt_of_lt_of_le hq (HS.out.2.2.2.2.2.trans H5.out.1 fun _ h => h.elim).size) (uv_one l) HS.out.2.1
      have HC := Lib.hid hcl
      clear hcl
      go_wp2_with fail
      refine HC.out.mono ?_
      rintro e W6 ⟨v6, rfl, ho6, hF6⟩
      obtain ⟨A6, c6, rfl, -, -⟩ := own_form ho6
      have hb6 := H5.out.2.1.kept hF6 id
      have b1 : W6.cell? ⟨gp, 1, none⟩ = some (.slice A5 n5 c5) := hb6.cell 1
      have f1 := hb6.frozen 1
      have H6 := Lib.hid (And.intro ho6 (And.intro hF6 hb6))
      clear ho6 hF6 hb6 HC p1
      go_upto_region 6 with fail
      have hFs : Frm (fun q => q = gp) W6 (W6.setCell ⟨gp, 1, none⟩ (.slice A6 l.length c6)) := (Frm.refl (fun q => q = gp) W6).setCell ⟨gp, 1, none⟩ (.inl rfl) _
      have hb7 : Blk (W6.setCell ⟨gp, 1, none⟩ (.slice A6 l.length c6)) gp 52 #[.int .i64 r, .slice A6 l.length c6, .bool bb] := H6.out.2.2.set_ 1 _
      have ho7 := hFs.own H6.out.1 fun q hq hk => own_blk_ne H6.out.1 H6.out.2.2 (by decide) (by rw [hq, hk])
      have hFw : Frm (fun _ => False) wr (W6.setCell ⟨gp, 1, none⟩ (.slice A6 l.length c6)) := (H5.out.1.trans H6.out.2.1 fun _ h => h.elim).trans hFs fun q hq => .inr (by rw [hq, H5.out.2.2]; exact Nat.le_refl _)
      generalize W6.setCell ⟨gp, 1, none⟩ (.slice A6 l.length c6) = W7 at *
      have e0 : W7.cell? ⟨gp, 0, none⟩ = some (.int .i64 r) := hb7.cell 0
      have e1 : W7.cell? ⟨gp, 1, none⟩ = some (.slice A6 l.length c6) := hb7.cell 1
      have e2 : W7.cell? ⟨gp, 2, none⟩ = some (.bool bb) := hb7.cell 2
      have hw7 := HS.out.2.2.2.1.1.kept hFw id
      have u0 : W7.cell? ⟨B + 1, 0, none⟩ = some (.slice Av k cv) := hw7.cell 0
      have u1 := hw7.frozen 0
      have hor7 := hFw.own HS.out.2.2.2.1.2.1 fun _ _ => id
      have hbl := hw7.lt
      have hgb := own_blk_ne hor7 hw7 (by decide)
      obtain ⟨i0, hi, hz0, hz1, hz2⟩ := info_parts infoP
      have HQ := Lib.hid (And.intro ho7 (And.intro hFw (And.intro hw7 (And.intro hor7 (And.intro hgb hb7)))))
      have hB7 : B ≤ W7.heap.size := by omega
      clear ho7 hFw hw7 hor7 hgb hb7 hFs b1 f1
      go_region_law (refine step_append_slz (by rfl) (.tmp 26) (.tmp 28) 22 (by rfl) B 52 i0 _ 3 40 Try.underlying22 hi hz0 hz1 hz2 (by rfl) (by decide) _ k _ (by rfl) (by exact HQ.out.2.2.2.1.alloc _) (fun q => q = W7.heap.size) _ 1 [.int .i64 r, .slice A6 l.length c6, .bool bb] (by rfl) (by exact SlZ.blk3 W7 _ _ _ _) (by rfl) (by simp [Value.oneCell']) (by unfold maxLen; omega) (by omega) (by simp; omega) ?_; intro A8 N8 c8 W8 HN8 hNc8 hcm8 hown8 hg8 hat8; have f3 : W8.frozen? ⟨B + 1, 0, none⟩ = false := ((Frm.of_grown hg8).frozen (a := ⟨B + 1, 0, none⟩) (by simp; omega) HQ.out.2.2.2.2.1).trans ((World.frozen?_alloc_past _ _ _ hbl).trans u1); have s3 : W8.cell? ⟨B + 1, 0, none⟩ = some (.slice Av k cv) := (Frm.of_grown hg8).cell (a := ⟨B + 1, 0, none⟩) ((World.cell?_alloc_lt _ _ _ hbl).trans u0) HQ.out.2.2.2.2.1)
      all_goals
        have hnx := O1.next (r := r) (l := l) (bb := bb) HS.out.2.2.2.1 HQ.out.2.1 HQ.out.1 (by exact H5.out.1.size) (by first | exact ((Frm.refl (fun _ => False) W7).alloc _).drew | exact ((Frm.refl (fun _ => False) W7).drew).alloc _) (by have := HS.out.2.2.2.2.1.2; omega) (Nat.le_of_eq H.out.2.2.2.2.2.2.2.2.symm) HN8.out hown8 hg8 hat8 HS.out.2.2.1
        obtain rfl : N8 = k + 1 := HN8.out
        have HX := Lib.hid hnx
        clear hnx hown8 hg8 hat8 s3 f3 HQ e0 e1 e2 u0 u1
        generalize W8.setCell ⟨B + 1, 0, none⟩ (.slice A8 (k + 1) c8) = W9 at *
        go_wp2_with fail
        go_roundw
        case rel => exact ⟨k + 1, by omega, by go_num, Lib.hid ⟨_, _, _, HX.out.1, HS.out.2.2.2.2.1.1.kept HX.out.2 (by
          rintro (e | e)
          · omega
          · exact own_blk_ne HS.out.2.2.2.1.2.1 HS.out.2.2.2.2.1.1 (by decide) e), Nat.le_trans HS.out.2.2.2.2.1.2 HX.out.2.size⟩⟩
        case measure => simp [intOf]; omega
    · obtain rfl : k = n1 := by omega
      obtain ⟨Av, cv, zs, hO, hbB, hB2⟩ := hT.out
      have y0 : wr.cell? ⟨B, 1, none⟩ = some (.slice A n c) := hbB.cell 1
      have HT := Lib.hid (And.intro hO (And.intro hO.wa (And.intro hbB hB2)))
      clear hO hbB hB2 hT
      go_wp2_with fail
      go_loopw [37] (fun i wr => ∃ j : Nat, j ≤ n ∧ i = .int .i64 j ∧ Hid (∃ Aw cw ys, WA wr B (B + 1) (.slice Av k cv) (.slice Aw j cw) zs ys ∧ ys.map (·.c) = (cks.map (·.c)).take j ∧ Frm (fun _ => False) w wr ∧ Blk wr B 25 #[.slice A1 k c1, .slice A n c] ∧ B + 2 ≤ wr.heap.size)) (fun i _ => n - (intOf i).toNat)
      case atStart => exact ⟨0, Nat.zero_le _, rfl, Lib.hid ⟨none, 0, [], HT.out.2.1, by simp, HT.out.1.2.2.2.2, HT.out.2.2⟩⟩
      case round =>
        obtain ⟨j, hj, rfl, hT⟩ := hrel
        by_cases hlt : j < n
        · obtain ⟨Aw, cw, ys, hW, hys, hF, hbB, hB2⟩ := hT.out
          obtain ⟨-, -, -, hcs, hx, hrow, -, hr4, hBw⟩ := H.out
          have hkx : j < cks.length := by omega
          obtain ⟨g, o, rfl, hg, d0, d1, d2, d3⟩ := hx j hkx
          have sa := hrow cks[j] (List.getElem_mem hkx)
          have hl := hr4 cks[j].c (List.mem_map_of_mem (List.getElem_mem hkx))
          have hts := map_take_c cks j hkx
          obtain ⟨x, hxk⟩ : ∃ x, x = cks[j] := ⟨_, rfl⟩
          rw [← hxk] at d0 d1 d2 d3 sa hl hts
          obtain ⟨vx, ch⟩ := x
          obtain ⟨A5, n5, c5, e5, hn5, -⟩ := id sa
          dsimp only at *
          subst e5
          replace d0 := hF.cell d0 id
          replace d1 := hF.cell d1 id
          replace d2 := hF.cell d2 id
          replace d3 := hF.cell d3 id
          have hyl : ys.length = j := by have := congrArg List.length hys; simp at this; omega
          have hn5' : n5 = ch.row.length := sa.cells.1
          have HS := Lib.hid (And.intro sa (And.intro hl (And.intro hts (And.intro hW (And.intro hys (And.intro hF (And.intro hbB (And.intro hB2 (And.intro hyl (And.intro hn5' hBw))))))))))
          have hk0 : (0 : Int) ≤ (j : Int) := by omega
          clear hcs hx hrow hr4 hkx hg sa hl hts hxk hn5 hW hys hF hbB hB2 hyl hn5' hT hBw y0
          go_upto_region 11 with fail
          obtain ⟨W5, hW5⟩ : ∃ W, W = wr.alloc (.cells #[.slice A5 n5 c5, .int .i64 ch.at_, .int .u32 ch.sum, .int .i64 ch.wrong] 46) := ⟨_, rfl⟩
          rw [← hW5]
          have hF5 : Frm (fun _ => False) wr W5 := by rw [hW5]; exact (Frm.refl _ wr).alloc _
          have hb5 : Blk W5 wr.heap.size 46 #[.slice A5 n5 c5, .int .i64 ch.at_, .int .u32 ch.sum, .int .i64 ch.wrong] := by rw [hW5]; exact Blk.new wr _ _
          clear hW5 d0 d1 d2 d3
          obtain ⟨gp, hgp⟩ : ∃ g, g = wr.heap.size := ⟨_, rfl⟩
          rw [← hgp] at hb5 ⊢
          have p1 : W5.cell? ⟨gp, 0, none⟩ = some (.slice A5 n5 c5) := hb5.cell 0
          have H5 := Lib.hid (And.intro hF5 (And.intro hb5 hgp))
          clear hF5 hb5 hgp
          have hcl := clone_e (fun q => q < w.heap.size) (.slice A5 n5 c5) (ch.row.flatMap eCells) n5 W5 (HS.out.1.keptTo fun q hq => ⟨(HS.out.2.2.2.2.2.1.trans H5.out.1 fun _ h => h.elim).block q hq id, hq⟩) (by rw [flat3 eCells (fun _ => rfl), HS.out.2.2.2.2.2.2.2.2.2.1]) (fun q hq => Nat.lt_of_lt_of_le hq (HS.out.2.2.2.2.2.1.trans H5.out.1 fun _ h => h.elim).size) (e_one ch.row) (by have := HS.out.2.1; have := HS.out.2.2.2.2.2.2.2.2.2.1; omega)
          have HC := Lib.hid hcl
          clear hcl
          go_wp2_with fail
          refine HC.out.mono ?_
          rintro e W6 ⟨v6, rfl, ho6, hF6⟩
          obtain ⟨A6, c6, rfl, -, -⟩ := own_form ho6
          have hb6 := H5.out.2.1.kept hF6 id
          have b1 : W6.cell? ⟨gp, 0, none⟩ = some (.slice A5 n5 c5) := hb6.cell 0
          have f1 := hb6.frozen 0
          have H6 := Lib.hid (And.intro ho6 (And.intro hF6 hb6))
          clear ho6 hF6 hb6 HC p1
          go_upto_region 12 with fail
          have hFs : Frm (fun q => q = gp) W6 (W6.setCell ⟨gp, 0, none⟩ (.slice A6 n5 c6)) := (Frm.refl (fun q => q = gp) W6).setCell ⟨gp, 0, none⟩ (.inl rfl) _
          have hb7 : Blk (W6.setCell ⟨gp, 0, none⟩ (.slice A6 n5 c6)) gp 46 #[.slice A6 n5 c6, .int .i64 ch.at_, .int .u32 ch.sum, .int .i64 ch.wrong] := H6.out.2.2.set_ 0 _
          have ho7 := hFs.own H6.out.1 fun q hq hk => own_blk_ne H6.out.1 H6.out.2.2 (by decide) (by rw [hq, hk])
          have hFw : Frm (fun _ => False) wr (W6.setCell ⟨gp, 0, none⟩ (.slice A6 n5 c6)) := (H5.out.1.trans H6.out.2.1 fun _ h => h.elim).trans hFs fun q hq => .inr (by rw [hq, H5.out.2.2]; exact Nat.le_refl _)
          generalize W6.setCell ⟨gp, 0, none⟩ (.slice A6 n5 c6) = W7 at *
          have e0 : W7.cell? ⟨gp, 0, none⟩ = some (.slice A6 n5 c6) := hb7.cell 0
          have e1 : W7.cell? ⟨gp, 1, none⟩ = some (.int .i64 ch.at_) := hb7.cell 1
          have e2 : W7.cell? ⟨gp, 2, none⟩ = some (.int .u32 ch.sum) := hb7.cell 2
          have e3 : W7.cell? ⟨gp, 3, none⟩ = some (.int .i64 ch.wrong) := hb7.cell 3
          have hw7 := HS.out.2.2.2.1.1.kept hFw id
          have u0 : W7.cell? ⟨B + 1, 1, none⟩ = some (.slice Aw j cw) := hw7.cell 1
          have u1 := hw7.frozen 1
          have hor7 := hFw.own HS.out.2.2.2.1.2.2.1 fun _ _ => id
          rw [HS.out.2.2.2.2.2.2.2.2.1] at hor7
          have hbl := hw7.lt
          have hgb := own_blk_ne hor7 hw7 (by decide)
          obtain ⟨i0, hi, hz0, hz1, hz2⟩ := info_parts infoC
          have HQ := Lib.hid (And.intro ho7 (And.intro hFw (And.intro hw7 (And.intro hor7 (And.intro hgb hb7)))))
          have hB7 : B ≤ W7.heap.size := by omega
          clear ho7 hFw hw7 hor7 hgb hb7 hFs b1 f1
          go_region_law (refine step_append_slz (by rfl) (.tmp 50) (.tmp 52) 23 (by rfl) B 46 i0 _ 4 48 Try.underlying23 hi hz0 hz1 hz2 (by rfl) (by decide) _ j _ (by rfl) (by exact HQ.out.2.2.2.1.alloc _) (fun q => q = W7.heap.size) _ 1 [.slice A6 n5 c6, .int .i64 ch.at_, .int .u32 ch.sum, .int .i64 ch.wrong] (by rfl) (by exact SlZ.blk4 W7 _ _ _ _ _) (by rfl) (by simp [Value.oneCell']) (by unfold maxLen; omega) (by omega) (by simp; omega) ?_; intro A8 N8 c8 W8 HN8 hNc8 hcm8 hown8 hg8 hat8; have f3 : W8.frozen? ⟨B + 1, 1, none⟩ = false := ((Frm.of_grown hg8).frozen (a := ⟨B + 1, 1, none⟩) (by simp; omega) HQ.out.2.2.2.2.1).trans ((World.frozen?_alloc_past _ _ _ hbl).trans u1); have s3 : W8.cell? ⟨B + 1, 1, none⟩ = some (.slice Aw j cw) := (Frm.of_grown hg8).cell (a := ⟨B + 1, 1, none⟩) ((World.cell?_alloc_lt _ _ _ hbl).trans u0) HQ.out.2.2.2.2.1)
          all_goals
            have hnx := WA.next (w := w) (c := ch) HS.out.2.2.2.1 HQ.out.2.1 HQ.out.1 (by exact H5.out.1.size) (by first | exact ((Frm.refl (fun _ => False) W7).alloc _).drew | exact ((Frm.refl (fun _ => False) W7).drew).alloc _) (by have := HS.out.2.2.2.2.2.2.2.1; omega) (Nat.le_of_eq H.out.2.2.2.2.2.2.2.2.symm) HS.out.2.2.2.2.2.2.2.2.1 HN8.out hown8 hg8 hat8 HS.out.2.2.2.2.2.1
            obtain rfl : N8 = j + 1 := HN8.out
            have HX := Lib.hid hnx
            clear hnx hown8 hg8 hat8 s3 f3 HQ e0 e1 e2 e3 u0 u1
            generalize W8.setCell ⟨B + 1, 1, none⟩ (.slice A8 (j + 1) c8) = W9 at *
            go_wp2_with fail
            go_roundw
            case rel => exact ⟨j + 1, by omega, by go_num, Lib.hid ⟨_, _, _, HX.out.1, by rw [List.map_append, HS.out.2.2.2.2.1, HS.out.2.2.1]; rfl, HX.out.2.1, HS.out.2.2.2.2.2.2.1.kept HX.out.2.2 (by
              rintro (e | e)
              · omega
              · have h1 := HS.out.2.2.2.1.2.2.1
                exact own_blk_ne h1 HS.out.2.2.2.2.2.2.1 (by decide) e), Nat.le_trans HS.out.2.2.2.2.2.2.2.1 HX.out.2.2.size⟩⟩
            case measure => simp [intOf]; omega
        · obtain rfl : j = n := by omega
          go_wp2_with fail
          go_ret
          obtain ⟨Aw, cw, ys, hW, hys, hF, -⟩ := hT.out
          refine ⟨B + 1, rfl, ⟨_, _, zs, ys, hW, ?_, ?_⟩, hF⟩
          · rw [HT.out.1.2.2.2.1, List.take_of_length_le (by rw [List.length_map]; exact Nat.le_of_eq H.out.1.symm)]
          · rw [hys, List.take_of_length_le (by rw [List.length_map]; exact Nat.le_of_eq H.out.2.2.2.1.symm)]
end Go.Proofs.Ytnibllkcacalhaa
