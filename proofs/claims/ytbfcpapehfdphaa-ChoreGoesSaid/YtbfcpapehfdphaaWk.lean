/- The walk of teasellaw23.wakes, to its tests. -/
import Derived.Test.YtbfcpapehfdphaaMk
namespace Go.Proofs.Ytbfcpapehfdphaa
open Go.RowKit
theorem sizeEr (w : World) : (sizeOf 43).run Try.prog w = .ok 3 w := by kernel_rfl
/-- The first errand alone. -/
theorem take_one {w : World} {gp : Nat} {A : Option Addr} {n c : Nat} {e : Er} {es : List Er} (h : RR w gp (.slice A n c) (e :: es)) : (∀ w, (Instr.slice 22 (.slice A n c) none (some (.int .i64 1)) none).run Try.prog w = .ok (.slice A 1 c) w) ∧ RR w gp (.slice A 1 c) [e] := by
  obtain ⟨A', n', c', he, hl, hc, hm, hx⟩ := id h
  cases he
  have hn : n = es.length + 1 := h.form
  refine ⟨fun w => run_take (P := Try.prog) (t := 22) Try.underlying22 sizeEr A n c 1 (by omega) (by omega) w, A, 1, c, rfl, rfl, by omega, hm, .inr ?_⟩
  obtain ⟨g, o, rfl, hK, hcs⟩ := hx.resolve_left (by omega)
  refine ⟨g, o, rfl, hK, fun i hi => ?_⟩
  have hi3 : i < 3 := by simpa [eCells] using hi
  rw [hcs i (by rw [flat3 eCells (fun _ => rfl)]; simp; omega)]
  simp only [List.flatMap_cons]
  rw [List.getElem_append_left (by simpa [eCells] using hi3), List.getElem_append_left (by simpa [eCells] using hi3)]
def E4 : List Er := [⟨2, 0, 0⟩, ⟨3, 0, 1⟩, ⟨5, 0, 0⟩, ⟨4, 0, 0⟩]
def D1 : List Er := [⟨1, 0, 7⟩]
def c0 : Ch := ⟨E4, 0, 2, 0⟩
def d0 : Ch := ⟨D1, 0, 0, 0⟩
set_option maxRecDepth 100000 in
set_option maxHeartbeats 6400000 in
theorem wakes_any (w : World) : Calls Try.prog 7 #[] w fun e w' => e = .returned (.bool true) ∧ Frm (fun _ => False) w w' := by
  go_enter Try.func7, Try.ntmps7
  go_upto_region 2 with fail
  obtain ⟨g0, hg0⟩ : ∃ g, g = w.heap.size := ⟨_, rfl⟩
  obtain ⟨W1, hW1⟩ : ∃ W, W = (w.alloc (.cells #[.int .u32 5, .int .u32 6] 23)).alloc (.cells #[.int .i64 2, .slice (some ⟨g0, 0, none⟩) 2 2, .bool false] 46) := ⟨_, rfl⟩
  rw [← hg0, ← hW1]
  have hF1 : Frm (fun _ => False) w W1 := by rw [hW1]; exact ((Frm.refl _ w).alloc _).alloc _
  have hp1 : Blk W1 (g0 + 1) 46 #[.int .i64 2, .slice (some ⟨g0, 0, none⟩) 2 2, .bool false] := by
    rw [hW1, hg0]
    have := Blk.new (w.alloc (.cells #[.int .u32 5, .int .u32 6] 23)) 46 #[.int .i64 2, .slice (some ⟨w.heap.size, 0, none⟩) 2 2, .bool false]
    rwa [World.size_alloc] at this
  have hi1 : Sl W1 (fun q => q ≠ g0 + 1 ∧ q < W1.heap.size) (.slice (some ⟨g0, 0, none⟩) 2 2) (uv [5, 6]) := by
    have h1 : Sl (w.alloc (.cells #[.int .u32 5, .int .u32 6] 23)) (fun q => q = w.heap.size) (.slice (some ⟨w.heap.size, 0, none⟩) 2 2) (uv [5, 6]) := Sl.blk w #[.int .u32 5, .int .u32 6] 23 rfl ⟨rfl, by omega⟩
    rw [hW1, hg0]
    exact h1.keptTo fun q hq => ⟨((Frm.refl (fun _ => False) _).alloc _).block q (by rw [hq]; simp) id, by omega, by rw [hq]; simp; omega⟩
  have hs1 : W1.heap.size = g0 + 2 := by rw [hW1, hg0]; simp
  clear hW1
  obtain ⟨gp, hgp⟩ : ∃ g, g = g0 + 1 := ⟨_, rfl⟩
  rw [← hgp] at hp1 hi1 ⊢
  -- what lies apart from the pipe's box
  have HI : Hid (∀ W, Frm (fun q => q = gp) W1 W → Sl W (fun q => q ≠ gp ∧ q < W.heap.size) (.slice (some ⟨g0, 0, none⟩) 2 2) (uv [5, 6])) := Lib.hid fun W hF => hi1.keptTo fun q hq => ⟨hF.block q hq.2 hq.1, hq.1, Nat.lt_of_lt_of_le hq.2 hF.size⟩
  have HP := Lib.hid (And.intro hp1 (And.intro hF1 (And.intro (show gp < W1.heap.size by omega) (show w.heap.size ≤ gp by omega))))
  clear hp1 hF1 hi1 hs1 hg0 hgp
  -- c
  go_wp2_with fail
  refine (make_any _ 4 4 E4 (W1.alloc (.cells #[.int .u8 2, .int .i64 0, .int .u32 0, .int .u8 3, .int .i64 0, .int .u32 1, .int .u8 5, .int .i64 0, .int .u32 0, .int .u8 4, .int .i64 0, .int .u32 0] 43)) (rr_new W1 gp _ E4 rfl (by decide) HP.out.2.2.1 4 rfl).all (by omega)).mono ?_
  rintro e w2 ⟨A1, k1, rfl, hR1, hF2⟩
  unfold cVal
  have hs2 : gp < w2.heap.size := by have := HP.out.2.2.1; have := hF2.size; simp at this; omega
  have hR2 : RR w2 gp (.slice A1 4 k1) E4 := RAt.keptTo hR1 fun q hq => ⟨rfl, by have := hq.1; have := HP.out.2.2.1; simp at *; omega, hq.2⟩
  go_upto_region 3 with fail
  obtain ⟨gc, hgc⟩ : ∃ g, g = w2.heap.size := ⟨_, rfl⟩
  have hb3 := Blk.new w2 25 #[.slice A1 4 k1, .int .i64 0, .int .u32 0, .int .i64 0]
  have hF3 : Frm (fun _ => False) w2 (w2.alloc (.cells #[.slice A1 4 k1, .int .i64 0, .int .u32 0, .int .i64 0] 25)) := (Frm.refl _ w2).alloc _
  rw [← hgc] at hb3 ⊢
  generalize w2.alloc (.cells #[.slice A1 4 k1, .int .i64 0, .int .u32 0, .int .i64 0] 25) = w3 at *
  have x0 : w3.cell? ⟨gc, 0, none⟩ = some (.slice A1 4 k1) := hb3.cell 0
  have x2 : w3.cell? ⟨gc, 2, none⟩ = some (.int .u32 0) := hb3.cell 2
  have f2 := hb3.frozen 2
  have H3 := Lib.hid (And.intro hs2 (And.intro hR2 (And.intro hb3 (And.intro hF3 (And.intro hgc hF2)))))
  clear hs2 hR2 hb3 hF3 hgc hF2 hR1
  go_upto_region 6 with fail
  obtain ⟨hs2, hR2, hb3, hF3, hgc, hF2⟩ := H3.out
  have hF4 : Frm (fun _ => False) w2 (w3.setCell ⟨gc, 2, none⟩ (.int .u32 2)) := hF3.setCell ⟨gc, 2, none⟩ (.inr (Nat.le_of_eq hgc.symm)) _
  have hcb : CB (w3.setCell ⟨gc, 2, none⟩ (.int .u32 2)) gp gc (.slice A1 4 k1) c0 := ⟨by omega, hb3.set_ 2 _, hR2.kept hF4.up⟩
  have hFW : Frm (fun _ => False) W1 (w3.setCell ⟨gc, 2, none⟩ (.int .u32 2)) := (((Frm.refl _ W1).alloc _).trans hF2 fun _ h => h.elim).trans hF4 fun _ h => h.elim
  clear hb3 hF4 hgc hR2 hs2 hF2 hF3 x0 x2 f2 H3
  generalize w3.setCell ⟨gc, 2, none⟩ (.int .u32 2) = W2 at *
  have HS2 := Lib.hid fun W (hW : Frm (fun q => q = gp) W2 W) => And.intro (hcb.kept hW) (HI.out W (hFW.up.trans hW fun _ h => .inl h))
  have HP2 := Lib.hid (And.intro (HP.out.1.kept hFW id) (And.intro (HP.out.2.1.trans hFW fun _ h => h.elim) (And.intro (show gp < W2.heap.size by have := HP.out.2.2.1; have := hFW.size; omega) HP.out.2.2.2)))
  clear hcb hFW HI HP
  -- d
  go_wp2_with fail
  refine (make_any _ 1 1 D1 (W2.alloc (.cells #[.int .u8 1, .int .i64 0, .int .u32 7] 43)) (rr_new W2 gp _ D1 rfl (by decide) HP2.out.2.2.1 1 rfl).all (by omega)).mono ?_
  rintro e w3 ⟨A2, k2, rfl, hR1, hF2⟩
  unfold cVal
  go_upto_region 7 with fail
  have hR2 : RR w3 gp (.slice A2 1 k2) D1 := RAt.keptTo hR1 fun q hq => ⟨rfl, by have := hq.1; have := HP2.out.2.2.1; simp at *; omega, hq.2⟩
  have hFr : Frm (fun _ => False) W2 w3 := ((Frm.refl _ W2).alloc _).trans hF2 fun _ h => h.elim
  clear hR1
  obtain ⟨gd, hgx⟩ : ∃ g, g = w3.heap.size := ⟨_, rfl⟩
  have hs2 : gp < w3.heap.size := by have := HP2.out.2.2.1; have := hF2.size; (try simp at this); omega
  have hcb : CB (w3.alloc (.cells #[.slice A2 1 k2, .int .i64 0, .int .u32 0, .int .i64 0] 25)) gp w3.heap.size (.slice A2 1 k2) d0 := CB.new (c := d0) hR2 hs2
  have hFa : Frm (fun _ => False) w3 (w3.alloc (.cells #[.slice A2 1 k2, .int .i64 0, .int .u32 0, .int .i64 0] 25)) := (Frm.refl _ w3).alloc _
  have hFW : Frm (fun _ => False) W2 (w3.alloc (.cells #[.slice A2 1 k2, .int .i64 0, .int .u32 0, .int .i64 0] 25)) := hFr.trans hFa fun _ h => h.elim
  rw [← hgx] at hcb ⊢
  clear hgx hFa hs2 hR2 hF2 hFr
  generalize (w3.alloc (.cells #[.slice A2 1 k2, .int .i64 0, .int .u32 0, .int .i64 0] 25)) = W3 at *
  have HS3 := Lib.hid fun W (hW : Frm (fun q => q = gp) W3 W) => And.intro (hcb.kept hW) (HS2.out W (hFW.up.trans hW fun _ h => .inl h))
  have HP3 := Lib.hid (And.intro (HP2.out.1.kept hFW id) (And.intro (HP2.out.2.1.trans hFW fun _ h => h.elim) (And.intro (show gp < W3.heap.size by have := HP2.out.2.2.1; have := hFW.size; omega) HP2.out.2.2.2)))
  clear hcb hFW HS2 HP2
  -- one
  obtain ⟨x0, x1, x2, x3⟩ := (HS3.out W3 (Frm.refl _ _)).2.1.cells
  dsimp only [c0, d0] at x0 x1 x2 x3
  have y0 : W3.cell? ⟨gp, 0, none⟩ = some (.int .i64 2) := HP3.out.1.cell 0
  have y1 : W3.cell? ⟨gp, 1, none⟩ = some (.slice (some ⟨g0, 0, none⟩) 2 2) := HP3.out.1.cell 1
  have y2 : W3.cell? ⟨gp, 2, none⟩ = some (.bool false) := HP3.out.1.cell 2
  have hF0 : Frm (fun _ => False) W3 (W3.alloc (.cells #[.int .i64 2, .slice (some ⟨g0, 0, none⟩) 2 2, .bool false] 46)) := (Frm.refl _ _).alloc _
  go_wp2_with fail
  refine (step_at (gp := gp) ⟨E4, 1, 68, 0⟩ [⟨2, [6], false⟩] true ((HS3.out W3 (Frm.refl _ _)).2.1.2.2.kept hF0.up) (pp_new W3 gp _ 2 false [5, 6] (HS3.out W3 (Frm.refl _ _)).2.2 HP3.out.2.2.1) (by have := HP3.out.2.2.1; simp; omega) (by omega) (by omega) (by decide) (by decide) (by decide)).mono ?_
  rintro e v1 ⟨B1, m1, q1, C1, r1, t1, rfl, hR2, hP2, hF2⟩
  obtain rfl : m1 = 4 := hR2.form
  obtain rfl : r1 = 1 := hP2.form
  have hFr := hF0.trans hF2 fun _ h => h.elim
  clear x0 x1 x2 x3 hF0 y0 y1 y2
  go_upto_region 8 with fail
  obtain ⟨gone, hgx⟩ : ∃ g, g = v1.heap.size := ⟨_, rfl⟩
  have hs2 : gp < v1.heap.size := by have := HP3.out.2.2.1; have := hF2.size; (try simp at this); omega
  have hcb : CB (v1.alloc (.cells #[.slice B1 4 q1, .int .i64 1, .int .u32 68, .int .i64 0] 25)) gp v1.heap.size (.slice B1 4 q1) ⟨E4, 1, 68, 0⟩ := CB.new (c := ⟨E4, 1, 68, 0⟩) hR2 hs2
  have hFa : Frm (fun _ => False) v1 (v1.alloc (.cells #[.slice B1 4 q1, .int .i64 1, .int .u32 68, .int .i64 0] 25)) := (Frm.refl _ v1).alloc _
  have hFW : Frm (fun _ => False) W3 (v1.alloc (.cells #[.slice B1 4 q1, .int .i64 1, .int .u32 68, .int .i64 0] 25)) := hFr.trans hFa fun _ h => h.elim
  have hpp := hP2.kept hFa.up
  rw [← hgx] at hcb ⊢
  clear hgx hFa hs2 hR2 hF2 hFr hP2
  generalize (v1.alloc (.cells #[.slice B1 4 q1, .int .i64 1, .int .u32 68, .int .i64 0] 25)) = W4 at *
  have HS4 := Lib.hid fun W (hW : Frm (fun q => q = gp) W4 W) => And.intro (hcb.kept hW) (And.intro (hpp.kept hW) (HS3.out W (hFW.up.trans hW fun _ h => .inl h)))
  have HP4 := Lib.hid (And.intro (HP3.out.1.kept hFW id) (And.intro (HP3.out.2.1.trans hFW fun _ h => h.elim) (And.intro (show gp < W4.heap.size by have := HP3.out.2.2.1; have := hFW.size; omega) HP3.out.2.2.2)))
  clear hcb hFW HS3 HP3 hpp
  -- full
  obtain ⟨x0, x1, x2, x3⟩ := (HS4.out W4 (Frm.refl _ _)).2.2.1.cells
  dsimp only [c0, d0] at x0 x1 x2 x3
  have y0 : W4.cell? ⟨gp, 0, none⟩ = some (.int .i64 2) := HP4.out.1.cell 0
  have y1 : W4.cell? ⟨gp, 1, none⟩ = some (.slice (some ⟨g0, 0, none⟩) 2 2) := HP4.out.1.cell 1
  have y2 : W4.cell? ⟨gp, 2, none⟩ = some (.bool false) := HP4.out.1.cell 2
  have hF0 : Frm (fun _ => False) W4 (W4.alloc (.cells #[.int .i64 2, .slice (some ⟨g0, 0, none⟩) 2 2, .bool false] 46)) := (Frm.refl _ _).alloc _
  go_wp2_with fail
  refine (ready_at (gp := gp) false ((HS4.out W4 (Frm.refl _ _)).2.2.1.2.2.kept hF0.up) (pp_new W4 gp _ 2 false [5, 6] (HS4.out W4 (Frm.refl _ _)).2.2.2.2 HP4.out.2.2.1) (by decide)).mono ?_
  rintro e v2 ⟨rfl, hF2⟩
  have hFW := hF0.trans hF2 fun _ h => h.elim
  clear x0 x1 x2 x3 hF0 hF2 y0 y1 y2
  have HS5 := Lib.hid fun W (hW : Frm (fun q => q = gp) v2 W) => HS4.out W (hFW.up.trans hW fun _ h => .inl h)
  have HP5 := Lib.hid (And.intro (HP4.out.1.kept hFW id) (And.intro (HP4.out.2.1.trans hFW fun _ h => h.elim) (And.intro (show gp < v2.heap.size by have := HP4.out.2.2.1; have := hFW.size; omega) HP4.out.2.2.2)))
  clear HS4 HP4 hFW
  generalize v2 = W5 at *
  go_upto_region 9 with fail
  -- two
  obtain ⟨x0, x1, x2, x3⟩ := (HS5.out W5 (Frm.refl _ _)).2.2.1.cells
  dsimp only [c0, d0] at x0 x1 x2 x3
  have hF0 : Frm (fun _ => False) W5 W5 := Frm.refl _ _
  go_wp2_with fail
  refine (step_at (gp := gp) ⟨D1, 1, 0, 0⟩ [⟨2, [6, 7], false⟩] true (HS5.out W5 (Frm.refl _ _)).2.2.1.2.2 (HS5.out W5 (Frm.refl _ _)).2.1 HP5.out.2.2.1 (by omega) (by omega) (by decide) (by decide) (by decide)).mono ?_
  rintro e v3 ⟨B3, m3, q3, C3, r3, t3, rfl, hR2, hP2, hF2⟩
  obtain rfl : m3 = 1 := hR2.form
  obtain rfl : r3 = 1 := hP2.form
  have hFr := hF0.trans hF2 fun _ h => h.elim
  clear x0 x1 x2 x3 hF0
  go_upto_region 10 with fail
  obtain ⟨gtwo, hgx⟩ : ∃ g, g = v3.heap.size := ⟨_, rfl⟩
  have hs2 : gp < v3.heap.size := by have := HP5.out.2.2.1; have := hF2.size; (try simp at this); omega
  have hcb : CB (v3.alloc (.cells #[.slice B3 1 q3, .int .i64 1, .int .u32 0, .int .i64 0] 25)) gp v3.heap.size (.slice B3 1 q3) ⟨D1, 1, 0, 0⟩ := CB.new (c := ⟨D1, 1, 0, 0⟩) hR2 hs2
  have hFa : Frm (fun _ => False) v3 (v3.alloc (.cells #[.slice B3 1 q3, .int .i64 1, .int .u32 0, .int .i64 0] 25)) := (Frm.refl _ v3).alloc _
  have hFW : Frm (fun _ => False) W5 (v3.alloc (.cells #[.slice B3 1 q3, .int .i64 1, .int .u32 0, .int .i64 0] 25)) := hFr.trans hFa fun _ h => h.elim
  have hpp := hP2.kept hFa.up
  rw [← hgx] at hcb ⊢
  clear hgx hFa hs2 hR2 hF2 hFr hP2
  generalize (v3.alloc (.cells #[.slice B3 1 q3, .int .i64 1, .int .u32 0, .int .i64 0] 25)) = W6 at *
  have HS6 := Lib.hid fun W (hW : Frm (fun q => q = gp) W6 W) => And.intro (hcb.kept hW) (And.intro (hpp.kept hW) (HS5.out W (hFW.up.trans hW fun _ h => .inl h)))
  have HP6 := Lib.hid (And.intro (HP5.out.1.kept hFW id) (And.intro (HP5.out.2.1.trans hFW fun _ h => h.elim) (And.intro (show gp < W6.heap.size by have := HP5.out.2.2.1; have := hFW.size; omega) HP5.out.2.2.2)))
  clear hcb hFW HS5 HP5 hpp
  -- closed
  have y2 : W6.cell? ⟨gp, 2, none⟩ = some (.bool false) := HP6.out.1.cell 2
  have f2 := HP6.out.1.frozen 2
  go_upto_region 11 with fail
  have hFs : Frm (fun q => q = gp) W6 (W6.setCell ⟨gp, 2, none⟩ (.bool true)) := (Frm.refl (fun q => q = gp) W6).setCell ⟨gp, 2, none⟩ (.inl rfl) _
  have hp2 : Blk (W6.setCell ⟨gp, 2, none⟩ (.bool true)) gp 46 #[.int .i64 2, .slice (some ⟨g0, 0, none⟩) 2 2, .bool true] := HP6.out.1.set_ 2 _
  have hsz : gp < (W6.setCell ⟨gp, 2, none⟩ (.bool true)).heap.size := by have := HP6.out.2.2.1; simpa using this
  generalize W6.setCell ⟨gp, 2, none⟩ (.bool true) = W7 at *
  have HS7 := Lib.hid fun W (hW : Frm (fun q => q = gp) W7 W) => HS6.out W (hFs.trans' hW)
  have HP7 := Lib.hid (And.intro hp2 (And.intro (HP6.out.2.1.trans hFs fun q hq => .inr (by have := HP6.out.2.2.2; omega)) (And.intro hsz HP6.out.2.2.2)))
  clear HS6 HP6 hFs hp2 hsz y2 f2
  -- three
  obtain ⟨x0, x1, x2, x3⟩ := (HS7.out W7 (Frm.refl _ _)).2.2.2.2.1.cells
  dsimp only [c0, d0] at x0 x1 x2 x3
  have y0 : W7.cell? ⟨gp, 0, none⟩ = some (.int .i64 2) := HP7.out.1.cell 0
  have y1 : W7.cell? ⟨gp, 1, none⟩ = some (.slice (some ⟨g0, 0, none⟩) 2 2) := HP7.out.1.cell 1
  have y2 : W7.cell? ⟨gp, 2, none⟩ = some (.bool true) := HP7.out.1.cell 2
  have hF0 : Frm (fun _ => False) W7 (W7.alloc (.cells #[.int .i64 2, .slice (some ⟨g0, 0, none⟩) 2 2, .bool true] 46)) := (Frm.refl _ _).alloc _
  go_wp2_with fail
  refine (step_at (gp := gp) ⟨D1, 1, 0, 1⟩ [⟨2, [5, 6], true⟩] true ((HS7.out W7 (Frm.refl _ _)).2.2.2.2.1.2.2.kept hF0.up) (pp_new W7 gp _ 2 true [5, 6] (HS7.out W7 (Frm.refl _ _)).2.2.2.2.2.2 HP7.out.2.2.1) (by have := HP7.out.2.2.1; simp; omega) (by omega) (by omega) (by decide) (by decide) (by decide)).mono ?_
  rintro e v4 ⟨B4, m4, q4, C4, r4, t4, rfl, hR2, hP2, hF2⟩
  obtain rfl : m4 = 1 := hR2.form
  obtain rfl : r4 = 1 := hP2.form
  have hFr := hF0.trans hF2 fun _ h => h.elim
  clear x0 x1 x2 x3 hF0 y0 y1 y2
  go_upto_region 12 with fail
  obtain ⟨gthree, hgx⟩ : ∃ g, g = v4.heap.size := ⟨_, rfl⟩
  have hs2 : gp < v4.heap.size := by have := HP7.out.2.2.1; have := hF2.size; (try simp at this); omega
  have hcb : CB (v4.alloc (.cells #[.slice B4 1 q4, .int .i64 1, .int .u32 0, .int .i64 1] 25)) gp v4.heap.size (.slice B4 1 q4) ⟨D1, 1, 0, 1⟩ := CB.new (c := ⟨D1, 1, 0, 1⟩) hR2 hs2
  have hFa : Frm (fun _ => False) v4 (v4.alloc (.cells #[.slice B4 1 q4, .int .i64 1, .int .u32 0, .int .i64 1] 25)) := (Frm.refl _ v4).alloc _
  have hFW : Frm (fun _ => False) W7 (v4.alloc (.cells #[.slice B4 1 q4, .int .i64 1, .int .u32 0, .int .i64 1] 25)) := hFr.trans hFa fun _ h => h.elim
  have hpp := hP2.kept hFa.up
  rw [← hgx] at hcb ⊢
  clear hgx hFa hs2 hR2 hF2 hFr hP2
  generalize (v4.alloc (.cells #[.slice B4 1 q4, .int .i64 1, .int .u32 0, .int .i64 1] 25)) = W8 at *
  have HS8 := Lib.hid fun W (hW : Frm (fun q => q = gp) W8 W) => And.intro (hcb.kept hW) (And.intro (hpp.kept hW) (HS7.out W (hFW.up.trans hW fun _ h => .inl h)))
  have HP8 := Lib.hid (And.intro (HP7.out.1.kept hFW id) (And.intro (HP7.out.2.1.trans hFW fun _ h => h.elim) (And.intro (show gp < W8.heap.size by have := HP7.out.2.2.1; have := hFW.size; omega) HP7.out.2.2.2)))
  clear hcb hFW HS7 HP7 hpp
  -- four
  obtain ⟨x0, x1, x2, x3⟩ := (HS8.out W8 (Frm.refl _ _)).2.2.2.2.1.cells
  dsimp only [c0, d0] at x0 x1 x2 x3
  have hF0 : Frm (fun _ => False) W8 W8 := Frm.refl _ _
  go_wp2_with fail
  refine (step_at (gp := gp) ⟨E4, 2, 69, 0⟩ [⟨2, [6, 7], false⟩] true (HS8.out W8 (Frm.refl _ _)).2.2.2.2.1.2.2 (HS8.out W8 (Frm.refl _ _)).2.2.2.1 HP8.out.2.2.1 (by omega) (by omega) (by decide) (by decide) (by decide)).mono ?_
  rintro e v5 ⟨B5, m5, q5, C5, r5, t5, rfl, hR2, hP2, hF2⟩
  obtain rfl : m5 = 4 := hR2.form
  obtain rfl : r5 = 1 := hP2.form
  have hFr := hF0.trans hF2 fun _ h => h.elim
  clear x0 x1 x2 x3 hF0
  go_upto_region 13 with fail
  obtain ⟨gfour, hgx⟩ : ∃ g, g = v5.heap.size := ⟨_, rfl⟩
  have hs2 : gp < v5.heap.size := by have := HP8.out.2.2.1; have := hF2.size; (try simp at this); omega
  have hcb : CB (v5.alloc (.cells #[.slice B5 4 q5, .int .i64 2, .int .u32 69, .int .i64 0] 25)) gp v5.heap.size (.slice B5 4 q5) ⟨E4, 2, 69, 0⟩ := CB.new (c := ⟨E4, 2, 69, 0⟩) hR2 hs2
  have hFa : Frm (fun _ => False) v5 (v5.alloc (.cells #[.slice B5 4 q5, .int .i64 2, .int .u32 69, .int .i64 0] 25)) := (Frm.refl _ v5).alloc _
  have hFW : Frm (fun _ => False) W8 (v5.alloc (.cells #[.slice B5 4 q5, .int .i64 2, .int .u32 69, .int .i64 0] 25)) := hFr.trans hFa fun _ h => h.elim
  have hpp := hP2.kept hFa.up
  rw [← hgx] at hcb ⊢
  clear hgx hFa hs2 hR2 hF2 hFr hP2
  generalize (v5.alloc (.cells #[.slice B5 4 q5, .int .i64 2, .int .u32 69, .int .i64 0] 25)) = W9 at *
  have HS9 := Lib.hid fun W (hW : Frm (fun q => q = gp) W9 W) => And.intro (hcb.kept hW) (And.intro (hpp.kept hW) (HS8.out W (hFW.up.trans hW fun _ h => .inl h)))
  have HP9 := Lib.hid (And.intro (HP8.out.1.kept hFW id) (And.intro (HP8.out.2.1.trans hFW fun _ h => h.elim) (And.intro (show gp < W9.heap.size by have := HP8.out.2.2.1; have := hFW.size; omega) HP8.out.2.2.2)))
  clear hcb hFW HS8 HP8 hpp
  -- five
  obtain ⟨x0, x1, x2, x3⟩ := (HS9.out W9 (Frm.refl _ _)).1.cells
  dsimp only [c0, d0] at x0 x1 x2 x3
  have hF0 : Frm (fun _ => False) W9 W9 := Frm.refl _ _
  go_wp2_with fail
  refine (step_at (gp := gp) ⟨E4, 4, 69, 0⟩ [⟨2, [6, 7], false⟩] true (HS9.out W9 (Frm.refl _ _)).1.2.2 (HS9.out W9 (Frm.refl _ _)).2.1 HP9.out.2.2.1 (by omega) (by omega) (by decide) (by decide) (by decide)).mono ?_
  rintro e v6 ⟨B6, m6, q6, C6, r6, t6, rfl, hR2, hP2, hF2⟩
  obtain rfl : m6 = 4 := hR2.form
  obtain rfl : r6 = 1 := hP2.form
  have hFr := hF0.trans hF2 fun _ h => h.elim
  clear x0 x1 x2 x3 hF0
  go_upto_region 14 with fail
  obtain ⟨gfive, hgx⟩ : ∃ g, g = v6.heap.size := ⟨_, rfl⟩
  have hs2 : gp < v6.heap.size := by have := HP9.out.2.2.1; have := hF2.size; (try simp at this); omega
  have hcb : CB (v6.alloc (.cells #[.slice B6 4 q6, .int .i64 4, .int .u32 69, .int .i64 0] 25)) gp v6.heap.size (.slice B6 4 q6) ⟨E4, 4, 69, 0⟩ := CB.new (c := ⟨E4, 4, 69, 0⟩) hR2 hs2
  have hFa : Frm (fun _ => False) v6 (v6.alloc (.cells #[.slice B6 4 q6, .int .i64 4, .int .u32 69, .int .i64 0] 25)) := (Frm.refl _ v6).alloc _
  have hFW : Frm (fun _ => False) W9 (v6.alloc (.cells #[.slice B6 4 q6, .int .i64 4, .int .u32 69, .int .i64 0] 25)) := hFr.trans hFa fun _ h => h.elim
  have hpp := hP2.kept hFa.up
  rw [← hgx] at hcb ⊢
  clear hgx hFa hs2 hR2 hF2 hFr hP2
  generalize (v6.alloc (.cells #[.slice B6 4 q6, .int .i64 4, .int .u32 69, .int .i64 0] 25)) = W10 at *
  have HS10 := Lib.hid fun W (hW : Frm (fun q => q = gp) W10 W) => And.intro (hcb.kept hW) (And.intro (hpp.kept hW) (HS9.out W (hFW.up.trans hW fun _ h => .inl h)))
  have HP10 := Lib.hid (And.intro (HP9.out.1.kept hFW id) (And.intro (HP9.out.2.1.trans hFW fun _ h => h.elim) (And.intro (show gp < W10.heap.size by have := HP9.out.2.2.1; have := hFW.size; omega) HP9.out.2.2.2)))
  clear hcb hFW HS9 HP9 hpp
  -- over
  obtain ⟨x0, x1, x2, x3⟩ := (HS10.out W10 (Frm.refl _ _)).1.cells
  dsimp only [c0, d0] at x0 x1 x2 x3
  have hF0 : Frm (fun _ => False) W10 W10 := Frm.refl _ _
  go_wp2_with fail
  refine (step_at (gp := gp) ⟨E4, 4, 69, 0⟩ [⟨2, [6, 7], false⟩] false (HS10.out W10 (Frm.refl _ _)).1.2.2 (HS10.out W10 (Frm.refl _ _)).2.2.2.1 HP10.out.2.2.1 (by omega) (by omega) (by decide) (by decide) (by decide)).mono ?_
  rintro e v7 ⟨B7, m7, q7, C7, r7, t7, rfl, hR2, hP2, hF2⟩
  obtain rfl : m7 = 4 := hR2.form
  obtain rfl : r7 = 1 := hP2.form
  have hFr := hF0.trans hF2 fun _ h => h.elim
  clear x0 x1 x2 x3 hF0
  go_upto_region 15 with fail
  obtain ⟨gover, hgx⟩ : ∃ g, g = v7.heap.size := ⟨_, rfl⟩
  have hs2 : gp < v7.heap.size := by have := HP10.out.2.2.1; have := hF2.size; (try simp at this); omega
  have hcb : CB (v7.alloc (.cells #[.slice B7 4 q7, .int .i64 4, .int .u32 69, .int .i64 0] 25)) gp v7.heap.size (.slice B7 4 q7) ⟨E4, 4, 69, 0⟩ := CB.new (c := ⟨E4, 4, 69, 0⟩) hR2 hs2
  have hFa : Frm (fun _ => False) v7 (v7.alloc (.cells #[.slice B7 4 q7, .int .i64 4, .int .u32 69, .int .i64 0] 25)) := (Frm.refl _ v7).alloc _
  have hFW : Frm (fun _ => False) W10 (v7.alloc (.cells #[.slice B7 4 q7, .int .i64 4, .int .u32 69, .int .i64 0] 25)) := hFr.trans hFa fun _ h => h.elim
  have hpp := hP2.kept hFa.up
  rw [← hgx] at hcb ⊢
  clear hgx hFa hs2 hR2 hF2 hFr hP2
  generalize (v7.alloc (.cells #[.slice B7 4 q7, .int .i64 4, .int .u32 69, .int .i64 0] 25)) = W11 at *
  have HS11 := Lib.hid fun W (hW : Frm (fun q => q = gp) W11 W) => And.intro (hcb.kept hW) (And.intro (hpp.kept hW) (HS10.out W (hFW.up.trans hW fun _ h => .inl h)))
  have HP11 := Lib.hid (And.intro (HP10.out.1.kept hFW id) (And.intro (HP10.out.2.1.trans hFW fun _ h => h.elim) (And.intro (show gp < W11.heap.size by have := HP10.out.2.2.1; have := hFW.size; omega) HP10.out.2.2.2)))
  clear hcb hFW HS10 HP10 hpp
  -- six
  have hrc := ((HS11.out W11 (Frm.refl _ _)).2.2.2.2.2.2.2.2.2.2.2.2.2.1).2.2
  obtain ⟨htk, hR6⟩ := take_one hrc
  have x0 := ((HS11.out W11 (Frm.refl _ _)).2.2.2.2.2.2.2.2.2.2.2.2.2.1.cells).1
  have hF0 : Frm (fun _ => False) W11 (W11.alloc (.cells #[.int .i64 1, .slice none 0 0, .bool true] 46)) := (Frm.refl _ _).alloc _
  have H6 := Lib.hid (And.intro hR6 hF0)
  clear hrc hR6 hF0
  go_wp2_with fail
  refine (step_at (gp := gp) ⟨[⟨2, 0, 0⟩], 1, 93, 0⟩ [⟨1, [], true⟩] true (H6.out.1.kept H6.out.2.up) (pp_new W11 gp _ 1 true [] (Sl.nil_ _ _) HP11.out.2.2.1) (by have := HP11.out.2.2.1; simp; omega) (by omega) (by omega) (by decide) (by decide) (by decide)).mono ?_
  rintro e v8 ⟨B8, m8, q8, C8, r8, t8, rfl, hR2, hP2, hF2⟩
  obtain rfl : m8 = 1 := hR2.form
  obtain rfl : r8 = 1 := hP2.form
  have hFr := H6.out.2.trans hF2 fun _ h => h.elim
  clear x0 htk H6
  go_upto_region 16 with fail
  obtain ⟨gsix, hgx⟩ : ∃ g, g = v8.heap.size := ⟨_, rfl⟩
  have hs2 : gp < v8.heap.size := by have := HP11.out.2.2.1; have := hF2.size; (try simp at this); omega
  have hcb : CB (v8.alloc (.cells #[.slice B8 1 q8, .int .i64 1, .int .u32 93, .int .i64 0] 25)) gp v8.heap.size (.slice B8 1 q8) ⟨[⟨2, 0, 0⟩], 1, 93, 0⟩ := CB.new (c := ⟨[⟨2, 0, 0⟩], 1, 93, 0⟩) hR2 hs2
  have hFa : Frm (fun _ => False) v8 (v8.alloc (.cells #[.slice B8 1 q8, .int .i64 1, .int .u32 93, .int .i64 0] 25)) := (Frm.refl _ v8).alloc _
  have hFW : Frm (fun _ => False) W11 (v8.alloc (.cells #[.slice B8 1 q8, .int .i64 1, .int .u32 93, .int .i64 0] 25)) := hFr.trans hFa fun _ h => h.elim
  have hpp := hP2.kept hFa.up
  rw [← hgx] at hcb ⊢
  clear hgx hFa hs2 hR2 hF2 hFr hP2
  generalize (v8.alloc (.cells #[.slice B8 1 q8, .int .i64 1, .int .u32 93, .int .i64 0] 25)) = W12 at *
  have HS12 := Lib.hid fun W (hW : Frm (fun q => q = gp) W12 W) => And.intro (hcb.kept hW) (And.intro (hpp.kept hW) (HS11.out W (hFW.up.trans hW fun _ h => .inl h)))
  have HP12 := Lib.hid (And.intro (HP11.out.1.kept hFW id) (And.intro (HP11.out.2.1.trans hFW fun _ h => h.elim) (And.intro (show gp < W12.heap.size by have := HP11.out.2.2.1; have := hFW.size; omega) HP11.out.2.2.2)))
  clear hcb hFW HS11 HP11 hpp
  -- the tests
  obtain ⟨gl, ol, vl, el, -, l1, -, ls⟩ := (HS12.out W12 (Frm.refl _ _)).2.2.2.2.2.2.2.2.2.2.2.2.2.1.first
  obtain ⟨gm, om, vm, em, -, m1, -, ms⟩ := (HS12.out W12 (Frm.refl _ _)).2.2.2.2.2.2.2.2.2.2.2.1.first
  obtain ⟨Al, nl, cl, rfl, hnl, -, -, hxl⟩ := id ls
  obtain ⟨Am, nm, cm, rfl, hnm, -, -, hxm⟩ := id ms
  obtain rfl : nl = 1 := hnl
  obtain rfl : nm = 2 := hnm
  obtain ⟨il, jl, rfl, -, zl⟩ := hxl.resolve_left (by omega)
  obtain ⟨im, jm, rfl, -, zm⟩ := hxm.resolve_left (by omega)
  have l2 : W12.cell? ⟨il, jl, none⟩ = some (.int .u32 6) := by have := zl 0 (by decide); simpa [uv] using this
  have m2 : W12.cell? ⟨im, jm + 1, none⟩ = some (.int .u32 7) := by have := zm 1 (by decide); simpa [uv] using this
  clear zl zm hxl hxm ls ms
  subst el em
  obtain ⟨a0, a1, a2, a3⟩ := (HS12.out W12 (Frm.refl _ _)).2.2.2.2.2.2.2.2.2.2.2.2.1.cells
  obtain ⟨b0, b1, b2, b3⟩ := (HS12.out W12 (Frm.refl _ _)).2.2.2.2.2.2.2.2.2.2.1.cells
  obtain ⟨d0, d1, d2, d3⟩ := (HS12.out W12 (Frm.refl _ _)).2.2.2.2.2.2.2.2.1.cells
  obtain ⟨f0, f1, f2, f3⟩ := (HS12.out W12 (Frm.refl _ _)).2.2.2.2.2.2.1.cells
  obtain ⟨h0, h1, h2, h3⟩ := (HS12.out W12 (Frm.refl _ _)).2.2.2.2.1.cells
  dsimp only at a0 a1 a2 a3 b0 b1 b2 b3 d0 d1 d2 d3 f0 f1 f2 f3 h0 h1 h2 h3
  clear a0 a3 b0 b2 b3 d0 d1 d2 f0 f1 f3
  go_wp2_with fail
  refine (over_at true (by decide)).mono ?_
  rintro e z1 ⟨rfl, hZ1⟩
  clear a1 a2 b1 d3 f2 h0 h1 h2 h3 l1 l2 m1 m2
  have HZ1 := Lib.hid hZ1
  clear hZ1
  obtain ⟨h0, h1, h2, h3⟩ := (HS12.out z1 HZ1.out.up).2.2.2.2.1.cells
  dsimp only [c0, d0] at h0 h1 h2 h3
  obtain ⟨s0, s1, s2, s3⟩ := (HS12.out z1 HZ1.out.up).1.cells
  dsimp only [c0, d0] at s0 s1 s2 s3
  obtain ⟨x0, x1, x2, x3⟩ := (HS12.out z1 HZ1.out.up).2.2.2.2.2.2.2.2.2.2.2.2.2.2.2.1.cells
  dsimp only [c0, d0] at x0 x1 x2 x3
  go_wp2_with fail
  refine (right_at (gp := gp) true (HS12.out z1 HZ1.out.up).2.2.2.2.2.2.2.2.2.2.2.2.2.2.2.1.2.2 (by decide)).mono ?_
  rintro e z2 ⟨rfl, hZ2⟩
  clear h0 h1 h2 h3 s0 s1 s2 s3 x0 x1 x2 x3
  have HZ2 := Lib.hid (HZ1.out.trans hZ2 fun _ h => h.elim)
  clear hZ2 HZ1
  obtain ⟨x0, x1, x2, x3⟩ := (HS12.out z2 HZ2.out.up).2.2.2.2.2.2.2.2.2.2.2.2.2.2.2.1.cells
  dsimp only [c0, d0] at x0 x1 x2 x3
  go_wp2_with fail
  refine (right_at (gp := gp) false (HS12.out z2 HZ2.out.up).2.2.2.2.2.2.2.2.2.2.2.2.2.2.2.1.2.2 (by decide)).mono ?_
  rintro e z3 ⟨rfl, hZ3⟩
  clear x0 x1 x2 x3
  have HZ3 := Lib.hid (HZ2.out.trans hZ3 fun _ h => h.elim)
  clear hZ3 HZ2
  have hpz := HP12.out.1.kept HZ3.out id
  have y0 : z3.cell? ⟨gp, 0, none⟩ = some (.int .i64 2) := hpz.cell 0
  have y1 : z3.cell? ⟨gp, 1, none⟩ = some (.slice (some ⟨g0, 0, none⟩) 2 2) := hpz.cell 1
  have y2 : z3.cell? ⟨gp, 2, none⟩ = some (.bool true) := hpz.cell 2
  clear hpz
  go_wp2_with fail
  refine (pipes_at (gp := gp) true (pp_new z3 gp _ 2 true [5, 6] (HS12.out z3 HZ3.out.up).2.2.2.2.2.2.2.2.2.2.2.2.2.2.2.2 (by have := HP12.out.2.2.1; have := HZ3.out.size; omega)) (by decide)).mono ?_
  rintro e z4 ⟨rfl, hZ4'⟩
  have hZ4 := ((Frm.refl (fun _ => False) z3).alloc (.cells #[.int .i64 2, .slice (some ⟨g0, 0, none⟩) 2 2, .bool true] 46)).trans hZ4' fun _ h => h.elim
  clear y0 y1 y2 hZ4'
  have HZ4 := Lib.hid (HZ3.out.trans hZ4 fun _ h => h.elim)
  clear hZ4 HZ3
  go_wp2_with fail
  refine (pipes_at (gp := gp) false (pp_new z4 gp _ 0 false [] (Sl.nil_ _ _) (by have := HP12.out.2.2.1; have := HZ4.out.size; omega)) (by decide)).mono ?_
  rintro e z5 ⟨rfl, hZ5'⟩
  have hZ5 := ((Frm.refl (fun _ => False) z4).alloc (.cells #[.int .i64 0, .slice none 0 0, .bool false] 46)).trans hZ5' fun _ h => h.elim
  clear hZ5'
  have HZ5 := Lib.hid (HZ4.out.trans hZ5 fun _ h => h.elim)
  clear hZ5 HZ4
  obtain ⟨x0, x1, x2, x3⟩ := (HS12.out z5 HZ5.out.up).2.2.2.2.2.2.2.2.2.2.2.2.2.2.2.1.cells
  dsimp only [c0, d0] at x0 x1 x2 x3
  go_wp2_with fail
  refine (same_at (gp := gp) true (HS12.out z5 HZ5.out.up).2.2.2.2.2.2.2.2.2.2.2.2.2.2.2.1.2.2 (HS12.out z5 HZ5.out.up).2.2.2.2.2.2.2.2.2.2.2.2.2.2.2.1.2.2 (by decide)).mono ?_
  rintro e z6 ⟨rfl, hZ6⟩
  clear x0 x1 x2 x3
  have HZ6 := Lib.hid (HZ5.out.trans hZ6 fun _ h => h.elim)
  clear hZ6 HZ5
  obtain ⟨x0, x1, x2, x3⟩ := (HS12.out z6 HZ6.out.up).2.2.2.2.2.2.2.2.2.2.2.2.2.2.2.1.cells
  dsimp only [c0, d0] at x0 x1 x2 x3
  obtain ⟨y0, y1, y2, y3⟩ := (HS12.out z6 HZ6.out.up).2.2.2.2.2.2.2.2.2.2.2.2.2.2.1.cells
  dsimp only [c0, d0] at y0 y1 y2 y3
  go_wp2_with fail
  refine (same_at (gp := gp) false (HS12.out z6 HZ6.out.up).2.2.2.2.2.2.2.2.2.2.2.2.2.2.2.1.2.2 (HS12.out z6 HZ6.out.up).2.2.2.2.2.2.2.2.2.2.2.2.2.2.1.2.2 (by decide)).mono ?_
  rintro e z7 ⟨rfl, hZ7⟩
  clear x0 x1 x2 x3 y0 y1 y2 y3
  have HZ7 := Lib.hid (HZ6.out.trans hZ7 fun _ h => h.elim)
  clear hZ7 HZ6
  go_wp2_with fail
  refine (alike_at (gp := gp) true (HS12.out z7 HZ7.out.up).2.2.2.2.2.2.2.2.2.2.2.2.2.1 (HS12.out z7 HZ7.out.up).2.2.2.2.2.2.2.2.2.2.2.2.2.1 (by decide)).mono ?_
  rintro e z8 ⟨rfl, hZ8⟩
  have HZ8 := Lib.hid (HZ7.out.trans hZ8 fun _ h => h.elim)
  clear hZ8 HZ7
  go_wp2_with fail
  refine (alike_at (gp := gp) false (HS12.out z8 HZ8.out.up).2.2.2.2.2.2.2.2.2.2.2.2.2.1 (HS12.out z8 HZ8.out.up).2.2.2.2.2.2.2.2.2.2.2.1 (by decide)).mono ?_
  rintro e z9 ⟨rfl, hZ9⟩
  have HZ9 := Lib.hid (HZ8.out.trans hZ9 fun _ h => h.elim)
  clear hZ9 HZ8
  go_wp2_with fail
  go_ret
  exact ⟨by rfl, HP12.out.2.1.trans HZ9.out fun _ h => h.elim⟩
end Go.Proofs.Ytbfcpapehfdphaa
