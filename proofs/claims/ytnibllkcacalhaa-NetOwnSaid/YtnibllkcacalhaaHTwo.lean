/- The walk of teasellaw24.two: a net of two chores and a pipe. -/
import Derived.Test.YtnibllkcacalhaaGG
namespace Go.Proofs.Ytnibllkcacalhaa
set_option maxRecDepth 100000
open Go.RowKit
def twoN (cl : Bool) : Nt := ⟨[⟨1, [], false⟩], [⟨[⟨1, 0, 5⟩, ⟨1, 0, 6⟩] ++ (if cl then [⟨4, 0, 0⟩] else []), 0, 0, 0⟩, ⟨[⟨2, 0, 0⟩, ⟨2, 0, 0⟩, ⟨2, 0, 0⟩], 0, 0, 0⟩]⟩
theorem slz_at {w : World} {g : Nat} {t : TypeId} {cs : Array Value} (h : Blk w g t cs) (sz n : Nat) (xs : List Value) (hx : cs.toList = xs) (hl : xs.length = n * sz) (hn : n ≤ 1000) : SlZ w (fun q => q = g) sz (.slice (some ⟨g, 0, none⟩) n n) xs :=
  ⟨_, n, n, rfl, hl, Nat.le_refl _, by omega, .inr ⟨g, 0, rfl, rfl, fun i hi => by
    rw [h.cell, Nat.zero_add, ← Array.getElem?_toList, hx]
    exact List.getElem?_eq_getElem hi⟩⟩
theorem two_res (tmps : Array Value) (w : World) (g : Nat) (vp vc : Value) (hp : tmps.getD 2 undef = .pointer (some ⟨g, 0, none⟩))
    (hg : w.heap[g]? = some (.cells #[vp, vc] 25 (0, 0))) : (results Try.f34 tmps).run Try.prog w = .ok (.agg #[vp, vc]) w := by
  have hp' : tmps[2]?.getD undef = .pointer (some ⟨g, 0, none⟩) := by simpa using hp
  have c0 : w.cell? ⟨g, 0, none⟩ = some vp := cell_of_row w g 0 _ _ _ hg
  have c1 : w.cell? ⟨g, 1, none⟩ = some vc := cell_of_row w g 1 _ _ _ hg
  simp [results, Try.results34, go_sem, hp', asAddr, c0, c1]
def CellsOf (w : World) (B q : Nat) : Prop := B ≤ q ∧ ∃ cs t fr, w.heap[q]? = some (.cells cs t fr)
theorem SlZ.cellsIn0 {w : World} {K : Nat → Prop} {sz : Nat} {v : Value} {xs : List Value} (h : SlZ w K sz v xs) (hs : 0 < sz) : SlZ w (fun q => K q ∧ ∃ cs t fr, w.heap[q]? = some (.cells cs t fr)) sz v xs := by
  obtain ⟨A, n, c, rfl, hn, hc, hm, hx⟩ := h
  refine ⟨A, n, c, rfl, hn, hc, hm, ?_⟩
  rcases Nat.eq_zero_or_pos n with h0 | h0
  · exact .inl h0
  · obtain ⟨g, o, rfl, hK, hcs⟩ := hx.resolve_left (by omega)
    refine .inr ⟨g, o, rfl, ⟨hK, ?_⟩, hcs⟩
    have hp : 0 < xs.length := by rw [hn]; exact Nat.mul_pos h0 hs
    have := hcs 0 hp
    unfold World.cell? at this
    cases ho : w.heap[g]? with
    | none => simp [ho] at this
    | some o' =>
      rw [ho] at this
      cases o' with
      | cells cs t fr => exact ⟨cs, t, fr, rfl⟩
      | _ => simp at this
theorem NV.cellsIn0 {w : World} {K : Nat → Prop} {B : Nat} {V : Value} {N : Nt} (h : NV w K V N) (hK : ∀ q, K q → B ≤ q) : NV w (CellsOf w B) V N := by
  obtain ⟨A1, n1, c1, A, n, c, rfl, ps, cks, h1, h2, h3, h4⟩ := h
  refine ⟨A1, n1, c1, A, n, c, rfl, ps, cks, ⟨(h1.1.cellsIn0 (by omega)).keptTo fun q hq => ⟨rfl, hK q hq.1, hq.2⟩, fun p hp => ?_⟩, ⟨(h2.1.cellsIn0 (by omega)).keptTo fun q hq => ⟨rfl, hK q hq.1, hq.2⟩, fun k hk => ?_⟩, h3, h4⟩
  · exact Sl.ofZ ((((h1.2 p hp).toZ).cellsIn0 (by omega)).keptTo fun q hq => ⟨rfl, hK q hq.1, hq.2⟩)
  · exact SlZ.keptTo (SlZ.cellsIn0 (sz := 3) (h2.2 k hk) (by omega)) fun q hq => ⟨rfl, hK q hq.1, hq.2⟩
theorem CellsOf.lt {w : World} {B q : Nat} (h : CellsOf w B q) : q < w.heap.size := by
  obtain ⟨-, cs, t, fr, h⟩ := h
  exact lt_heap h
/-- A net whose value is told. -/
def NetV (N : Nt) (w : World) (e : Ending) (w' : World) : Prop := ∃ V, e = .returned V ∧ NV w' (CellsOf w' w.heap.size) V N ∧ Frm (fun _ => False) w w'
/-- The net's parts, in memory. -/
theorem two_nv {w W : World} {cl : Bool} {Gp Gc Gr : Nat} {A : Option Addr} {n c : Nat} (h1 : Blk W Gp 52 #[.int .i64 1, .slice none 0 0, .bool false]) (hr : RAt W (fun q => w.heap.size ≤ q) (.slice A n c) ([⟨1, 0, 5⟩, ⟨1, 0, 6⟩] ++ (if cl then [⟨4, 0, 0⟩] else [])))
    (h2 : Blk W Gr 49 #[.int .u8 2, .int .i64 0, .int .u32 0, .int .u8 2, .int .i64 0, .int .u32 0, .int .u8 2, .int .i64 0, .int .u32 0])
    (h3 : Blk W Gc 46 #[.slice A n c, .int .i64 0, .int .u32 0, .int .i64 0, .slice (some ⟨Gr, 0, none⟩) 3 3, .int .i64 0, .int .u32 0, .int .i64 0]) (hG : w.heap.size ≤ Gp ∧ w.heap.size ≤ Gc ∧ w.heap.size ≤ Gr) :
    NV W (CellsOf W w.heap.size) (.agg #[.slice (some ⟨Gp, 0, none⟩) 1 1, .slice (some ⟨Gc, 0, none⟩) 2 2]) (twoN cl) := by
  have hn : NV W (fun q => w.heap.size ≤ q) (.agg #[.slice (some ⟨Gp, 0, none⟩) 1 1, .slice (some ⟨Gc, 0, none⟩) 2 2]) (twoN cl) := by
    refine ⟨_, _, _, _, _, _, rfl, [⟨.slice none 0 0, ⟨1, [], false⟩⟩], [⟨.slice A n c, ⟨[⟨1, 0, 5⟩, ⟨1, 0, 6⟩] ++ (if cl then [⟨4, 0, 0⟩] else []), 0, 0, 0⟩⟩, ⟨.slice (some ⟨Gr, 0, none⟩) 3 3, ⟨[⟨2, 0, 0⟩, ⟨2, 0, 0⟩, ⟨2, 0, 0⟩], 0, 0, 0⟩⟩], ⟨?_, ?_⟩, ⟨?_, ?_⟩, rfl, rfl⟩
    · exact (slz_at h1 3 1 _ rfl rfl (by omega)).keptTo fun q hq => ⟨rfl, by rw [hq]; exact hG.1⟩
    · intro p hp
      simp at hp; subst hp
      exact Sl.nil_ _ _
    · exact (slz_at h3 4 2 _ rfl rfl (by omega)).keptTo fun q hq => ⟨rfl, by rw [hq]; exact hG.2.1⟩
    · intro k hk
      simp at hk
      rcases hk with rfl | rfl
      · exact hr
      · exact SlZ.keptTo (slz_at h2 3 3 _ rfl rfl (by omega)) fun q hq => ⟨rfl, by rw [hq]; exact hG.2.2⟩
  exact hn.cellsIn0 fun q hq => hq
theorem blk_at {w : World} {t : TypeId} {cs : Array Value} {k : Nat} (h : k = w.heap.size) : Blk (w.alloc (.cells cs t)) k t cs := by subst h; exact Blk.new w _ _
theorem frm_at {w w' : World} (o : Obj) (h : Frm (fun _ => False) w w') : Frm (fun _ => False) w (w'.alloc o) := h.alloc o
set_option maxRecDepth 100000 in
set_option maxHeartbeats 3200000 in
theorem two_no (w : World) : Calls Try.prog 34 #[.bool false] w (NetV (twoN false) w) := by
  go_enter Try.func34, Try.ntmps34
  go_wp2_with fail
  generalize hW : World.alloc _ _ = W
  have hb2 : Blk W w.heap.size 25 #[.slice (some ⟨w.heap.size + 1 + 1 + 1 + 1, 0, none⟩) 1 1, .slice (some ⟨w.heap.size + 1 + 1 + 1 + 1 + 1 + 1, 0, none⟩) 2 2] := by
    rw [← hW]; repeat (first | exact blk_at (by simp) | refine Blk.alloc ?_ _)
  have hp : Blk W (w.heap.size + 1 + 1 + 1 + 1) 52 #[.int .i64 1, .slice none 0 0, .bool false] := by
    rw [← hW]; repeat (first | exact blk_at (by simp) | refine Blk.alloc ?_ _)
  have hr : Blk W (w.heap.size + 1) 49 #[.int .u8 1, .int .i64 0, .int .u32 5, .int .u8 1, .int .i64 0, .int .u32 6] := by
    rw [← hW]; repeat (first | exact blk_at (by simp) | refine Blk.alloc ?_ _)
  have hg : Blk W (w.heap.size + 1 + 1 + 1 + 1 + 1) 49 #[.int .u8 2, .int .i64 0, .int .u32 0, .int .u8 2, .int .i64 0, .int .u32 0, .int .u8 2, .int .i64 0, .int .u32 0] := by
    rw [← hW]; repeat (first | exact blk_at (by simp) | refine Blk.alloc ?_ _)
  have hc : Blk W (w.heap.size + 1 + 1 + 1 + 1 + 1 + 1) 46 #[.slice (some ⟨w.heap.size + 1, 0, none⟩) 2 2, .int .i64 0, .int .u32 0, .int .i64 0, .slice (some ⟨w.heap.size + 1 + 1 + 1 + 1 + 1, 0, none⟩) 3 3, .int .i64 0, .int .u32 0, .int .i64 0] := by
    rw [← hW]; repeat (first | exact blk_at (by simp) | refine Blk.alloc ?_ _)
  have hF : Frm (fun _ => False) w W := by rw [← hW]; repeat (first | exact Frm.refl _ _ | refine frm_at _ ?_)
  clear hW
  refine bodyPost_ret (two_res _ _ w.heap.size _ _ rfl hb2) rfl ?_
  exact ⟨_, rfl, two_nv hp (SlZ.keptTo (slz_at hr 3 2 _ rfl rfl (by omega)) fun q hq => ⟨rfl, by omega⟩) hg hc ⟨by omega, by omega, by omega⟩, hF⟩
theorem infoEr : ∃ i, Try.prog.info? 49 = some i ∧ i.zero = some (.agg #[.int .u8 0, .int .i64 0, .int .u32 0]) ∧ i.size = 3 ∧ i.bytes = 24 := info_parts (by kernel_rfl)
theorem own_blk3 {w : World} {g : Nat} {t : TypeId} {cs : Array Value} {xs : List Value} {n : Nat} (h : Blk w g t cs) (hx : cs.toList = xs) (hl : xs.length = n * 3) (hn : n ≤ 1000) (base : Nat) (hb : base ≤ g) : w.ownsRow base t 3 (.slice (some ⟨g, 0, none⟩) n n) n xs :=
  ⟨hl, .inr ⟨g, n, cs, rfl, hb, h, Nat.le_refl _, by unfold maxLen; omega, by rw [← Array.length_toList, hx, hl], by rw [← hl, hx, List.take_length]⟩⟩
set_option maxRecDepth 100000 in
set_option maxHeartbeats 3200000 in
theorem two_yes (w : World) : Calls Try.prog 34 #[.bool true] w (NetV (twoN true) w) := by
  obtain ⟨i0, hi, hz0, hz1, hz2⟩ := infoEr
  obtain ⟨G, hG⟩ : ∃ G, G = w.heap.size := ⟨_, rfl⟩
  go_enter Try.func34, Try.ntmps34
  go_upto_region 3 with fail
  generalize hW : World.alloc _ _ = W
  have hb2 : Blk W w.heap.size 25 #[.slice none 0 0, .slice none 0 0] := by
    rw [← hW]; repeat (first | exact blk_at (by simp) | refine Blk.alloc ?_ _)
  have hr : Blk W (w.heap.size + 1) 49 #[.int .u8 1, .int .i64 0, .int .u32 5, .int .u8 1, .int .i64 0, .int .u32 6] := by
    rw [← hW]; repeat (first | exact blk_at (by simp) | refine Blk.alloc ?_ _)
  have hc : Blk W (w.heap.size + 1 + 1) 46 #[.slice (some ⟨w.heap.size + 1, 0, none⟩) 2 2, .int .i64 0, .int .u32 0, .int .i64 0] := by
    rw [← hW]; repeat (first | exact blk_at (by simp) | refine Blk.alloc ?_ _)
  have hF : Frm (fun _ => False) w W := by rw [← hW]; repeat (first | exact Frm.refl _ _ | refine frm_at _ ?_)
  rw [← hG] at hb2 hr hc ⊢
  have x0 : W.cell? ⟨G + 1 + 1, 0, none⟩ = some (.slice (some ⟨G + 1, 0, none⟩) 2 2) := hc.cell 0
  have H := Lib.hid (And.intro hF (And.intro hb2 (And.intro hr (And.intro hc hG))))
  have hs : G + 1 + 1 < W.heap.size := hc.lt
  have hoa := own_blk3 (xs := [.int .u8 1, .int .i64 0, .int .u32 5, .int .u8 1, .int .i64 0, .int .u32 6]) (n := 2) hr rfl rfl (by omega) (G + 1) (Nat.le_refl _)
  have HO := Lib.hid hoa
  clear hW hF hb2 hr hc hG hoa
  go_upto_region 4 with (at_builtin; go_loud (refine wpList_append_slz (by rfl) _ _ 43 (by rfl) (G + 1) 49 i0 _ 3 24 Try.underlying43 hi hz0 hz1 hz2 (by rfl) (by decide) _ 2 _ (by rfl) (((Frm.refl (fun _ => False) W).alloc _).own HO.out fun _ _ => id) (fun q => q = W.heap.size) _ 1 [.int .u8 4, .int .i64 0, .int .u32 0] (by rfl) (SlZ.blk3 W _ _ _ _) (by rfl) (by simp [Value.oneCell']) (by unfold maxLen; omega) (by omega) (by simp; omega) ?_); go_loud (intro A6 N6 c6 W6 HN6 hNc6 hcm6 hown6 hg6 hat6; have hF6 : Frm (fun q => q = G + 1) W W6 := ((Frm.refl (fun q => q = G + 1) W).alloc _).grown hg6 (fun q hq => Or.inl (by have h : some (G + 1) = some q := hq; injection h with h; exact h.symm)); have hc6 := H.out.2.2.2.1.kept hF6 (by omega); have f6 := hc6.frozen 0; have e6 : W6.cell? ⟨G + 1 + 1, 0, none⟩ = some (.slice (some ⟨G + 1, 0, none⟩) 2 2) := hc6.cell 0; have H6 := Lib.hid (And.intro hown6 (And.intro hF6 (And.intro hc6 HN6.out))); clear hown6 hF6 hc6 hg6 hat6))
  obtain rfl : N6 = 3 := by have := H6.out.2.2.2; omega
  have hFs : Frm (fun q => q = G + 1 + 1) W6 (W6.setCell ⟨G + 1 + 1, 0, none⟩ (.slice A6 3 c6)) := (Frm.refl (fun q => q = G + 1 + 1) W6).setCell ⟨G + 1 + 1, 0, none⟩ (.inl rfl) _
  have hc7 : Blk (W6.setCell ⟨G + 1 + 1, 0, none⟩ (.slice A6 3 c6)) (G + 1 + 1) 46 #[.slice A6 3 c6, .int .i64 0, .int .u32 0, .int .i64 0] := H6.out.2.2.1.set_ 0 _
  have ho7 := hFs.own H6.out.1 fun q hq hk => own_blk_ne H6.out.1 H6.out.2.2.1 (by decide) (by rw [hq, hk])
  have hn7 := (H.out.2.1.kept H6.out.2.1 (by omega)).kept hFs (by omega)
  have hF7 : Frm (fun _ => False) w (W6.setCell ⟨G + 1 + 1, 0, none⟩ (.slice A6 3 c6)) := (H.out.1.trans H6.out.2.1 fun q hq => .inr (by have := H.out.2.2.2.2; omega)).trans hFs fun q hq => .inr (by have := H.out.2.2.2.2; omega)
  generalize W6.setCell ⟨G + 1 + 1, 0, none⟩ (.slice A6 3 c6) = W7 at *
  have H7 := Lib.hid (And.intro hc7 (And.intro ho7 (And.intro hn7 hF7)))
  clear hc7 ho7 hn7 hF7 hFs e6 f6 H6 x0 hs
  go_upto_region 5 with fail
  obtain ⟨K, hK⟩ : ∃ K, K = W7.heap.size := ⟨_, rfl⟩
  have hF8 : Frm (fun _ => False) W7 (W7.alloc (.cells #[.int .u8 2, .int .i64 0, .int .u32 0] 49)) := (Frm.refl _ W7).alloc _
  have hk8 := Blk.new W7 49 #[.int .u8 2, .int .i64 0, .int .u32 0]
  rw [← hK] at hk8 ⊢
  generalize W7.alloc (.cells #[.int .u8 2, .int .i64 0, .int .u32 0] 49) = W8 at *
  have hc8 := H7.out.1.kept hF8 id
  have hn8 := H7.out.2.2.1.kept hF8 id
  have hcP := hc8.alloc (.cells #[.int .i64 1, .slice none 0 0, .bool false] 52)
  have hkP := hk8.alloc (.cells #[.int .i64 1, .slice none 0 0, .bool false] 52)
  have y0 : (W8.alloc (.cells #[.int .i64 1, .slice none 0 0, .bool false] 52)).cell? ⟨G + 1 + 1, 0, none⟩ = some (.slice A6 3 c6) := hcP.cell 0
  have y1 : (W8.alloc (.cells #[.int .i64 1, .slice none 0 0, .bool false] 52)).cell? ⟨G + 1 + 1, 1, none⟩ = some (.int .i64 0) := hcP.cell 1
  have y2 : (W8.alloc (.cells #[.int .i64 1, .slice none 0 0, .bool false] 52)).cell? ⟨G + 1 + 1, 2, none⟩ = some (.int .u32 0) := hcP.cell 2
  have y3 : (W8.alloc (.cells #[.int .i64 1, .slice none 0 0, .bool false] 52)).cell? ⟨G + 1 + 1, 3, none⟩ = some (.int .i64 0) := hcP.cell 3
  have k0 : (W8.alloc (.cells #[.int .i64 1, .slice none 0 0, .bool false] 52)).cell? ⟨K, 0, none⟩ = some (.int .u8 2) := hkP.cell 0
  have k1 : (W8.alloc (.cells #[.int .i64 1, .slice none 0 0, .bool false] 52)).cell? ⟨K, 1, none⟩ = some (.int .i64 0) := hkP.cell 1
  have k2 : (W8.alloc (.cells #[.int .i64 1, .slice none 0 0, .bool false] 52)).cell? ⟨K, 2, none⟩ = some (.int .u32 0) := hkP.cell 2
  obtain ⟨W9, hW9⟩ : ∃ W, W = ((W8.alloc (.cells #[.int .i64 1, .slice none 0 0, .bool false] 52)).alloc (.cells #[.int .u8 2, .int .i64 0, .int .u32 0, .int .u8 2, .int .i64 0, .int .u32 0, .int .u8 2, .int .i64 0, .int .u32 0] 49)).alloc (.cells #[.slice A6 3 c6, .int .i64 0, .int .u32 0, .int .i64 0, .slice (some ⟨W8.heap.size + 1, 0, none⟩) 3 3, .int .i64 0, .int .u32 0, .int .i64 0] 46) := ⟨_, rfl⟩
  have hF9 : Frm (fun _ => False) W8 W9 := by rw [hW9]; exact (((Frm.refl _ W8).alloc _).alloc _).alloc _
  have hn9 := hn8.kept hF9 id
  have p9 : Blk W9 W8.heap.size 52 #[.int .i64 1, .slice none 0 0, .bool false] := by rw [hW9]; exact ((Blk.new W8 _ _).alloc _).alloc _
  have e9 : Blk W9 (W8.heap.size + 1) 49 #[.int .u8 2, .int .i64 0, .int .u32 0, .int .u8 2, .int .i64 0, .int .u32 0, .int .u8 2, .int .i64 0, .int .u32 0] := by rw [hW9]; exact (blk_at (by simp)).alloc _
  have c9 : Blk W9 (W8.heap.size + 1 + 1) 46 #[.slice A6 3 c6, .int .i64 0, .int .u32 0, .int .i64 0, .slice (some ⟨W8.heap.size + 1, 0, none⟩) 3 3, .int .i64 0, .int .u32 0, .int .i64 0] := by rw [hW9]; exact blk_at (by simp)
  have z0 : W9.cell? ⟨G, 0, none⟩ = some (.slice none 0 0) := hn9.cell 0
  have z1 : W9.cell? ⟨G, 1, none⟩ = some (.slice none 0 0) := hn9.cell 1
  have f0 := hn9.frozen 0
  have f1 := hn9.frozen 1
  rw [hW9] at z0 z1 f0 f1
  have H9 := Lib.hid (And.intro hF8 (And.intro hF9 (And.intro hn9 (And.intro p9 (And.intro e9 (And.intro c9 hW9))))))
  clear hF8 hF9 hn9 p9 e9 c9 hW9 hk8 hc8 hn8 hcP hkP hK
  go_wp2_with fail
  rw [← H9.out.2.2.2.2.2.2]
  have hGw := H.out.2.2.2.2
  have hs8 : G < W8.heap.size := Nat.lt_of_lt_of_le H7.out.2.2.1.lt H9.out.1.size
  have hF10 : Frm (fun q => q = G) W9 ((W9.setCell ⟨G, 0, none⟩ (.slice (some ⟨W8.heap.size, 0, none⟩) 1 1)).setCell ⟨G, 1, none⟩ (.slice (some ⟨W8.heap.size + 1 + 1, 0, none⟩) 2 2)) := ((Frm.refl (fun q => q = G) W9).setCell ⟨G, 0, none⟩ (.inl rfl) _).setCell ⟨G, 1, none⟩ (.inl rfl) _
  have hn10 : Blk ((W9.setCell ⟨G, 0, none⟩ (.slice (some ⟨W8.heap.size, 0, none⟩) 1 1)).setCell ⟨G, 1, none⟩ (.slice (some ⟨W8.heap.size + 1 + 1, 0, none⟩) 2 2)) G 25 #[.slice (some ⟨W8.heap.size, 0, none⟩) 1 1, .slice (some ⟨W8.heap.size + 1 + 1, 0, none⟩) 2 2] := (H9.out.2.2.1.set_ 0 _).set_ 1 _
  have p10 := H9.out.2.2.2.1.kept hF10 (by omega)
  have e10 := H9.out.2.2.2.2.1.kept hF10 (by omega)
  have c10 := H9.out.2.2.2.2.2.1.kept hF10 (by omega)
  have ho9 := (H9.out.2.1.own (H9.out.1.own H7.out.2.1 fun _ _ => id) fun _ _ => id)
  have ho10 := hF10.own ho9 fun q hq hk => own_blk_ne ho9 H9.out.2.2.1 (by decide) (by rw [hq, hk])
  refine bodyPost_ret (two_res _ _ G _ _ rfl hn10) rfl ?_
  refine ⟨_, rfl, two_nv (cl := true) p10 (SlZ.of_own ho10 fun q hq => by have := (World.ownsRow.lt ho10 q hq).1; omega) e10 c10 ⟨by omega, by omega, by omega⟩, ((H7.out.2.2.2.trans H9.out.1 fun _ h => h.elim).trans H9.out.2.1 fun _ h => h.elim).trans hF10 fun q hq => .inr (by omega)⟩
theorem two_any (cl : Bool) (w : World) : Calls Try.prog 34 #[.bool cl] w (NetV (twoN cl) w) := by
  cases cl
  · exact two_no w
  · exact two_yes w
end Go.Proofs.Ytnibllkcacalhaa
