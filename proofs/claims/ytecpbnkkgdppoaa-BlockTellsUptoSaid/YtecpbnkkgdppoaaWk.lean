/- The walk of teasellaw19.wakes. -/
import Derived.Test.YtecpbnkkgdppoaaWe
import Derived.Lib.SmallJoins
import Derived.Test.YtecpbnkkgdppoaaPlan
namespace Go.Proofs.Ytecpbnkkgdppoaa
open Go.RowKit Go.Shelf
def wAll : List UInt8 := [97, 98, 99, 100, 101, 102, 103]
def wBs : List Bc := [⟨0, 10, 0, [97, 98, 99]⟩, ⟨1, 13, 2, [98, 99, 100, 101, 102]⟩, ⟨2, 16, 2, [101, 102, 103]⟩]
theorem cut3 : Cut 3 3 10 := ⟨by omega, by omega, by omega, by omega, by omega⟩
/-- The wanted blocks, as they are built. -/
def wantBk (g : Nat) : List Bk := [⟨.slice (some ⟨g, 0, none⟩) 3 3, ⟨0, 10, 0, [97, 98, 99]⟩⟩, ⟨.slice (some ⟨g + 1, 0, none⟩) 5 5, ⟨1, 13, 2, [98, 99, 100, 101, 102]⟩⟩, ⟨.slice (some ⟨g + 1 + 1, 0, none⟩) 3 3, ⟨2, 16, 2, [101, 102, 103]⟩⟩]
theorem want_at (w W : World) (g : Nat) (hg : w.heap.size = g)
    (hW : W = (((w.alloc (.cells #[.int .u8 97, .int .u8 98, .int .u8 99] 5 (3, 4))).alloc (.cells #[.int .u8 98, .int .u8 99, .int .u8 100, .int .u8 101, .int .u8 102] 5 (5, 6))).alloc (.cells #[.int .u8 101, .int .u8 102, .int .u8 103] 5 (3, 4))).alloc
      (.cells #[.int .i64 0, .int .i64 10, .int .i64 0, .slice (some ⟨g, 0, none⟩) 3 3, .int .i64 1, .int .i64 13, .int .i64 2, .slice (some ⟨g + 1, 0, none⟩) 5 5, .int .i64 2, .int .i64 16, .int .i64 2, .slice (some ⟨g + 1 + 1, 0, none⟩) 3 3] 40)) :
    BsAt W (fun q => g ≤ q ∧ q < W.heap.size) (some ⟨g + 1 + 1 + 1, 0, none⟩) 3 3 (wantBk g) ∧ Frm (fun _ => False) w W := by
  have s0 := sl_new w 5 #[.int .u8 97, .int .u8 98, .int .u8 99] (3, 4) [97, 98, 99] 3 (by simp [bv]) rfl (by simp)
  have f0 : Frm (fun _ => False) w (w.alloc (.cells #[.int .u8 97, .int .u8 98, .int .u8 99] 5 (3, 4))) := (Frm.refl _ w).alloc _
  have z0 : (w.alloc (.cells #[.int .u8 97, .int .u8 98, .int .u8 99] 5 (3, 4))).heap.size = g + 1 := by simp [hg]
  generalize w.alloc (.cells #[.int .u8 97, .int .u8 98, .int .u8 99] 5 (3, 4)) = w1 at *
  have s1 := sl_new w1 5 #[.int .u8 98, .int .u8 99, .int .u8 100, .int .u8 101, .int .u8 102] (5, 6) [98, 99, 100, 101, 102] 5 (by simp [bv]) rfl (by simp)
  have f1 : Frm (fun _ => False) w1 (w1.alloc (.cells #[.int .u8 98, .int .u8 99, .int .u8 100, .int .u8 101, .int .u8 102] 5 (5, 6))) := (Frm.refl _ w1).alloc _
  have z1 : (w1.alloc (.cells #[.int .u8 98, .int .u8 99, .int .u8 100, .int .u8 101, .int .u8 102] 5 (5, 6))).heap.size = g + 2 := by simp [z0]
  generalize w1.alloc (.cells #[.int .u8 98, .int .u8 99, .int .u8 100, .int .u8 101, .int .u8 102] 5 (5, 6)) = w2 at *
  have s2 := sl_new w2 5 #[.int .u8 101, .int .u8 102, .int .u8 103] (3, 4) [101, 102, 103] 3 (by simp [bv]) rfl (by simp)
  have f2 : Frm (fun _ => False) w2 (w2.alloc (.cells #[.int .u8 101, .int .u8 102, .int .u8 103] 5 (3, 4))) := (Frm.refl _ w2).alloc _
  have z2 : (w2.alloc (.cells #[.int .u8 101, .int .u8 102, .int .u8 103] 5 (3, 4))).heap.size = g + 3 := by simp [z1]
  generalize w2.alloc (.cells #[.int .u8 101, .int .u8 102, .int .u8 103] 5 (3, 4)) = w3 at *
  obtain ⟨cs, hcs⟩ : ∃ cs : Array Value, cs = #[.int .i64 0, .int .i64 10, .int .i64 0, .slice (some ⟨g, 0, none⟩) 3 3, .int .i64 1, .int .i64 13, .int .i64 2, .slice (some ⟨g + 1, 0, none⟩) 5 5, .int .i64 2, .int .i64 16, .int .i64 2, .slice (some ⟨g + 1 + 1, 0, none⟩) 3 3] := ⟨_, rfl⟩
  rw [← hcs] at hW
  have f3 : Frm (fun _ => False) w3 W := by rw [hW]; exact (Frm.refl _ w3).alloc _
  have hb : Blk W (g + 3) 40 cs := by rw [hW, ← z2]; exact Blk.new w3 _ _
  have z3 : W.heap.size = g + 4 := by rw [hW]; simp [z2]
  clear hW
  rw [hg] at s0
  rw [z0] at s1
  rw [z1] at s2
  have t0 : Sl W (fun q => g ≤ q ∧ q < W.heap.size) (.slice (some ⟨g, 0, none⟩) 3 3) (bv [97, 98, 99]) := s0.keptTo fun q hq => ⟨((f1.trans f2 fun _ h => h.elim).trans f3 fun _ h => h.elim).block q (by omega) id, by omega, by omega⟩
  have t1 : Sl W (fun q => g ≤ q ∧ q < W.heap.size) (.slice (some ⟨g + 1, 0, none⟩) 5 5) (bv [98, 99, 100, 101, 102]) := s1.keptTo fun q hq => ⟨(f2.trans f3 fun _ h => h.elim).block q (by omega) id, by omega, by omega⟩
  have t2 : Sl W (fun q => g ≤ q ∧ q < W.heap.size) (.slice (some ⟨g + 1 + 1, 0, none⟩) 3 3) (bv [101, 102, 103]) := s2.keptTo fun q hq => ⟨f3.block q (by omega) id, by omega, by omega⟩
  refine ⟨⟨rfl, Nat.le_refl _, by omega, fun i hi => ⟨g + 3, 0, rfl, ⟨by omega, by omega⟩, ?_⟩⟩, ((f0.trans f1 fun _ h => h.elim).trans f2 fun _ h => h.elim).trans f3 fun _ h => h.elim⟩
  have hc : ∀ k v, cs[k]? = some v → W.cell? ⟨g + 3, 0 + k, none⟩ = some v := fun k v hv => by rw [Nat.zero_add]; exact (hb.cell k).trans hv
  subst hcs
  match i, hi with
  | 0, _ => exact ⟨hc 0 _ rfl, hc 1 _ rfl, hc 2 _ rfl, hc 3 _ rfl, t0⟩
  | 1, _ => exact ⟨hc 4 _ rfl, hc 5 _ rfl, hc 6 _ rfl, hc 7 _ rfl, t1⟩
  | 2, _ => exact ⟨hc 8 _ rfl, hc 9 _ rfl, hc 10 _ rfl, hc 11 _ rfl, t2⟩
/-- The chunks, as they are built. -/
theorem chunks_at (w W : World) (g : Nat) (hg : w.heap.size = g)
    (hW : W = ((w.alloc (.cells #[.int .u8 97, .int .u8 98] 5 (2, 3))).alloc (.cells #[.int .u8 99, .int .u8 100, .int .u8 101, .int .u8 102, .int .u8 103] 5 (5, 6))).alloc (.cells #[.slice (some ⟨g, 0, none⟩) 2 2, .slice none 0 0, .slice (some ⟨g + 1, 0, none⟩) 5 5] 22)) :
    Sl W (fun q => g ≤ q ∧ q < W.heap.size) (.slice (some ⟨g + 1 + 1, 0, none⟩) 3 3) [.slice (some ⟨g, 0, none⟩) 2 2, .slice none 0 0, .slice (some ⟨g + 1, 0, none⟩) 5 5] ∧
      Each W (fun q => g ≤ q ∧ q < W.heap.size) [.slice (some ⟨g, 0, none⟩) 2 2, .slice none 0 0, .slice (some ⟨g + 1, 0, none⟩) 5 5] [[97, 98], [], [99, 100, 101, 102, 103]] ∧ Frm (fun _ => False) w W := by
  have s0 := sl_new w 5 #[.int .u8 97, .int .u8 98] (2, 3) [97, 98] 2 (by simp [bv]) rfl (by simp)
  have f0 : Frm (fun _ => False) w (w.alloc (.cells #[.int .u8 97, .int .u8 98] 5 (2, 3))) := (Frm.refl _ w).alloc _
  have z0 : (w.alloc (.cells #[.int .u8 97, .int .u8 98] 5 (2, 3))).heap.size = g + 1 := by simp [hg]
  generalize w.alloc (.cells #[.int .u8 97, .int .u8 98] 5 (2, 3)) = w1 at *
  have s1 := sl_new w1 5 #[.int .u8 99, .int .u8 100, .int .u8 101, .int .u8 102, .int .u8 103] (5, 6) [99, 100, 101, 102, 103] 5 (by simp [bv]) rfl (by simp)
  have f1 : Frm (fun _ => False) w1 (w1.alloc (.cells #[.int .u8 99, .int .u8 100, .int .u8 101, .int .u8 102, .int .u8 103] 5 (5, 6))) := (Frm.refl _ w1).alloc _
  have z1 : (w1.alloc (.cells #[.int .u8 99, .int .u8 100, .int .u8 101, .int .u8 102, .int .u8 103] 5 (5, 6))).heap.size = g + 2 := by simp [z0]
  generalize w1.alloc (.cells #[.int .u8 99, .int .u8 100, .int .u8 101, .int .u8 102, .int .u8 103] 5 (5, 6)) = w2 at *
  have f2 : Frm (fun _ => False) w2 W := by rw [hW]; exact (Frm.refl _ w2).alloc _
  have hb : Blk W (g + 2) 22 #[.slice (some ⟨g, 0, none⟩) 2 2, .slice none 0 0, .slice (some ⟨g + 1, 0, none⟩) 5 5] := by rw [hW, ← z1]; exact Blk.new w2 _ _
  have z2 : W.heap.size = g + 3 := by rw [hW]; simp [z1]
  clear hW
  rw [hg] at s0
  rw [z0] at s1
  have t0 : Sl W (fun q => g ≤ q ∧ q < W.heap.size) (.slice (some ⟨g, 0, none⟩) 2 2) (bv [97, 98]) := s0.keptTo fun q hq => ⟨(f1.trans f2 fun _ h => h.elim).block q (by omega) id, by omega, by omega⟩
  have t1 : Sl W (fun q => g ≤ q ∧ q < W.heap.size) (.slice (some ⟨g + 1, 0, none⟩) 5 5) (bv [99, 100, 101, 102, 103]) := s1.keptTo fun q hq => ⟨f2.block q (by omega) id, by omega, by omega⟩
  have tn : Sl W (fun q => g ≤ q ∧ q < W.heap.size) (.slice none 0 0) (bv []) := ⟨none, 0, 0, rfl, rfl, Nat.le_refl _, by omega, .inl rfl⟩
  refine ⟨⟨_, 3, 3, rfl, rfl, Nat.le_refl _, by omega, .inr ⟨g + 2, 0, rfl, ⟨by omega, by omega⟩, fun i hi => ?_⟩⟩, ?_, (f0.trans f1 fun _ h => h.elim).trans f2 fun _ h => h.elim⟩
  · rw [Nat.zero_add]
    refine (hb.cell i).trans ?_
    rw [← Array.getElem?_toList]
    exact List.getElem?_eq_getElem hi
  · exact ((Each.cons (L := []) (vs := []) ⟨rfl, fun _ _ _ h => by simp at h⟩ t1).cons tn).cons t0
theorem sizeB : ∀ w, (sizeOf 40).run Try.prog w = .ok 4 w := fun w => by
  obtain ⟨i0, hi, hz0, hz1, hz2⟩ := info_parts infoB
  simp [sizeOf, typeInfo, hi, hz1]
theorem all_true (K : Nat → Prop) (A A' : Option Addr) (m c m' c' : Nat) (xs ys : List Bk) (w : World) (hx : BsAt w K A m c xs) (hy : BsAt w K A' m' c' ys) (hK : ∀ q, K q → q < w.heap.size) (h : xs.map (·.c) = ys.map (·.c)) :
    Calls Try.prog 15 #[.slice A m c, .slice A' m' c'] w fun e w' => e = .returned (.bool true) ∧ Frm (fun _ => False) w w' :=
  (all_any K A A' m c m' c' xs ys w hx hy hK).mono fun e w' ⟨he, hF⟩ => ⟨by rw [he, decide_eq_true h], hF⟩
theorem CutAt.keptF {w w' : World} {B b S L F : Nat} {t : List UInt8} (h : CutAt w B b S L F t) (hF : Frm (fun _ => False) w w') : CutAt w' B b S L F t := by
  obtain ⟨v, h⟩ := h
  exact ⟨v, h.keptF hF⟩
theorem ShutAt.keptF {w w' : World} {b S L F : Nat} (h : ShutAt w b S L F) (hF : Frm (fun _ => False) w w') : ShutAt w' b S L F := by
  obtain ⟨v, h⟩ := h
  exact ⟨v, h.kept hF id⟩
theorem bk3 (ls : List Bk) (h : ls.map (·.c) = wBs) : ∃ v0 v1 v2, ls = [⟨v0, ⟨0, 10, 0, [97, 98, 99]⟩⟩, ⟨v1, ⟨1, 13, 2, [98, 99, 100, 101, 102]⟩⟩, ⟨v2, ⟨2, 16, 2, [101, 102, 103]⟩⟩] := by
  match ls, h with
  | [⟨v0, c0⟩, ⟨v1, c1⟩, ⟨v2, c2⟩], h =>
    simp only [wBs, List.map_cons, List.map_nil, List.cons.injEq, and_true] at h
    obtain ⟨rfl, rfl, rfl⟩ := h
    exact ⟨v0, v1, v2, rfl⟩
  | [], h => simp [wBs] at h
  | [_], h => simp [wBs] at h
  | [_, _], h => simp [wBs] at h
  | _ :: _ :: _ :: _ :: _, h => simp [wBs] at h
def Lk (v0 v1 v2 : Value) : List Bk := [⟨v0, ⟨0, 10, 0, [97, 98, 99]⟩⟩, ⟨v1, ⟨1, 13, 2, [98, 99, 100, 101, 102]⟩⟩, ⟨v2, ⟨2, 16, 2, [101, 102, 103]⟩⟩]
theorem lcells {w : World} {K : Nat → Prop} {g o c : Nat} {v0 v1 v2 : Value} (h : BsAt w K (some ⟨g, o, none⟩) 3 c (Lk v0 v1 v2)) :
    (w.cell? ⟨g, o + 4, none⟩ = some (.int .i64 1) ∧ w.cell? ⟨g, o + 5, none⟩ = some (.int .i64 13) ∧ w.cell? ⟨g, o + 6, none⟩ = some (.int .i64 2) ∧ w.cell? ⟨g, o + 7, none⟩ = some v1) ∧
    (w.cell? ⟨g, o + 8, none⟩ = some (.int .i64 2) ∧ w.cell? ⟨g, o + 9, none⟩ = some (.int .i64 16) ∧ w.cell? ⟨g, o + 10, none⟩ = some (.int .i64 2) ∧ w.cell? ⟨g, o + 11, none⟩ = some v2) ∧
    Sl w K v1 (bv [98, 99, 100, 101, 102]) ∧ Sl w K v2 (bv [101, 102, 103]) := by
  obtain ⟨-, -, -, h4⟩ := h
  obtain ⟨g1, o1, e1, -, a0, a1, a2, a3, a4⟩ := h4 1 (by simp [Lk])
  cases e1
  obtain ⟨g2, o2, e2, -, b0, b1, b2, b3, b4⟩ := h4 2 (by simp [Lk])
  cases e2
  exact ⟨⟨a0, a1, a2, a3⟩, ⟨b0, b1, b2, b3⟩, a4, b4⟩
theorem conv_new {w : World} {K : Nat → Prop} {v : Value} {l : List UInt8} (h : Sl w K v (bv l)) : (convert 22 9 v).run Try.prog w = .ok (.string ⟨l.toArray⟩) w := run_conv (P := Try.prog) (dst := 9) Try.underlying22 Try.underlying5 Try.underlying9 h
theorem join7 (b c : Nat) (v0 v1 v2 : Value) (A : Option Addr) (w : World) (h : BsAt w (Bb b w) A 3 c (Lk v0 v1 v2)) :
    Calls Try.prog 16 #[.slice A 3 c] w fun e w' => ∃ A' c', e = .returned (.slice A' 7 c') ∧ (convert 22 9 (.slice A' 7 c')).run Try.prog w' = .ok (.string ⟨#[97, 98, 99, 100, 101, 102, 103]⟩) w' ∧ Frm (fun _ => False) w w' := by
  have hj : joinN ((Lk v0 v1 v2).map (·.c)) = [97, 98, 99, 100, 101, 102, 103] := rfl
  refine (bjoin_any (Bb b w) A 3 c (Lk v0 v1 v2) w h (fun q hq => hq.2) (fun x hx => ?_) (by rw [hj]; decide)).mono ?_
  · simp only [Lk, List.mem_cons, List.not_mem_nil, or_false] at hx
    rcases hx with rfl | rfl | rfl <;> exact ⟨by show (0 : Int) ≤ _; simp, by show _ ≤ ((List.length _ : Nat) : Int); simp⟩
  · rintro e w' ⟨v, rfl, ho, hF⟩
    rw [hj] at ho
    obtain ⟨A', c', rfl, -, -⟩ := own_form ho
    exact ⟨A', c', rfl, conv_new (OSl.of_own (K := fun _ => True) (xs := bv [97, 98, 99, 100, 101, 102, 103]) ho (fun _ _ => trivial)).sl, hF⟩
set_option maxRecDepth 100000 in
set_option maxHeartbeats 8000000 in
theorem wakes_any (w : World) : Calls Try.prog 10 #[] w fun e w' => e = .returned (.bool true) ∧ Frm (fun _ => False) w w' := by
  have kc := fun (w : World) (C : Array Value) (n c g : Nat) (hg : g = w.heap.size) => Joins.run_convert_bytes_const_at (P := Try.prog) w 22 5 C n c g hg Try.underlying22 Try.underlying5
  go_enter Try.func10, Try.ntmps10
  go_wp2_with fail
  refine (of_eq 3 3 10 wAll wBs _ _ _ _ cut3 ((sl_new w 5 #[.int .u8 97, .int .u8 98, .int .u8 99, .int .u8 100, .int .u8 101, .int .u8 102, .int .u8 103] (7, 8) wAll 7 (by simp [bv, wAll]) rfl (by simp [wAll])).keptTo fun q hq => ⟨rfl, by rw [hq]; simp⟩) (by decide) (by decide)).mono ?_
  rintro e w1 ⟨Al, cl, ls, rfl, hl, hat, hF⟩
  obtain ⟨v0, v1, v2, hls⟩ := bk3 ls hl
  replace hat : BsAt w1 (fun q => (w.alloc (.cells #[.int .u8 97, .int .u8 98, .int .u8 99, .int .u8 100, .int .u8 101, .int .u8 102, .int .u8 103] 5 (7, 8))).heap.size ≤ q ∧ q < w1.heap.size) Al 3 cl (Lk v0 v1 v2) := by subst hls; exact hat
  have h3 : ls.length = 3 := by rw [hls]; rfl
  rw [h3]
  clear h3 hls
  obtain ⟨gl, ol, rfl, -⟩ := hat.2.2.2 0 (by simp [Lk])
  have hF1 := ((Frm.refl (fun _ => False) w).alloc _).trans hF fun _ h => h.elim
  have H1 := Lib.hid (And.intro hat hF1)
  clear hF hat hl hF1 ls
  go_wp2_with fail
  refine (new_eq 3 3 10 w1 cut3).mono ?_
  rintro e w2 ⟨b, rfl, hb, hc, hF⟩
  have hat2 : BsAt w2 (Bb b w2) (some ⟨gl, ol, none⟩) 3 cl (Lk v0 v1 v2) := H1.out.1.keptTo fun q hq => ⟨hF.block q hq.2 id, by have := hq.2; omega, Nat.lt_of_lt_of_le hq.2 hF.size⟩
  have hb0 : w.heap.size ≤ b := Nat.le_trans H1.out.2.size hb
  have H2 := Lib.hid (And.intro hat2 (And.intro hc (And.intro (H1.out.2.trans hF fun _ h => h.elim) hb0)))
  clear hat2 hc hF hb hb0 H1
  go_wp2_with fail
  refine (new_no 0 3 10 w2 (by decide)).mono ?_
  rintro e w3 ⟨rfl, hF3⟩
  go_wp2_with fail
  refine (of_no 3 33 10 [] none 0 0 w3 (by decide) ⟨none, 0, 0, rfl, rfl, Nat.le_refl _, by omega, .inl rfl⟩ (by simp)).mono ?_
  rintro e w4 ⟨rfl, hF4⟩
  have hF := hF3.trans hF4 fun _ h => h.elim
  have H4 := Lib.hid (And.intro (H2.out.1.step hF.b) (And.intro (H2.out.2.1.keptF hF) (And.intro (H2.out.2.2.1.trans hF fun _ h => h.elim) H2.out.2.2.2)))
  clear hF hF3 hF4 H2
  go_upto_region 8 with fail
  obtain ⟨g, hg⟩ : ∃ g, g = w4.heap.size := ⟨_, rfl⟩
  rw [← hg]
  have hwant := want_at w4 _ g hg.symm rfl
  generalize (((w4.alloc (.cells #[.int .u8 97, .int .u8 98, .int .u8 99] 5 (3, 4))).alloc (.cells #[.int .u8 98, .int .u8 99, .int .u8 100, .int .u8 101, .int .u8 102] 5 (5, 6))).alloc (.cells #[.int .u8 101, .int .u8 102, .int .u8 103] 5 (3, 4))).alloc (.cells #[.int .i64 0, .int .i64 10, .int .i64 0, .slice (some ⟨g, 0, none⟩) 3 3, .int .i64 1, .int .i64 13, .int .i64 2, .slice (some ⟨g + 1, 0, none⟩) 5 5, .int .i64 2, .int .i64 16, .int .i64 2, .slice (some ⟨g + 1 + 1, 0, none⟩) 3 3] 40) = w5 at *
  obtain ⟨hwa, hF⟩ := hwant
  have hgb : b < g := by have := H4.out.2.1.lt.1; omega
  have H5 := Lib.hid (And.intro (H4.out.1.step hF.b) (And.intro (H4.out.2.1.keptF hF) (And.intro (H4.out.2.2.1.trans hF fun _ h => h.elim) (And.intro H4.out.2.2.2 (And.intro (hwa.keptTo (K' := Bb b w5) fun q hq => ⟨rfl, by have := hq.1; omega, hq.2⟩) hgb)))))
  clear hwa hF hg hgb H4
  generalize g + 1 + 1 + 1 = gw at *
  go_wp2_with fail
  obtain ⟨h, hh⟩ : ∃ h, h = w5.heap.size := ⟨_, rfl⟩
  rw [← hh]
  have hchu := chunks_at w5 _ h hh.symm rfl
  generalize ((w5.alloc (.cells #[.int .u8 97, .int .u8 98] 5 (2, 3))).alloc (.cells #[.int .u8 99, .int .u8 100, .int .u8 101, .int .u8 102, .int .u8 103] 5 (5, 6))).alloc (.cells #[.slice (some ⟨h, 0, none⟩) 2 2, .slice none 0 0, .slice (some ⟨h + 1, 0, none⟩) 5 5] 22) = w6 at *
  obtain ⟨hs6, he6, hF⟩ := hchu
  have hhb : b < h := by have := H5.out.2.1.lt.1; omega
  refine (feed_first b 3 3 10 _ _ _ _ [[97, 98], [], [99, 100, 101, 102, 103]] (wBs.take 2) w6 cut3 (H5.out.2.1.keptF hF) (hs6.keptTo (K' := Bb b w6) fun q hq => ⟨rfl, by have := hq.1; omega, hq.2⟩) (he6.kept (K' := Bb b w6) fun q hq => ⟨rfl, by have := hq.1; omega, hq.2⟩) (by decide) (by decide)).mono ?_
  rintro e w7 ⟨Aa, ca, aas, rfl, hla, hata, -, hct, hFb⟩
  have h2 : aas.length = 2 := by have := congrArg List.length hla; simpa [wBs] using this
  rw [h2] at hata ⊢
  have H7 := Lib.hid (And.intro ((H5.out.1.step hF.b).step hFb) (And.intro (((H5.out.2.2.2.2.1).step hF.b).step hFb) (And.intro (hata.keptTo (K' := Bb b w7) fun q hq => ⟨rfl, by have := hq.1; have := hF.size; omega, hq.2⟩) (And.intro hct (And.intro ((H5.out.2.2.1.trans hF fun _ h => h.elim).trans hFb fun q hq => .inr (by have := H5.out.2.2.2.1; omega)) H5.out.2.2.2.1)))))
  have HLA := Lib.hid hla
  clear hla hata hct hFb hF hhb hs6 he6 hh h2 H5
  go_wp2_with fail
  refine (pending_eq (b + 1) b 3 3 10 _ w7 cut3 H7.out.2.2.2.1 (by decide) 1 2 (by decide) (by decide)).mono ?_
  rintro e w8 ⟨rfl, hF⟩
  have H8 := Lib.hid (And.intro (H7.out.1.step hF.b) (And.intro (H7.out.2.1.step hF.b) (And.intro (H7.out.2.2.1.step hF.b) (And.intro (H7.out.2.2.2.1.keptF hF) (And.intro (H7.out.2.2.2.2.1.trans hF fun _ h => h.elim) H7.out.2.2.2.2.2)))))
  clear hF H7
  go_wp2_with fail
  refine (close_eq (b + 1) b 3 3 10 _ (wBs.drop 2) w8 cut3 H8.out.2.2.2.1 (by decide) (by decide)).mono ?_
  rintro e w9 ⟨Ab, cb, bbs, rfl, hlb, hatb, hsh, hFb⟩
  have h1 : bbs.length = 1 := by have := congrArg List.length hlb; simpa [wBs] using this
  rw [h1] at hatb ⊢
  have hb8 : b < w8.heap.size := by obtain ⟨v, hv⟩ := H8.out.2.2.2.1; exact hv.lt.1
  have HB := Lib.hid (hatb.keptTo (K' := Bb b w9) fun q hq => ⟨rfl, by have := hq.1; omega, hq.2⟩)
  have H9 := Lib.hid (And.intro (H8.out.1.step hFb) (And.intro (H8.out.2.1.step hFb) (And.intro (H8.out.2.2.1.step hFb) (And.intro hsh (H8.out.2.2.2.2.1.trans hFb fun q hq => .inr (by have := H8.out.2.2.2.2.2; omega))))))
  have HLB := Lib.hid hlb
  clear hlb hatb hsh hFb H8 h1 hb8
  go_wp2_with fail
  refine (pending_shut b 3 3 10 w9 H9.out.2.2.2.1).mono ?_
  rintro e w' ⟨rfl, rfl⟩
  have htk : ∀ w, (Instr.slice 24 (.slice (some ⟨gw, 0, none⟩) 3 3) none (some (.int .i64 2)) none).run Try.prog w = .ok (.slice (some ⟨gw, 0, none⟩) 2 3) w := fun w => run_take (P := Try.prog) (t := 24) Try.underlying24 sizeB (some ⟨gw, 0, none⟩) 3 3 2 (by omega) (by omega) w
  have hdp : ∀ w, (Instr.slice 24 (.slice (some ⟨gw, 0, none⟩) 3 3) (some (.int .i64 2)) none none).run Try.prog w = .ok (.slice (some ⟨gw, 8, none⟩) 1 1) w := fun w => run_drop (P := Try.prog) (t := 24) Try.underlying24 sizeB (some ⟨gw, 0, none⟩) 3 3 2 (by omega) (by omega) w
  go_wp2_with fail
  obtain ⟨A0, n0, c0, rfl, hn0, -⟩ : ∃ A n c, v0 = .slice A n c ∧ n = 3 ∧ True := by
    obtain ⟨-, -, -, h4⟩ := H9.out.1
    obtain ⟨-, -, -, -, -, -, -, -, hs⟩ := h4 0 (by simp [Lk])
    obtain ⟨A, n, c, h1, h2, -⟩ := hs
    exact ⟨A, n, c, h1, by simpa [Lk] using h2, trivial⟩
  obtain ⟨A1, n1, c1, rfl, hn1⟩ : ∃ A n c, v1 = .slice A n c ∧ n = 5 := by
    obtain ⟨A, n, c, h1, h2, -⟩ := (lcells H9.out.1).2.2.1
    exact ⟨A, n, c, h1, by simpa using h2⟩
  obtain ⟨A2, n2, c2, rfl, hn2⟩ : ∃ A n c, v2 = .slice A n c ∧ n = 3 := by
    obtain ⟨A, n, c, h1, h2, -⟩ := (lcells H9.out.1).2.2.2
    exact ⟨A, n, c, h1, by simpa using h2⟩
  subst hn0 hn1 hn2
  have hFd : Frm (fun _ => False) w9 w9.drew := (Frm.refl _ w9).drew
  have HD := Lib.hid (And.intro (H9.out.1.step hFd.b) (And.intro (H9.out.2.1.step hFd.b) (And.intro (H9.out.2.2.1.step hFd.b) (And.intro (H9.out.2.2.2.1.keptF hFd) (H9.out.2.2.2.2.trans hFd fun _ h => h.elim)))))
  have HB := Lib.hid (HB.out.step hFd.b)
  clear hFd H9
  refine plan_begin (by kernel_rfl) 112 (by kernel_rfl) ?_
  refine plan_seq 112 0 78 34 (by kernel_rfl) (by kernel_rfl) (by kernel_rfl) (by intro c d v a w h; cases d <;> exact h) (by kernel_rfl) ?_
  simp only [List.append_eq, List.cons_append, List.nil_append, List.take_succ_cons, List.take_zero, List.drop_succ_cons, List.drop_zero, List.drop_nil, List.take_nil]
  intro K hK
  go_wp2_with fail
  refine (all_true (Bb b w9.drew) _ _ _ _ _ _ _ _ w9.drew HD.out.1 HD.out.2.1 (fun q hq => hq.2) rfl).mono ?_
  rintro e w10 ⟨rfl, hF⟩
  have HB10 := Lib.hid (And.intro (HD.out.2.2.1.step hF.b) (HB.out.step hF.b))
  have H10 := Lib.hid (And.intro (HD.out.1.step hF.b) (And.intro (HD.out.2.1.step hF.b) (And.intro (HD.out.2.2.2.1.keptF hF) (HD.out.2.2.2.2.trans hF fun _ h => h.elim))))
  clear hF HD HB
  go_wp2_with fail
  refine (all_true (Bb b w10) _ _ _ _ _ _ _ _ w10 HB10.out.1 (H10.out.2.1.take 2 (by omega)) (fun q hq => hq.2) (by rw [HLA.out]; rfl)).mono ?_
  rintro e w11 ⟨rfl, hF⟩
  have HB11 := Lib.hid (HB10.out.2.step hF.b)
  have H11 := Lib.hid (And.intro (H10.out.1.step hF.b) (And.intro (H10.out.2.1.step hF.b) (And.intro (H10.out.2.2.1.keptF hF) (H10.out.2.2.2.trans hF fun _ h => h.elim))))
  clear hF H10 HB10 HLA
  go_wp2_with fail
  have hd2 : BsAt w11 (Bb b w11) (some ⟨gw, 8, none⟩) 1 1 ((wantBk g).drop 2) := H11.out.2.1.drop 2 (by omega)
  refine (all_true (Bb b w11) _ _ _ _ _ _ _ _ w11 HB11.out hd2 (fun q hq => hq.2) (by rw [HLB.out]; rfl)).mono ?_
  rintro e w12 ⟨rfl, hF⟩
  have H12 := Lib.hid (And.intro (H11.out.1.step hF.b) (And.intro (H11.out.2.1.step hF.b) (And.intro (H11.out.2.2.1.keptF hF) (H11.out.2.2.2.trans hF fun _ h => h.elim))))
  clear hF H11 HB11 HLB hd2
  go_wp2_with fail
  refine (feed_shut b 3 3 10 _ _ _ _ (H12.out.2.2.1.keptF (((Frm.refl _ _).alloc _).alloc _))).mono ?_
  rintro e w13 ⟨rfl, hw⟩
  have hF : Frm (fun _ => False) w12 w13 := by rw [← hw]; exact ((Frm.refl _ _).alloc _).alloc _
  clear hw
  have H13 := Lib.hid (And.intro (H12.out.1.step hF.b) (And.intro (H12.out.2.1.step hF.b) (And.intro (H12.out.2.2.1.keptF hF) (H12.out.2.2.2.trans hF fun _ h => h.elim))))
  clear hF H12
  go_wp2_with fail
  refine (close_shut b 3 3 10 _ H13.out.2.2.1).mono ?_
  rintro e w' ⟨rfl, rfl⟩
  go_wp2_with fail
  refine (join7 b cl (.slice A0 3 c0) (.slice A1 5 c1) (.slice A2 3 c2) _ w13 H13.out.1).mono ?_
  rintro e w15 ⟨A15, c15, rfl, hcv, hF⟩
  have H15 := Lib.hid (And.intro (H13.out.1.step hF.b) (And.intro (H13.out.2.1.step hF.b) (H13.out.2.2.2.trans hF fun _ h => h.elim)))
  clear hF H13
  obtain ⟨⟨p0, p1, p2, p3⟩, ⟨q0, q1, q2, q3⟩, -, -⟩ := lcells H15.out.1
  obtain ⟨⟨r0, r1, r2, r3⟩, -, -, -⟩ := lcells (v0 := .slice (some ⟨g, 0, none⟩) 3 3) (v1 := .slice (some ⟨g + 1, 0, none⟩) 5 5) (v2 := .slice (some ⟨g + 1 + 1, 0, none⟩) 3 3) H15.out.2.1
  simp only [Nat.zero_add] at r0 r1 r2 r3
  go_wp2_with fail
  refine (bright_any 3 3 2 2 16 A2 3 c2 _ ⟨by omega, by omega, by omega, by omega, by omega⟩ (by omega) (by decide) (by decide) (by omega) (by omega)).mono ?_
  rintro e w16 ⟨he, hF⟩
  obtain rfl := he.trans (ret_bool (show decide _ = true from by decide))
  have H16 := Lib.hid (And.intro (H15.out.1.step hF.b) (And.intro (H15.out.2.1.step hF.b) (H15.out.2.2.trans hF fun _ h => h.elim)))
  clear hF H15 hcv he
  clear p0 p1 p2 p3 q0 q1 q2 q3 r0 r1 r2 r3
  obtain ⟨⟨p0, p1, p2, p3⟩, ⟨q0, q1, q2, q3⟩, -, -⟩ := lcells H16.out.1
  obtain ⟨⟨r0, r1, r2, r3⟩, -, -, -⟩ := lcells (v0 := .slice (some ⟨g, 0, none⟩) 3 3) (v1 := .slice (some ⟨g + 1, 0, none⟩) 5 5) (v2 := .slice (some ⟨g + 1 + 1, 0, none⟩) 3 3) H16.out.2.1
  simp only [Nat.zero_add] at r0 r1 r2 r3
  go_wp2_with fail
  refine (bright_any 3 2 2 2 16 A2 3 c2 _ ⟨by omega, by omega, by omega, by omega, by omega⟩ (by omega) (by decide) (by decide) (by omega) (by omega)).mono ?_
  rintro e w17 ⟨he, hF⟩
  obtain rfl := he.trans (ret_bool (show decide _ = false from by decide))
  have H17 := Lib.hid (And.intro (H16.out.1.step hF.b) (And.intro (H16.out.2.1.step hF.b) (H16.out.2.2.trans hF fun _ h => h.elim)))
  clear hF H16 he
  clear p0 p1 p2 p3 q0 q1 q2 q3 r0 r1 r2 r3
  obtain ⟨⟨p0, p1, p2, p3⟩, ⟨q0, q1, q2, q3⟩, -, -⟩ := lcells H17.out.1
  obtain ⟨⟨r0, r1, r2, r3⟩, -, -, -⟩ := lcells (v0 := .slice (some ⟨g, 0, none⟩) 3 3) (v1 := .slice (some ⟨g + 1, 0, none⟩) 5 5) (v2 := .slice (some ⟨g + 1 + 1, 0, none⟩) 3 3) H17.out.2.1
  simp only [Nat.zero_add] at r0 r1 r2 r3
  go_wp2_with fail
  refine plan_still 112 78 6 28 (by kernel_rfl) (by kernel_rfl) (by kernel_rfl) (by kernel_rfl) (by kernel_rfl) (by kernel_rfl) (by kernel_rfl) (fun Kp hKp => ?_)
  simp only [List.append_eq, List.cons_append, List.nil_append, List.take_succ_cons, List.take_zero, List.drop_succ_cons, List.drop_zero, List.drop_nil, List.take_nil]
  repeat still_step
  refine wpStill_nil ?_
  refine hKp _ ?_
  clear hKp Kp
  refine plan_seq 112 84 3 25 (by kernel_rfl) (by kernel_rfl) (by kernel_rfl) (by intro c d v a w h; cases d <;> exact h) (by kernel_rfl) ?_
  simp only [List.append_eq, List.cons_append, List.nil_append, List.take_succ_cons, List.take_zero, List.drop_succ_cons, List.drop_zero, List.drop_nil, List.take_nil]
  intro K hK
  go_wp2_with fail
  refine (bsame_any (Bb b w17) ⟨.slice A1 5 c1, ⟨1, 13, 2, [98, 99, 100, 101, 102]⟩⟩ ⟨.slice (some ⟨g + 1, 0, none⟩) 5 5, ⟨1, 13, 2, [98, 99, 100, 101, 102]⟩⟩ w17 (lcells H17.out.1).2.2.1 (lcells (v0 := .slice (some ⟨g, 0, none⟩) 3 3) (v1 := .slice (some ⟨g + 1, 0, none⟩) 5 5) (v2 := .slice (some ⟨g + 1 + 1, 0, none⟩) 3 3) H17.out.2.1).2.2.1 (fun q hq => hq.2)).mono ?_
  rintro e w18 ⟨he, hF⟩
  obtain rfl := he.trans (ret_bool (show decide _ = true from decide_eq_true rfl))
  have H18 := Lib.hid (And.intro (H17.out.1.step hF.b) (And.intro (H17.out.2.1.step hF.b) (H17.out.2.2.trans hF fun _ h => h.elim)))
  clear hF H17 he
  clear p0 p1 p2 p3 q0 q1 q2 q3 r0 r1 r2 r3
  obtain ⟨⟨p0, p1, p2, p3⟩, ⟨q0, q1, q2, q3⟩, -, -⟩ := lcells H18.out.1
  obtain ⟨⟨r0, r1, r2, r3⟩, -, -, -⟩ := lcells (v0 := .slice (some ⟨g, 0, none⟩) 3 3) (v1 := .slice (some ⟨g + 1, 0, none⟩) 5 5) (v2 := .slice (some ⟨g + 1 + 1, 0, none⟩) 3 3) H18.out.2.1
  simp only [Nat.zero_add] at r0 r1 r2 r3
  go_wp2_with fail
  refine plan_still 112 87 6 19 (by kernel_rfl) (by kernel_rfl) (by kernel_rfl) (by kernel_rfl) (by kernel_rfl) (by kernel_rfl) (by kernel_rfl) (fun Kp hKp => ?_)
  simp only [List.append_eq, List.cons_append, List.nil_append, List.take_succ_cons, List.take_zero, List.drop_succ_cons, List.drop_zero, List.drop_nil, List.take_nil]
  repeat still_step
  refine wpStill_nil ?_
  refine hKp _ ?_
  clear hKp Kp
  refine plan_seq 112 93 19 0 (by kernel_rfl) (by kernel_rfl) (by kernel_rfl) (by intro c d v a w h; cases d <;> exact h) (by kernel_rfl) ?_
  simp only [List.append_eq, List.cons_append, List.nil_append, List.take_succ_cons, List.take_zero, List.drop_succ_cons, List.drop_zero, List.drop_nil, List.take_nil]
  intro K hK
  go_wp2_with fail
  refine (bsame_any (Bb b w18) ⟨.slice A1 5 c1, ⟨1, 13, 2, [98, 99, 100, 101, 102]⟩⟩ ⟨.slice A2 3 c2, ⟨2, 16, 2, [101, 102, 103]⟩⟩ w18 (lcells H18.out.1).2.2.1 (lcells H18.out.1).2.2.2 (fun q hq => hq.2)).mono ?_
  rintro e w19 ⟨he, hF⟩
  obtain rfl := he.trans (ret_bool (show decide ((⟨1, 13, 2, [98, 99, 100, 101, 102]⟩ : Bc) = ⟨2, 16, 2, [101, 102, 103]⟩) = false from by decide))
  have H19 := Lib.hid (H18.out.2.2.trans hF fun _ h => h.elim)
  clear hF H18 he
  clear p0 p1 p2 p3 q0 q1 q2 q3 r0 r1 r2 r3
  go_wp2_with fail
  refine (feed_nil _ _ _ _).mono ?_
  rintro e w20 ⟨rfl, hw⟩
  have H20 := Lib.hid (show Frm (fun _ => False) w w20 from by rw [← hw]; exact (H19.out.alloc _).alloc _)
  clear hw H19
  go_wp2_with fail
  refine (close_nil _).mono ?_
  rintro e w' ⟨rfl, rfl⟩
  go_wp2_with fail
  refine plan_end 112 (by kernel_rfl) ?_
  go_wp2_with fail
  go_ret
  exact ⟨rfl, H20.out⟩
end Go.Proofs.Ytecpbnkkgdppoaa
