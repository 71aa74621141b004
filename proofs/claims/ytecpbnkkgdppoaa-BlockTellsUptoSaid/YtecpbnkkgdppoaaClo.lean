/- Close. -/
import Derived.Test.YtecpbnkkgdppoaaNew
import Derived.Test.YtecpbnkkgdppoaaBp
namespace Go.Proofs.Ytecpbnkkgdppoaa
open Go.RowKit
theorem infoB : (Try.prog.info? 40).map (fun i => (i.zero, i.size, i.bytes)) = some (some (.agg #[.int .i64 0, .int .i64 0, .int .i64 0, .slice none 0 0]), 4, 48) := by kernel_rfl
theorem SlZ.blk4 (w : World) (x0 x1 x2 x3 : Value) (t : TypeId) : SlZ (w.alloc (.cells #[x0, x1, x2, x3] t)) (fun k => k = w.heap.size) 4 (.slice (some ⟨w.heap.size, 0, none⟩) 1 1) [x0, x1, x2, x3] :=
  ⟨_, 1, 1, rfl, rfl, Nat.le_refl _, by omega, .inr ⟨_, 0, rfl, rfl, fun i hi => by
    rw [cell_of_row _ _ _ #[x0, x1, x2, x3] t (0, 0) (heap_alloc_new w _), Nat.zero_add, ← Array.getElem?_toList]
    exact List.getElem?_eq_getElem hi⟩⟩
/-- The block that is left. -/
def lastN (S L F : Nat) (t : List UInt8) : List Bc := if t.length / S * S < t.length then [blkN S L F t (t.length / S)] else []
theorem held_last (S L : Nat) (t : List UInt8) (h : 1 ≤ S) : dataN S L t (t.length / S) = heldN S L t := by
  unfold dataN heldN
  rw [List.take_of_length_le (by have := (div_low t.length S h).2; omega)]
def ClosePost (b S L F : Nat) (bs : List Bc) (w : World) (e : Ending) (w' : World) : Prop :=
  ∃ v ys, e = .returned v ∧ ys.map (·.c) = bs ∧ w'.ownsRow w.heap.size 40 4 v ys.length (WB.cellsOf ys) ∧ (∀ y ∈ ys, kGood w.heap.size y w') ∧ ShutAt w' b S L F ∧ Frm (fun q => q = b) w w'
theorem shut_of {w : World} {b S L F n : Nat} {v : Value} (h : Blk w b 63 #[.int .i64 S, .int .i64 L, .int .i64 F, .bool true, .int .i64 n, v]) : ShutAt ((w.setCell ⟨b, 3, none⟩ (.bool false)).setCell ⟨b, 5, none⟩ (.slice none 0 0)) b S L F := ⟨n, (h.set_ 3 _).set_ 5 _⟩
set_option maxHeartbeats 1600000 in
theorem close_any (B b S L F : Nat) (t : List UInt8) (v : Value) (w : World) (hC : Cut S L F) (h : CSt w B b S L F (t.length / S) v (heldN S L t)) (ht : t.length ≤ 900000) :
    Calls Try.prog 26 #[.pointer (some ⟨b, 0, none⟩)] w (ClosePost b S L F (lastN S L F t) w) := by
  obtain ⟨i0, hi, hz0, hz1, hz2⟩ := info_parts infoB
  have hlh := held_length S L t hC.s1
  have hdl := div_low t.length S hC.s1
  have hwl := warm_le S L (t.length / S)
  have hdn := Nat.div_le_self t.length S
  have hL := hC.l2
  have hld := held_last S L t hC.s1
  have how := own_any B b S L F (t.length / S) v (heldN S L t) w hC h (by omega) (by omega) (by omega)
  obtain ⟨N, hN⟩ : ∃ N, N = (heldN S L t).length - warmN S L (t.length / S) := ⟨_, rfl⟩
  have hNt : N = t.length - t.length / S * S := by omega
  rw [← hN] at how
  obtain ⟨A, c, rfl, -, -⟩ := own_form h.2.1
  have hsl : Sl w (fun q => q < w.heap.size) (.slice A (heldN S L t).length c) (bv (heldN S L t)) := (OSl.of_own (xs := bv (heldN S L t)) h.2.1 (K := fun _ => True) fun _ _ => trivial).sl.mono fun q hq => hq.lt
  have hblk : ∀ w8, Frm (fun _ => False) w w8 → Calls Try.prog 38 #[.agg #[.int .i64 S, .int .i64 L, .int .i64 F], .int .i64 (t.length / S : Nat), .slice A (heldN S L t).length c] w8 (BlkPost S L F (t.length / S) (heldN S L t) w8) := fun w8 h8 =>
    block_any (fun q => q < w.heap.size) S L F (t.length / S) _ _ w8 hC (by omega) (hsl.kept fun q hq => h8.block q hq id) (by omega) (fun q hq => Nat.lt_of_lt_of_le hq h8.size)
  have c3 := h.cells.2.2.2.1
  by_cases h0 : N = 0
  · have hlast : lastN S L F t = [] := by unfold lastN; rw [if_neg (by omega)]
    rw [hlast]
    subst h0
    have H := Lib.hid (And.intro h how)
    clear h how hN hNt hlh hdl hwl hdn hlast hblk hsl hld hC ht
    go_enter Try.func26, Try.ntmps26
    go_wp2_with fail
    refine H.out.2.mono ?_
    rintro e w1 ⟨rfl, hF1⟩
    have h1 := H.out.1.keptF hF1
    have f3 := h1.frozen 3
    have f5 := h1.frozen 5
    obtain ⟨-, -, -, d3, -, d5⟩ := h1.cells
    have H1 := Lib.hid (And.intro h1 hF1)
    clear h1 hF1 c3
    go_wp2_with fail
    go_ret
    exact ⟨_, [], rfl, rfl, World.ownsRow_nil _ _ _ _, by simp, shut_of H1.out.1.1, ((H1.out.2.mono (K' := fun q => q = b) fun _ h => h.elim).setCell ⟨b, 3, none⟩ (.inl rfl) _).setCell ⟨b, 5, none⟩ (.inl rfl) _⟩
  · have hlast : lastN S L F t = [blkN S L F t (t.length / S)] := by unfold lastN; rw [if_pos (by omega)]
    rw [hlast]
    have hN0 : decide ((0 : Int) < (N : Int)) = true := by simp; omega
    have hN1 : 0 < N := by omega
    have H := Lib.hid (And.intro h (And.intro how (And.intro hblk hld)))
    clear h how hN hNt hlh hdl hwl hdn hlast hblk hsl hld hC ht h0
    unfold BlkPost at H
    obtain ⟨nq, hnq⟩ : ∃ nq : Nat, nq = t.length / S := ⟨_, rfl⟩
    obtain ⟨Z, hZ⟩ : ∃ Z : Nat, Z = F + t.length / S * S := ⟨_, rfl⟩
    obtain ⟨Wm, hWm⟩ : ∃ Wm : Nat, Wm = warmN S L (t.length / S) := ⟨_, rfl⟩
    obtain ⟨Cb, hCb⟩ : ∃ Cb : Bc, Cb = blkN S L F t (t.length / S) := ⟨_, rfl⟩
    have HX : Hid (∀ v8, bCells ⟨v8, Cb⟩ = [.int .i64 nq, .int .i64 Z, .int .i64 Wm, v8]) := Lib.hid fun v8 => by
      rw [hCb, hnq, hZ, hWm]
      show [Value.int .i64 ((t.length / S : Nat) : Int), .int .i64 ((F : Int) + ((t.length / S : Nat) : Int) * (S : Int)), .int .i64 (warmN S L (t.length / S) : Nat), v8] = _
      rw [Int.natCast_add, Int.natCast_mul]
    have HD : Hid (Cb.data = heldN S L t) := Lib.hid (by rw [hCb]; exact H.out.2.2.2)
    rw [← hCb]
    rw [← hZ, ← hWm, ← hnq] at H
    have H := Lib.hid (And.intro H.out.1 (And.intro H.out.2.1 H.out.2.2.1))
    generalize heldN S L t = xs at *
    clear hnq hZ hWm hCb
    go_enter Try.func26, Try.ntmps26
    go_wp2_with fail
    refine H.out.2.1.mono ?_
    rintro e w1 ⟨rfl, hF1⟩
    have h1 := H.out.1.keptF hF1
    obtain ⟨d0, d1, d2, -, d4, d5⟩ := h1.cells
    have H1 := Lib.hid (And.intro h1 hF1)
    clear h1 hF1 c3
    go_upto_region 5 with fail
    go_region_law
      (first
      | (refine step_call (by rfl) (H.out.2.2 _ (by exact H1.out.2.drew)) _ _ (by rfl) (args3 (by rfl) (by rfl) (by rfl)) (Try.call38 _ _) ?_; rintro e w2 ⟨v8, rfl, ho8, hF8⟩; obtain ⟨A8, c8, rfl, -, -⟩ := own_form ho8; refine ⟨_, rfl, ?_⟩; have H2 := Lib.hid (And.intro ho8 hF8); clear ho8 hF8)
      | (refine step_append_slz (by rfl) _ _ 24 (by rfl) w.heap.size 40 i0 _ 4 48 Try.underlying24 hi hz0 hz1 hz2 (by rfl) (by decide) _ 0 [] (by rfl) (World.ownsRow_nil _ _ _ _) (fun q => q = w2.heap.size) _ 1 [.int .i64 nq, .int .i64 Z, .int .i64 Wm, .slice A8 xs.length c8] (by rfl) (by exact SlZ.blk4 w2 _ _ _ _ _) rfl (by intro u hu; simp only [List.mem_cons, List.not_mem_nil, or_false] at hu; rcases hu with rfl | rfl | rfl | rfl <;> rfl) (by unfold maxLen; omega) (by omega) (by have := (H1.out.2.drew.trans H2.out.2 fun _ h => h.elim).size; simp; omega) ?_; intro A3 N3 c3' w3 HN3 hNc3 hc3 hown3 hg3 hat3; have H3 := Lib.hid (And.intro hown3 (And.intro hg3 (And.intro hat3 HN3))); clear hown3 hg3 hat3))
    all_goals
      have hF3 : Frm (fun _ => False) w w3 := ((H1.out.2.drew.trans H2.out.2 fun _ h => h.elim).alloc _).grown H3.out.2.1 fun q hq => by cases hq
      have h3 := H.out.1.keptF hF3
      have f3 := h3.frozen 3
      have f5 := h3.frozen 5
      obtain ⟨-, -, -, g3, -, g5⟩ := h3.cells
      have H4 := Lib.hid (And.intro h3 hF3)
      clear h3 hF3
      go_wp2_with fail
      go_ret
      obtain ⟨hown3, hg3, hat3, HN3⟩ := H3.out
      obtain rfl : N3 = 1 := by have := HN3.out; omega
      have hFf : Frm (fun q => q = b) w3 ((w3.setCell ⟨b, 3, none⟩ (.bool false)).setCell ⟨b, 5, none⟩ (.slice none 0 0)) := ((Frm.refl (fun q => q = b) w3).setCell ⟨b, 3, none⟩ (.inl rfl) _).setCell ⟨b, 5, none⟩ (.inl rfl) _
      have hF23 : Frm (fun _ => False) w2 w3 := ((Frm.refl _ w2).alloc _).grown hg3 fun q hq => by cases hq
      have ho3 := hF23.own H2.out.1 fun _ _ => id
      refine ⟨.slice A3 1 c3', [⟨.slice A8 xs.length c8, Cb⟩], rfl, rfl, hFf.own (by have e : WB.cellsOf [(⟨.slice A8 xs.length c8, Cb⟩ : Bk)] = [.int .i64 nq, .int .i64 Z, .int .i64 Wm, .slice A8 xs.length c8] := (List.append_nil _).trans (HX.out _); rw [e]; exact hown3) (fun q hq hk => own_blk_ne hown3 H4.out.1.1 (by decide) (by rw [hq, hk])), fun y hy => ?_, shut_of H4.out.1.1, (H4.out.2.mono (K' := fun q => q = b) fun _ h => h.elim).trans' hFf⟩
      obtain rfl := List.mem_singleton.1 hy
      show World.ownsRow _ _ _ _ _ _ _
      dsimp only
      rw [HD.out]
      exact hFf.own (World.ownsRow.mono ho3 H1.out.2.size) fun q hq hk => own_blk_ne ho3 H4.out.1.1 (by decide) (by rw [hq, hk])
end Go.Proofs.Ytecpbnkkgdppoaa
