/- The cutter: making one, the next block, what is pending. -/
import Derived.Test.YtecpbnkkgdppoaaBo
import Derived.StillTailTactics
import Derived.Deep.RegionLaw
namespace Go.Proofs.Ytecpbnkkgdppoaa
open Go.RowKit
/-- The cutter at work: whose number, what bytes it holds, where these lie. -/
def CSt (w : World) (B b S L F n : Nat) (v : Value) (xs : List UInt8) : Prop :=
  Blk w b 63 #[.int .i64 S, .int .i64 L, .int .i64 F, .bool true, .int .i64 n, v] ∧ w.ownsRow B 5 1 v xs.length (bv xs) ∧ b < B ∧ B ≤ w.heap.size
/-- What a step turns: the cutter, its row, nothing else that was there; its row behind it is that row, or a new one. -/
def Turns1 (b : Nat) (v v' : Value) (X Y : World) : Prop :=
  Frm (fun q => q = b ∨ v.ownBlock = some q) X Y ∧ (v'.ownBlock = v.ownBlock ∨ ∀ q, v'.ownBlock = some q → X.heap.size ≤ q)
theorem CSt.kept {w w' : World} {B b S L F n : Nat} {v : Value} {xs : List UInt8} {K : Nat → Prop} (h : CSt w B b S L F n v xs) (hF : Frm K w w') (hb : ¬ K b) (hv : ∀ q, v.ownBlock = some q → ¬ K q) : CSt w' B b S L F n v xs :=
  ⟨h.1.kept hF hb, hF.own h.2.1 hv, h.2.2.1, Nat.le_trans h.2.2.2 hF.size⟩
theorem CSt.keptF {w w' : World} {B b S L F n : Nat} {v : Value} {xs : List UInt8} (h : CSt w B b S L F n v xs) (hF : Frm (fun _ => False) w w') : CSt w' B b S L F n v xs := h.kept hF id fun _ _ => id
theorem CSt.lt {w : World} {B b S L F n : Nat} {v : Value} {xs : List UInt8} (h : CSt w B b S L F n v xs) : b < w.heap.size ∧ (∀ q, v.ownBlock = some q → B ≤ q ∧ q < w.heap.size ∧ q ≠ b) :=
  ⟨h.1.lt, fun q hq => ⟨(h.2.1.lt q hq).1, (h.2.1.lt q hq).2, fun e => own_blk_ne h.2.1 h.1 (by decide) (by rw [hq, e])⟩⟩
theorem CSt.cells {w : World} {B b S L F n : Nat} {v : Value} {xs : List UInt8} (h : CSt w B b S L F n v xs) : w.cell? ⟨b, 0, none⟩ = some (.int .i64 S) ∧ w.cell? ⟨b, 1, none⟩ = some (.int .i64 L) ∧ w.cell? ⟨b, 2, none⟩ = some (.int .i64 F) ∧ w.cell? ⟨b, 3, none⟩ = some (.bool true) ∧ w.cell? ⟨b, 4, none⟩ = some (.int .i64 n) ∧ w.cell? ⟨b, 5, none⟩ = some v :=
  ⟨h.1.cell 0, h.1.cell 1, h.1.cell 2, h.1.cell 3, h.1.cell 4, h.1.cell 5⟩
theorem CSt.frozen {w : World} {B b S L F n : Nat} {v : Value} {xs : List UInt8} (h : CSt w B b S L F n v xs) (i : Nat) : w.frozen? ⟨b, i, none⟩ = false := h.1.frozen i
/-- The cutter of which t came. -/
def CutAt (w : World) (B b S L F : Nat) (t : List UInt8) : Prop := ∃ v, CSt w B b S L F (t.length / S) v (heldN S L t)
/-- A closed one. -/
def ShutAt (w : World) (b S L F : Nat) : Prop :=
  ∃ n : Int, Blk w b 63 #[.int .i64 S, .int .i64 L, .int .i64 F, .bool false, .int .i64 n, .slice none 0 0]
set_option maxHeartbeats 800000 in
/-- How many own bytes came. -/
theorem own_any (B b S L F n : Nat) (v : Value) (xs : List UInt8) (w : World) (hC : Cut S L F) (h : CSt w B b S L F n v xs) (hx : warmN S L n ≤ xs.length) (hl : xs.length ≤ 1000000) (hn : n ≤ 1000000000) :
    Calls Try.prog 37 #[.pointer (some ⟨b, 0, none⟩)] w fun e w' => e = .returned (.int .i64 ((xs.length - warmN S L n : Nat) : Int)) ∧ Frm (fun _ => False) w w' := by
  obtain ⟨A, c, rfl, hc, hm⟩ := own_form h.2.1
  have hwm := fun w => warm_any S L F n w ⟨hC.l1, hC.l2⟩ (by have := Nat.mul_le_mul hn hC.s2; omega)
  obtain ⟨c0, c1, c2, -, c4, c5⟩ := h.cells
  generalize hW : warmN S L n = W at *
  generalize hH : xs.length = H at *
  obtain ⟨N, hN⟩ : ∃ N, N = H - W := ⟨_, rfl⟩
  rw [← hN]
  have hHN : IntKind.i64.wrap ((H : Int) - (W : Int)) = (N : Int) := by rw [show (H : Int) - (W : Int) = (N : Int) from by omega]; exact IntWalk.i64_in _ (by omega)
  have Hw := Lib.hid hwm
  have Hh := Lib.hid hHN
  clear hwm hN hHN h hC hW hH hn
  go_enter Try.func37, Try.ntmps37
  go_wp2_with fail
  go_region_held3 (fun w' => w'.cell? ⟨b, 0, none⟩ = some (.int .i64 S) ∧ w'.cell? ⟨b, 1, none⟩ = some (.int .i64 L) ∧ w'.cell? ⟨b, 2, none⟩ = some (.int .i64 F) ∧ w'.cell? ⟨b, 4, none⟩ = some (.int .i64 n) ∧ w'.cell? ⟨b, 5, none⟩ = some (.slice A H c)) (first | exact ⟨c0, c1, c2, c4, c5⟩ | exact ⟨d0, d1, d2, d4, d5⟩)
    ((go_at_call 34; refine (Hw.out _).mono ?_; rintro e w2 ⟨rfl, hF⟩; have d0 := hF.cell c0 id; have d1 := hF.cell c1 id; have d2 := hF.cell c2 id; have d4 := hF.cell c4 id; have d5 := hF.cell c5 id))
  go_wp2_with fail
  go_ret
  exact ⟨ret_int Hh.out, ((Frm.refl _ w).drew).trans hF fun _ h => h.elim⟩
theorem CSt.number {w : World} {B b S L F n : Nat} {v : Value} {xs : List UInt8} (h : CSt w B b S L F n v xs) (m : Nat) : CSt (w.setCell ⟨b, 4, none⟩ (.int .i64 m)) B b S L F m v xs :=
  ⟨h.1.set_ 4 _, ((Frm.refl (fun q => q = b) w).setCell ⟨b, 4, none⟩ (.inl rfl) _).own h.2.1 (fun q hq hk => (h.lt.2 q hq).2.2 hk), h.2.2.1, by simpa using h.2.2.2⟩
/-- Its bytes are others, in the row that it had, or in a new one. -/
theorem CSt.data {w w3 : World} {B b S L F n : Nat} {v v' : Value} {xs ys : List UInt8} (h : CSt w B b S L F n v xs) (hF : Frm (fun q => v.ownBlock = some q) w w3) (ho : w3.ownsRow B 5 1 v' ys.length (bv ys))  :
    CSt (w3.setCell ⟨b, 5, none⟩ v') B b S L F n v' ys := by
  have hb3 : Blk w3 b 63 #[.int .i64 S, .int .i64 L, .int .i64 F, .bool true, .int .i64 n, v] := h.1.kept hF fun hk => (h.lt.2 b hk).2.2 rfl
  refine ⟨hb3.set_ 5 _, ((Frm.refl (fun q => q = b) w3).setCell ⟨b, 5, none⟩ (.inl rfl) _).own ho (fun q hq hk => own_blk_ne ho hb3 (by decide) (by rw [hq, hk])), h.2.2.1, by have := hF.size; simpa using Nat.le_trans h.2.2.2 this⟩
theorem ob_eq (A : Option Addr) (n n' c c' : Nat) : (Value.slice A n c).ownBlock = (Value.slice A n' c').ownBlock := by cases A <;> rfl
set_option maxHeartbeats 1600000 in
theorem next_any (B b S L F n : Nat) (v : Value) (xs : List UInt8) (w : World) (hC : Cut S L F) (hn : n ≤ 1000000000) (h : CSt w B b S L F n v xs) (hx : warmN S L (n + 1) ≤ xs.length) (hl : xs.length ≤ 1000000) :
    Calls Try.prog 42 #[.pointer (some ⟨b, 0, none⟩)] w fun e w' => (∃ u, e = .returned u) ∧ ∃ v', CSt w' B b S L F (n + 1) v' (xs.drop (xs.length - warmN S L (n + 1))) ∧ Turns1 b v v' w w' := by
  obtain ⟨i0, hi, hz0, hz1, hz2⟩ := info_parts infoU
  obtain ⟨A, c, rfl, hc, hm⟩ := own_form h.2.1
  have hwm := fun w => warm_any S L F (n + 1) w ⟨hC.l1, hC.l2⟩ (by have := Nat.mul_le_mul (show n + 1 ≤ 1000000001 by omega) hC.s2; omega)
  have h1 := h.number (n + 1)
  obtain ⟨c0, c1, c2, -, c4, c5⟩ := h.cells
  have f4 := h.frozen 4
  generalize hW : warmN S L (n + 1) = W at *
  generalize hH : xs.length = H at *
  obtain ⟨N, hN⟩ : ∃ N, N = H - W := ⟨_, rfl⟩
  rw [← hN]
  have hHN : IntKind.i64.wrap ((H : Int) - (W : Int)) = (N : Int) := by rw [show (H : Int) - (W : Int) = (N : Int) from by omega]; exact IntWalk.i64_in _ (by omega)
  have hdr := run_drop (P := Try.prog) (t := 22) Try.underlying22 sizeU A H c (N : Int) (by omega) (by omega)
  rw [Int.toNat_natCast] at hdr
  have htk := run_take (P := Try.prog) (t := 22) Try.underlying22 sizeU A H c 0 (by omega) (by omega)
  have Hw := Lib.hid hwm
  have H0 := Lib.hid (And.intro h (And.intro h1 (And.intro hN hH)))
  simp only [Nat.mul_one] at hdr
  obtain ⟨A2, hA2⟩ : ∃ A2, A2 = if c = N then A else A.map (fun x => x.add N) := ⟨_, rfl⟩
  rw [← hA2] at hdr
  have HA2 := Lib.hid hA2
  have hcN : H - N ≤ c - N := by omega
  clear hA2 hwm hN h hC hW hH h1
  go_enter Try.func42, Try.ntmps42
  go_wp2_with fail
  have hcast : ((n : Int) + 1) = ((n + 1 : Nat) : Int) := by omega
  rw [hcast]
  have h1 := H0.out.2.1
  have hFn : Frm (fun q => q = b) w (w.setCell ⟨b, 4, none⟩ (.int .i64 ((n + 1 : Nat) : Int))) := (Frm.refl (fun q => q = b) w).setCell ⟨b, 4, none⟩ (.inl rfl) _
  generalize w.setCell ⟨b, 4, none⟩ (.int .i64 ((n + 1 : Nat) : Int)) = w1 at *
  obtain ⟨e0, e1, e2, -, e4, e5⟩ := h1.cells
  have H1 := Lib.hid (And.intro h1 hFn)
  clear c0 c1 c2 c4 c5 f4 h1 hFn hcast
  go_region_held3 (fun w' => w'.cell? ⟨b, 0, none⟩ = some (.int .i64 S) ∧ w'.cell? ⟨b, 1, none⟩ = some (.int .i64 L) ∧ w'.cell? ⟨b, 2, none⟩ = some (.int .i64 F) ∧ w'.cell? ⟨b, 4, none⟩ = some (.int .i64 (n + 1 : Nat)) ∧ w'.cell? ⟨b, 5, none⟩ = some (.slice A H c)) (first | exact ⟨e0, e1, e2, e4, e5⟩ | exact ⟨d0, d1, d2, d4, d5⟩)
    ((go_at_call 34; refine (Hw.out _).mono ?_; rintro e w2 ⟨rfl, hF⟩; have d0 := hF.cell e0 id; have d1 := hF.cell e1 id; have d2 := hF.cell e2 id; have d4 := hF.cell e4 id; have d5 := hF.cell e5 id))
  have hF2 : Frm (fun _ => False) w1 w2 := ((Frm.refl _ w1).drew).trans hF fun _ h => h.elim
  have h2 := H1.out.1.keptF hF2
  have f5 := h2.frozen 5
  have hsl : Sl w2 (fun q => q < w2.heap.size) (.slice A H c) (bv xs) := (OSl.of_own (xs := bv xs) (by have := h2.2.1; rw [H0.out.2.2.2] at this; exact this) (K := fun _ => True) fun _ _ => trivial).sl.mono fun q hq => hq.lt
  have hsl2 := hsl.drop N (by have := H0.out.2.2.1; omega)
  have hxs : (bv xs).drop N = bv (xs.drop N) := by simp [bv, List.map_drop]
  rw [hxs] at hsl2
  have hsl3 : Sl w2 (fun q => q < w2.heap.size) (.slice A2 (H - N) (c - N)) (bv (xs.drop N)) := by rw [HA2.out]; exact hsl2
  have h20 := h2.2.1
  rw [H0.out.2.2.2] at h20
  have ho2 := own_take h20 (k := 0) (Nat.zero_le _)
  simp only [Nat.zero_mul, List.take_zero] at ho2
  have H2 := Lib.hid (And.intro h2 (And.intro hF2 (And.intro hsl3 ho2)))
  clear hF h2 h20 hF2 hsl hsl2 hsl3 hxs ho2 d0 d1 d2 d4 e0 e1 e2 e4 e5
  go_wp2_with (at_builtin; go_loud (refine wpList_append_sl (by rfl) _ _ 22 (by rfl) B 5 i0 (.int .u8 0) 1 Try.underlying22 hi hz0 hz1 hz2 (by rfl) _ 0 [] (by rfl) H2.out.2.2.2 (fun q => q < w2.heap.size) _ (bv (xs.drop N)) (by rfl) H2.out.2.2.1 (bv_one _) (by unfold maxLen; have := H0.out.2.2.2; simp; omega) (by have := H0.out.2.2.2; simp; omega) H2.out.1.2.2.2 ?_); go_loud (intro A3 N3 c3 w3 HN3 hNc3 hc3 hown3 hg3 hat3; have hF3 : Frm (fun q => (Value.slice A H c).ownBlock = some q) w2 w3 := (Frm.refl _ w2).grown hg3 (fun k hk => .inl ((ob_eq A H 0 c c).trans hk)); have hb3 : Blk w3 b 63 #[.int .i64 S, .int .i64 L, .int .i64 F, .bool true, .int .i64 (n + 1 : Nat), .slice A H c] := H2.out.1.1.kept hF3 (fun hk => (H2.out.1.lt.2 b hk).2.2 rfl); have g5 := hb3.frozen 5; have g6 := hb3.cell 5; simp only [List.getElem?_toArray, List.getElem?_cons_zero, List.getElem?_cons_succ] at g6; have H3 := Lib.hid (And.intro hown3 (And.intro hat3 hF3)); clear hown3 hat3 hF3 hg3 hb3))
  go_end0
  obtain ⟨hown3, hat3, hF3⟩ := H3.out
  have hlen : (xs.drop N).length = N3 := by have := HN3.out; simp at this ⊢; omega
  have hv : (Value.slice A3 N3 c3).ownBlock = (Value.slice A H c).ownBlock ∨ ∀ q, (Value.slice A3 N3 c3).ownBlock = some q → w2.heap.size ≤ q := by
    rcases hat3 with h | h
    · exact .inl (h.trans (ob_eq _ _ _ _ _))
    · exact .inr fun q hq => by rw [h] at hq; cases hq; exact Nat.le_refl _
  have hz : w.heap.size ≤ w2.heap.size := Nat.le_trans H1.out.2.size H2.out.2.1.size
  refine ⟨⟨_, rfl⟩, _, H2.out.1.data hF3 (v' := .slice A3 N3 c3) (ys := xs.drop N) (by rw [hlen]; simpa using hown3), ?_, ?_⟩
  · exact ((H1.out.2.mono fun q hq => .inl (.inl hq)).trans H2.out.2.1 fun _ h => h.elim).trans ((hF3.mono (K' := fun q => q = b ∨ (Value.slice A H c).ownBlock = some q) fun q hq => .inl (.inr hq)).setCell ⟨b, 5, none⟩ (.inl (.inl rfl)) _) fun q hq => .inl hq
  · exact hv.imp id fun h q hq => Nat.le_trans hz (h q hq)
end Go.Proofs.Ytecpbnkkgdppoaa
