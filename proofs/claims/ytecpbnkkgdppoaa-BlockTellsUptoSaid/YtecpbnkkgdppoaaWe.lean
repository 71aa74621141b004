/- What the laws use: making, feeding, closing; slices of blocks, cut. -/
import Derived.Test.YtecpbnkkgdppoaaRt
import Derived.Test.YtecpbnkkgdppoaaSab
import Derived.Test.YtecpbnkkgdppoaaFeed
namespace Go.Proofs.Ytecpbnkkgdppoaa
open Go.RowKit
/-- All blocks of the memory but b. -/
def Bb (b : Nat) (w : World) (q : Nat) : Prop := q ≠ b ∧ q < w.heap.size
theorem BsAt.step {w w' : World} {b : Nat} {A : Option Addr} {m c : Nat} {bs : List Bk} (h : BsAt w (Bb b w) A m c bs) (hF : Frm (fun q => q = b) w w') : BsAt w' (Bb b w') A m c bs :=
  h.keptTo fun q hq => ⟨hF.block q hq.2 hq.1, hq.1, Nat.lt_of_lt_of_le hq.2 hF.size⟩
theorem Frm.b {w w' : World} {b : Nat} (hF : Frm (fun _ => False) w w') : Frm (fun q => q = b) w w' := hF.mono fun _ h => h.elim
theorem BsAt.take {w : World} {K : Nat → Prop} {A : Option Addr} {m c : Nat} {bs : List Bk} (h : BsAt w K A m c bs) (N : Nat) (hN : N ≤ m) : BsAt w K A N c (bs.take N) := by
  obtain ⟨h1, h2, h3, h4⟩ := h
  refine ⟨by rw [List.length_take]; omega, by omega, h3, fun i hi => ?_⟩
  have hi' : i < bs.length := by rw [List.length_take] at hi; omega
  rw [List.getElem_take]
  exact h4 i hi'
theorem BsAt.drop {w : World} {K : Nat → Prop} {A : Option Addr} {m c : Nat} {bs : List Bk} (h : BsAt w K A m c bs) (N : Nat) (hN : N ≤ m) : BsAt w K (if c = N then A else A.map (·.add (N * 4))) (m - N) (c - N) (bs.drop N) := by
  obtain ⟨h1, h2, h3, h4⟩ := h
  refine ⟨by rw [List.length_drop]; omega, by omega, by omega, fun i hi => ?_⟩
  rw [List.length_drop] at hi
  obtain ⟨g, o, rfl, hg, d0, d1, d2, d3, hs⟩ := h4 (N + i) (by omega)
  rw [List.getElem_drop]
  have e : (o + N * 4) + i * 4 = o + (N + i) * 4 := by omega
  refine ⟨g, o + N * 4, ?_, hg, by rw [e]; exact d0, by rw [e]; exact d1, by rw [e]; exact d2, by rw [e]; exact d3, hs⟩
  rw [if_neg (by omega)]
  show some (Addr.add _ _) = _
  unfold Addr.add
  split
  · rename_i h0; rw [h0]; rfl
  · rfl
theorem of_eq (S L F : Nat) (t : List UInt8) (bs : List Bc) (A : Option Addr) (m c : Nat) (w : World) (hC : Cut S L F) (hsl : Sl w (fun q => q < w.heap.size) (.slice A m c) (bv t)) (ht : t.length ≤ 1000000) (hb : blocksN S L F t = bs) :
    Calls Try.prog 11 #[.int .i64 S, .int .i64 L, .int .i64 F, .slice A m c] w fun e w' => ∃ A' c' ys, e = .returned (.tuple #[.slice A' ys.length c', .int .i64 0]) ∧ ys.map (·.c) = bs ∧ BsAt w' (fun q => w.heap.size ≤ q ∧ q < w'.heap.size) A' ys.length c' ys ∧ Frm (fun _ => False) w w' := by
  refine (of_any S L F t A m c w hsl ht).mono fun e w' h => ?_
  unfold OfRes at h
  rw [if_pos hC.may] at h
  obtain ⟨v, rfl, ys, h1, h2, h3, h4⟩ := h
  obtain ⟨A', c', rfl, h5⟩ := BsAt.of_own (K := fun q => w.heap.size ≤ q ∧ q < w'.heap.size) h2 h3 fun q a b => ⟨a, b⟩
  simp only [Int.toNat_natCast] at h1
  exact ⟨A', c', ys, rfl, h1.trans hb, h5, h4⟩
theorem of_no (s l f : Int) (t : List UInt8) (A : Option Addr) (m c : Nat) (w : World) (hm : mayB s l f = false) (hsl : Sl w (fun q => q < w.heap.size) (.slice A m c) (bv t)) (ht : t.length ≤ 1000000) :
    Calls Try.prog 11 #[.int .i64 s, .int .i64 l, .int .i64 f, .slice A m c] w fun e w' => e = .returned (.tuple #[.slice none 0 0, .int .i64 2]) ∧ Frm (fun _ => False) w w' := by
  refine (of_any s l f t A m c w hsl ht).mono fun e w' h => ?_
  unfold OfRes at h
  rw [if_neg (by rw [hm]; simp)] at h
  exact h
theorem new_eq (S L F : Nat) (w : World) (hC : Cut S L F) : Calls Try.prog 13 #[.int .i64 S, .int .i64 L, .int .i64 F] w fun e w' => ∃ b, e = .returned (.tuple #[.pointer (some ⟨b, 0, none⟩), .int .i64 0]) ∧ w.heap.size ≤ b ∧ CSt w' (b + 1) b S L F 0 (.slice none 0 0) [] ∧ Frm (fun _ => False) w w' := by
  refine (new_any S L F w).mono fun e w' h => ?_
  unfold NewRes at h
  rw [if_pos hC.may] at h
  simpa using h
theorem new_no (s l f : Int) (w : World) (hm : mayB s l f = false) : Calls Try.prog 13 #[.int .i64 s, .int .i64 l, .int .i64 f] w fun e w' => e = .returned (.tuple #[.pointer none, .int .i64 2]) ∧ Frm (fun _ => False) w w' := by
  refine (new_any s l f w).mono fun e w' h => ?_
  unfold NewRes at h
  rw [if_neg (by rw [hm]; simp)] at h
  exact h
/-- The first feed of a cutter. -/
theorem feed_first (b S L F : Nat) (A : Option Addr) (m c : Nat) (vs : List Value) (Ls : List (List UInt8)) (bs : List Bc) (w : World) (hC : Cut S L F) (h : CSt w (b + 1) b S L F 0 (.slice none 0 0) [])
    (hsl : Sl w (Bb b w) (.slice A m c) vs) (hE : Each w (Bb b w) vs Ls) (hs : Ls.flatten.length ≤ 1000000) (hb : newsN S L F [] Ls.flatten = bs) :
    Calls Try.prog 22 #[.pointer (some ⟨b, 0, none⟩), .slice A m c] w fun e w' => ∃ A' c' ys, e = .returned (.slice A' ys.length c') ∧ ys.map (·.c) = bs ∧ BsAt w' (fun q => w.heap.size ≤ q ∧ q < w'.heap.size) A' ys.length c' ys ∧ (∀ y ∈ ys, ∀ q, y.v.ownBlock = some q → ¬ Row w' b q) ∧
      CutAt w' (b + 1) b S L F Ls.flatten ∧ Frm (fun q => q = b) w w' := by
  have h0 : CSt w (b + 1) b S L F (([] : List UInt8).length / S) (.slice none 0 0) (heldN S L []) := by
    have e1 : heldN S L [] = [] := by simp [heldN]
    have e2 : ([] : List UInt8).length / S = 0 := by simp
    rw [e1, e2]; exact h
  refine (feed_any (b + 1) b S L F [] (.slice none 0 0) A m c vs Ls (Bb b w) w hC h0 hsl hE (fun q hq => ⟨hq.2, by rintro (h | h); exact hq.1 h; cases h⟩) (by simpa using hs)).mono fun e w' h => ?_
  obtain ⟨v, ys, rfl, h1, h2, h3, h4, h5⟩ := h
  obtain ⟨A', c', rfl, h6⟩ := BsAt.of_own (K := fun q => w.heap.size ≤ q ∧ q < w'.heap.size) h2 (fun y hy => (h3 y hy).1) fun q a b => ⟨a, b⟩
  exact ⟨A', c', ys, rfl, h1.trans (by simpa using hb), h6, fun y hy => (h3 y hy).2, (by obtain ⟨v, hv, -⟩ := h4; exact ⟨v, by simpa using hv⟩), h5.mono fun q hq => .inl (hq.elim id fun h => by cases h)⟩
theorem news_all (S L F : Nat) (t : List UInt8) (hS : 1 ≤ S) : newsN S L F [] t ++ lastN S L F t = blocksN S L F t := by
  have hd := div_low t.length S hS
  have h3 : (t.length / S + 1) * S = t.length / S * S + S := by rw [Nat.add_mul]; omega
  have h4 : (t.length / S + 1 + 1) * S = t.length / S * S + S + S := by rw [Nat.add_mul (t.length / S + 1), h3]; omega
  have e0 : ([] : List UInt8).length / S = 0 := by simp
  unfold newsN lastN blocksN numN
  rw [e0, Nat.sub_zero, ← List.range_eq_range']
  split
  · rename_i h
    have e : (t.length + S - 1) / S = t.length / S + 1 := div_eq _ S _ hS (by omega) (by omega)
    rw [e, List.range_succ, List.map_append]; rfl
  · rename_i h
    have e : (t.length + S - 1) / S = t.length / S := div_eq _ S _ hS (by omega) (by omega)
    rw [e, List.append_nil]
theorem close_eq (B b S L F : Nat) (t : List UInt8) (bs : List Bc) (w : World) (hC : Cut S L F) (h : CutAt w B b S L F t) (ht : t.length ≤ 900000) (hb : lastN S L F t = bs) :
    Calls Try.prog 26 #[.pointer (some ⟨b, 0, none⟩)] w fun e w' => ∃ A' c' ys, e = .returned (.slice A' ys.length c') ∧ ys.map (·.c) = bs ∧ BsAt w' (fun q => w.heap.size ≤ q ∧ q < w'.heap.size) A' ys.length c' ys ∧ ShutAt w' b S L F ∧ Frm (fun q => q = b) w w' := by
  obtain ⟨v, h⟩ := h
  refine (close_any B b S L F t v w hC h ht).mono fun e w' h => ?_
  obtain ⟨v, ys, rfl, h1, h2, h3, h4, h5⟩ := h
  obtain ⟨A', c', rfl, h6⟩ := BsAt.of_own (K := fun q => w.heap.size ≤ q ∧ q < w'.heap.size) h2 h3 fun q a b => ⟨a, b⟩
  exact ⟨A', c', ys, rfl, h1.trans hb, h6, h4, h5⟩
theorem pending_eq (B b S L F : Nat) (t : List UInt8) (w : World) (hC : Cut S L F) (h : CutAt w B b S L F t) (ht : t.length ≤ 900000) (o k : Nat) (ho : t.length - t.length / S * S = o) (hk : warmN S L (t.length / S) = k) :
    Calls Try.prog 23 #[.pointer (some ⟨b, 0, none⟩)] w fun e w' => e = .returned (.tuple #[.int .i64 o, .int .i64 k]) ∧ Frm (fun _ => False) w w' := by
  obtain ⟨v, h⟩ := h
  have hlh := held_length S L t hC.s1
  have hwl := warm_le S L (t.length / S)
  have hdn := Nat.div_le_self t.length S
  have hl2 := hC.l2
  refine (pending_any B b S L F (t.length / S) v (heldN S L t) w hC h (by omega) (by omega) (by omega)).mono ?_
  rintro e w' ⟨rfl, hF⟩
  rw [hlh, hk, Nat.add_sub_cancel, ho]
  exact ⟨rfl, hF⟩
theorem sl_new (w : World) (t : TypeId) (cs : Array Value) (fr : Nat × Nat) (l : List UInt8) (n : Nat) (h : cs.toList = bv l) (hn : n = l.length) (hl : l.length ≤ 1000000) : Sl (w.alloc (.cells cs t fr)) (fun q => q = w.heap.size) (.slice (some ⟨w.heap.size, 0, none⟩) n n) (bv l) := by
  subst hn
  refine ⟨_, _, _, rfl, by rw [bv_length], Nat.le_refl _, by omega, .inr ⟨_, 0, rfl, rfl, fun i hi => ?_⟩⟩
  rw [cell_of_row _ _ _ cs t fr (heap_alloc_new w _), Nat.zero_add, ← Array.getElem?_toList, h]
  exact List.getElem?_eq_getElem hi
end Go.Proofs.Ytecpbnkkgdppoaa
