/- Both cutters, apart: what a feed of one and of the other leaves. -/
import Derived.Test.YtecpbnkkgdppoaaRd
namespace Go.Proofs.Ytecpbnkkgdppoaa
open Go.RowKit
def Both (w5 wr : World) (nb b b2 S L F : Nat) (u : List UInt8) : Prop :=
  ∃ vc vr, CSt wr nb b S L F (u.length / S) vc (heldN S L u) ∧ RCt wr nb b2 S L F (u.length / S) vr u ∧ (∀ q, vc.ownBlock = some q → vr.ownBlock ≠ some q) ∧ b ≠ b2 ∧ Frm (fun q => q = b ∨ q = b2 ∨ nb ≤ q) w5 wr
/-- One was fed, the other not yet. -/
def Mid (w5 w6 : World) (nb b b2 m0 S L F : Nat) (u u' : List UInt8) (v : Value) (ys : List Bk) : Prop :=
  ∃ vc vr, ys.map (·.c) = newsN S L F u u' ∧ BR w6 m0 (fun _ => False) v ys ∧ CSt w6 nb b S L F (u'.length / S) vc (heldN S L u') ∧ RCt w6 nb b2 S L F (u.length / S) vr u ∧ (∀ q, vc.ownBlock = some q → vr.ownBlock ≠ some q) ∧ (∀ q, vr.ownBlock = some q → q < m0) ∧ b2 < m0 ∧ b ≠ b2 ∧ m0 ≤ w6.heap.size ∧ Frm (fun q => q = b ∨ q = b2 ∨ nb ≤ q) w5 w6
theorem Mid.keptF {w5 w6 w7 : World} {nb b b2 m0 S L F : Nat} {u u' : List UInt8} {v : Value} {ys : List Bk} (h : Mid w5 w6 nb b b2 m0 S L F u u' v ys) (hF : Frm (fun _ => False) w6 w7) : Mid w5 w7 nb b b2 m0 S L F u u' v ys := by
  obtain ⟨vc, vr, h1, h2, h3, h4, h5, h6, h7, h8, h9, h10⟩ := h
  exact ⟨vc, vr, h1, h2.step hF (fun _ h => h.elim) (fun _ h => h.elim), h3.keptF hF, h4.keptF hF, h5, h6, h7, h8, Nat.le_trans h9 hF.size, h10.trans hF fun _ h => h.elim⟩
theorem Both.keptF {w5 w6 w7 : World} {nb b b2 S L F : Nat} {u : List UInt8} (h : Both w5 w6 nb b b2 S L F u) (hF : Frm (fun _ => False) w6 w7) : Both w5 w7 nb b b2 S L F u := by
  obtain ⟨vc, vr, h3, h4, h5, h8, h10⟩ := h
  exact ⟨vc, vr, h3.keptF hF, h4.keptF hF, h5, h8, h10.trans hF fun _ h => h.elim⟩
theorem both_feed {w w5 wr : World} {nb b b2 S L F : Nat} {u x : List UInt8} {A : Option Addr} {m c : Nat} (hC : Cut S L F) (h : Both w5 wr nb b b2 S L F u) (hb : w.heap.size ≤ b) (hb2 : w.heap.size ≤ b2) (hbn : w.heap.size ≤ nb) (hw : w.heap.size ≤ wr.heap.size) (hx : Sl wr (fun q => q < w.heap.size) (.slice A m c) (bv x)) (hs : (u ++ x).length ≤ 900000) :
    Calls Try.prog 22 #[.pointer (some ⟨b, 0, none⟩), .slice (some ⟨wr.heap.size, 0, none⟩) 1 1] (wr.alloc (.cells #[.slice A m c] 22)) fun e w6 => ∃ Af Nf cf ys, e = .returned (.slice Af Nf cf) ∧ Mid w5 w6 nb b b2 (wr.heap.size + 1) S L F u (u ++ x) (.slice Af Nf cf) ys := by
  obtain ⟨vc, vr, hCS, hR, hap, hne, hF⟩ := h
  have hFa : Frm (fun _ => False) wr (wr.alloc (.cells #[.slice A m c] 22)) := (Frm.refl _ wr).alloc _
  have hz : (wr.alloc (.cells #[.slice A m c] 22)).heap.size = wr.heap.size + 1 := by simp
  have hsl : Sl (wr.alloc (.cells #[.slice A m c] 22)) (fun q => q < w.heap.size ∨ q = wr.heap.size) (.slice (some ⟨wr.heap.size, 0, none⟩) 1 1) [.slice A m c] :=
    ⟨_, 1, 1, rfl, rfl, Nat.le_refl _, by omega, .inr ⟨_, 0, rfl, .inr rfl, fun i hi => by
      rw [cell_of_row _ _ _ #[.slice A m c] 22 (0, 0) (heap_alloc_new wr _), Nat.zero_add, ← Array.getElem?_toList]
      exact List.getElem?_eq_getElem hi⟩⟩
  have hx' : Sl (wr.alloc (.cells #[.slice A m c] 22)) (fun q => q < w.heap.size ∨ q = wr.heap.size) (.slice A m c) (bv x) := hx.keptTo fun q hq => ⟨hFa.block q (by omega) id, .inl hq⟩
  generalize wr.alloc (.cells #[.slice A m c] 22) = w1 at *
  have hC1 := hCS.keptF hFa
  have hvl : ∀ q, vc.ownBlock = some q → nb ≤ q ∧ q < wr.heap.size := fun q hq => ⟨(hCS.lt.2 q hq).1, (hCS.lt.2 q hq).2.1⟩
  have hvr : ∀ q, vr.ownBlock = some q → q < wr.heap.size := fun q hq => (hR.lt.2 q hq).2.1
  have hbl := hCS.lt.1
  have hbl2 := hR.lt.1
  refine (feed_any nb b S L F u vc _ 1 1 [.slice A m c] [x] (fun q => q < w.heap.size ∨ q = wr.heap.size) w1 hC hC1 hsl ⟨rfl, fun i v l hv hl => ?_⟩ (fun q hq => ⟨by omega, ?_⟩) (by simp at hs ⊢; omega)).mono ?_
  · cases i with
    | zero => simp at hv hl; subst hv hl; exact hx'
    | succ i => simp at hv
  · rintro (h | h)
    · omega
    · have := hvl q h; omega
  · rintro e w2 ⟨vf, zs, rfl, h1, h2, h3, ⟨vc', h4, h5⟩, h6⟩
    simp only [List.flatten_cons, List.flatten_nil, List.append_nil] at h1 h4
    obtain ⟨Af, cf, rfl, -, -⟩ := own_form h2
    rw [hz] at h2 h3 h5
    have hR2 : RCt w2 nb b2 S L F (u.length / S) vr u := (hR.keptF hFa).kept h6 (fun hk => by
      rcases hk with hk | hk
      · exact hne hk.symm
      · exact own_blk_ne hC1.2.1 (hR.1.kept hFa id) (by decide) hk) (fun q hq hk => by
      rcases hk with hk | hk
      · exact own_blk_ne (hFa.own hR.2.1 fun _ _ => id) hC1.1 (by decide) (by rw [hq, hk])
      · exact hap q hk hq)
    refine ⟨Af, _, cf, zs, rfl, vc', vr, h1, ⟨h2, fun y hy => ⟨(h3 y hy).1, fun _ _ => id⟩, fun _ _ => id⟩, h4, hR2, fun q hq hk => ?_, fun q hq => by have := hvr q hq; omega, by omega, hne, by have := h6.size; omega, ?_⟩
    · rcases h5 q hq with h | h
      · exact hap q h hk
      · have := hvr q hk; omega
    · refine (hF.trans hFa fun _ h => h.elim).trans h6 fun q hq => ?_
      rcases hq with rfl | hq
      · exact .inl (.inl rfl)
      · exact .inl (.inr (.inr (hvl q hq).1))
theorem both_rfeed {w w5 w7 : World} {nb b b2 m0 S L F : Nat} {u x : List UInt8} {v : Value} {ys : List Bk} {A : Option Addr} {m c : Nat} (hC : Cut S L F) (h : Mid w5 w7 nb b b2 m0 S L F u (u ++ x) v ys) (hx : Sl w7 (fun q => q < w.heap.size) (.slice A m c) (bv x)) (hs : (u ++ x).length ≤ 900000) :
    Calls Try.prog 24 #[.pointer (some ⟨b2, 0, none⟩), .slice A m c] w7 fun e w8 => ∃ Af Nf cf zs, e = .returned (.slice Af Nf cf) ∧ ys.map (·.c) = zs.map (·.c) ∧ BR w8 m0 (fun _ => False) v ys ∧ BR w8 m0 (fun _ => False) (.slice Af Nf cf) zs ∧ Both w5 w8 nb b b2 S L F (u ++ x) := by
  obtain ⟨vc, vr, h1, h2, h3, h4, h5, h6, h7, h8, h9, h10⟩ := h
  refine (rfeed_any nb b2 S L F vr u x _ A m c w7 hC h4 hx hs).mono ?_
  rintro e w8 ⟨v2, zs, vr', rfl, k1, k2, k3, k4, k5⟩
  obtain ⟨Af, cf, rfl⟩ := k2.form
  have hC8 : CSt w8 nb b S L F ((u ++ x).length / S) vc (heldN S L (u ++ x)) := h3.kept k5 (fun hk => by
    rcases hk with hk | hk
    · exact h8 hk
    · exact own_blk_ne h4.2.1 h3.1 (by decide) hk) (fun q hq hk => by
    rcases hk with hk | hk
    · exact own_blk_ne h3.2.1 h4.1 (by decide) (by rw [hq, hk])
    · exact h5 q hq hk)
  refine ⟨Af, _, cf, zs, rfl, h1.trans k1.symm, h2.step k5 (fun q hq => .inl ?_) (fun _ h => h.elim), k2.mono h9 (fun _ h => h.elim), vc, vr', hC8, k3, fun q hq hk => ?_, h8, h10.trans k5 fun q hq => ?_⟩
  · rcases hq with rfl | hq
    · exact h7
    · exact h6 q hq
  · rcases k4 with k4 | k4
    · exact h5 q hq (k4 ▸ hk)
    · have := k4 q hk; have := (h3.lt.2 q hq).2.1; omega
  · rcases hq with rfl | hq
    · exact .inl (.inr (.inl rfl))
    · exact .inl (.inr (.inr (h4.lt.2 q hq).1))
end Go.Proofs.Ytecpbnkkgdppoaa
