/- The walk of source.New. -/
import Derived.Test.YtddhejgbidmmjaaWa
namespace Go.Proofs.Ytddhejgbidmmjaa
open Go.RowKit
def NewRel (w : World) (b : Nat) (brk : Bool) (L : List (List UInt8)) (k : Nat) (wr : World) : Prop :=
  ∃ v vs, Blk wr b 44 #[v, .bool brk, .int .i64 0] ∧ wr.ownsRow w.heap.size 30 1 v k vs ∧ Each wr (TK wr (fun g => w.heap.size ≤ g) 5) vs (L.take k) ∧ Frm (fun _ => False) w wr

def NewPost (brk : Bool) (L : List (List UInt8)) (w : World) (e : Ending) (w' : World) : Prop :=
  ∃ b K, e = .returned (.pointer (some ⟨b, 0, none⟩)) ∧ SrcAt w' K b L brk 0 ∧ (∀ k, K k → w.heap.size ≤ k) ∧ Frm (fun _ => False) w w'
theorem new_done {w wr : World} {brk : Bool} {L : List (List UInt8)} (hL : L.length ≤ 1000000) (ht : tot L ≤ 100000000) (h : NewRel w w.heap.size brk L L.length wr) : NewPost brk L w (.returned (.pointer (some ⟨w.heap.size, 0, none⟩))) wr := by
  obtain ⟨v, vs, hb, hown, hE, hF⟩ := h
  rw [List.take_length] at hE
  refine ⟨w.heap.size, fun g => w.heap.size ≤ g ∧ g < wr.heap.size, rfl, ⟨v, vs, hb, ⟨Nat.le_refl _, hb.lt⟩, fun k hk => hk.2, OSl.of_own hown fun g hg => hown.lt g hg, hE.kept fun k hk => ⟨rfl, hk.kept rfl fun h => ⟨h, hk.lt⟩⟩, by omega, by omega⟩, fun k hk => hk.1, hF⟩
theorem new_start (w : World) (brk : Bool) (L : List (List UInt8)) : NewRel w w.heap.size brk L 0 (w.alloc (.cells #[.slice none 0 0, .bool brk, .int .i64 0] 44)) :=
  ⟨_, [], Blk.new w _ _, World.ownsRow_nil _ _ _ _, ⟨by simp, fun i v l hv => by simp at hv⟩, (Frm.refl _ _).alloc _⟩
theorem Each.len_le {w : World} {K : Nat → Prop} {vs : List Value} {L : List (List UInt8)} (_ : Each w K vs L) (k : Nat) : (L.getD k []).length ≤ tot L := by
  induction L generalizing k vs with
  | nil => simp [List.getD]
  | cons l L ih =>
    cases k with
    | zero => simp
    | succ k =>
      have h := ih (vs := L.map fun l => .nilFunc) (k := k)
      clear ih
      have : ∀ (L : List (List UInt8)) k, (L.getD k []).length ≤ tot L := by
        intro L
        induction L with
        | nil => simp [List.getD]
        | cons l L ih => intro k; cases k with
          | zero => simp
          | succ k => have := ih k; simp at this ⊢; omega
      have := this L k
      simp at this ⊢
      omega
theorem new_step {w wr w1 w2 : World} {brk : Bool} {L : List (List UInt8)} {k g2 cap2 : Nat} {v u : Value} {vs : List Value} (hE : Each wr (TK wr (fun g => w.heap.size ≤ g) 5) vs (L.take k))
    (hb : Blk wr w.heap.size 44 #[v, .bool brk, .int .i64 0]) (hown : wr.ownsRow w.heap.size 30 1 v k vs) (hF : Frm (fun _ => False) w wr) (hF1 : Frm (fun _ => False) wr.drew w1)
    (hu : OSl w1 (fun x => wr.drew.heap.size ≤ x) 5 u (bv (L.getD k []))) (hown2 : w2.ownsRow w.heap.size 30 1 (.slice (some ⟨g2, 0, none⟩) (k + 1) cap2) (k + 1) (vs ++ [u]))
    (hgrow2 : (w1.alloc (.cells #[u] 30)).grownBy w2 v.ownBlock) (hk : k < L.length) :
    NewRel w w.heap.size brk L (k + 1) (w2.setCell ⟨w.heap.size, 0, none⟩ (.slice (some ⟨g2, 0, none⟩) (k + 1) cap2)) := by
  have hl1 : wr.heap.size ≤ w1.heap.size := hF1.size
  have hl2 := hgrow2.size
  simp at hl2
  have hbl := hb.lt
  have hfar : ∀ x, x < wr.heap.size → v.ownBlock ≠ some x → w2.heap[x]? = wr.heap[x]? := fun x hx hn =>
    (hgrow2.block x (by simp; omega) (Ne.symm hn)).trans ((Below.heap_alloc _ _ _ (by omega)).trans (hF1.block x hx id))
  have hfar1 : ∀ x, x < w1.heap.size → v.ownBlock ≠ some x → w2.heap[x]? = w1.heap[x]? := fun x hx hn =>
    (hgrow2.block x (by simp; omega) (Ne.symm hn)).trans (Below.heap_alloc _ _ _ (by omega))
  generalize hs : (Value.slice (some ⟨g2, 0, none⟩) (k + 1) cap2) = s at *
  have hb2 : Blk w2 w.heap.size 44 #[v, .bool brk, .int .i64 0] := (hfar _ hbl (own_blk_ne hown hb (by decide))).trans hb
  have hold : ∀ x, TK wr (fun g => w.heap.size ≤ g) 5 x → (w2.setCell ⟨w.heap.size, 0, none⟩ s).heap[x]? = wr.heap[x]? := fun x hx => by
    rw [Below.heap_setCell _ _ _ _ (hx.ne_ hb (by decide))]
    obtain ⟨_, cs, fr, hh⟩ := id hx
    exact hfar x hx.lt (own_ne hown hh (by decide))
  have hnew : ∀ x, TK w1 (fun x => wr.drew.heap.size ≤ x) 5 x → (w2.setCell ⟨w.heap.size, 0, none⟩ s).heap[x]? = w1.heap[x]? := fun x hx => by
    have hx1 : wr.heap.size ≤ x := hx.1
    rw [Below.heap_setCell _ _ _ _ (show x ≠ w.heap.size by omega)]
    exact hfar1 x hx.lt (fun e => by have := (hown.lt x e).2; omega)
  refine ⟨s, vs ++ [u], hb2.set_ 0 s, ownsRow_setCell_other hown2 (own_blk_ne hown2 hb2 (by decide)) s, ?_, ?_⟩
  · rw [List.take_succ_eq_append_getElem hk]
    refine (hE.kept fun x hx => ⟨hold x hx, hx.kept (hold x hx) id⟩).snoc ?_
    rw [show L[k] = L.getD k [] from by simp [List.getD, hk]]
    exact hu.sl.keptTo fun x hx => ⟨hnew x hx, hx.kept (hnew x hx) (fun h => by have h' : wr.heap.size ≤ x := h; omega)⟩
  · have h1 : Frm (fun _ => False) w w1 := hF.drew.trans hF1 (fun _ h => h.elim)
    exact ((h1.alloc _).grown hgrow2 (fun x hx => .inr ((hown.lt x hx).1))).setCell _ (.inr (Nat.le_refl _)) _

set_option maxHeartbeats 1000000 in
theorem new_any (brk : Bool) (v0 : Value) (vs0 : List Value) (K0 K1 : Nat → Prop) (L : List (List UInt8)) (w : World) (h : Sl w K0 v0 vs0) (he : Each w K1 vs0 L) (h1 : ∀ k, K1 k → k < w.heap.size) (h0 : ∀ k, K0 k → k < w.heap.size) (hL : L.length ≤ 1000000) (ht : tot L ≤ 100000000) :
    Calls Try.prog 8 #[.bool brk, v0] w (NewPost brk L w) := by
  obtain ⟨A, n, c, rfl, hn, hc, hm, hx⟩ := h
  have hnl : n ≤ 1000000 := by have := he.1; omega
  have hcell : ∀ k, k < n → ∃ g o, A = some ⟨g, o, none⟩ ∧ g < w.heap.size ∧ w.cell? ⟨g, o + k, none⟩ = some (vs0.getD k undef) := by
    intro k hk
    rcases hx with h | ⟨g, o, rfl, hg, hx⟩
    · omega
    · exact ⟨g, o, rfl, h0 g hg, by rw [hx k (by omega)]; simp [List.getD, List.getElem?_eq_getElem (show k < vs0.length by omega)]⟩
  have Hn := Lib.hid hn
  have Hcell := Lib.hid hcell
  clear hx hn hcell
  go_enter Try.func8, Try.ntmps8
  go_wp2_with fail
  go_loopw [13] (fun i wr => ∃ k : Nat, k ≤ n ∧ i = .int .i64 k ∧ NewRel w w.heap.size brk L k wr) (fun i _ => n - (intOf i).toNat)
  case atStart => exact ⟨0, Nat.zero_le _, rfl, new_start w brk L⟩
  case round =>
    obtain ⟨k, hk, rfl, hrel⟩ := hrel
    by_cases hlt : k < n
    · obtain ⟨v, vs, hb, hown, hE, hF⟩ := hrel
      obtain ⟨g, o, rfl, hg, hcell⟩ := Hcell.out k hlt
      generalize hu0 : vs0.getD k undef = u0 at hcell
      have Hu0 := Lib.hid hu0; clear hu0
      have hcell' : wr.cell? ⟨g, o + k, none⟩ = some u0 := hF.cell hcell id
      have hc0 : wr.cell? ⟨w.heap.size, 0, none⟩ = some v := hb.cell 0
      have hf0 : wr.frozen? ⟨w.heap.size, 0, none⟩ = false := hb.frozen 0
      obtain ⟨i0, hi, hz0, hz1, hz2⟩ := info_parts info30
      have hsrc : Sl wr (fun k => k < w.heap.size) u0 (bv (L.getD k [])) := by
        have hn := Hn.out
        refine (he.2 k u0 (L.getD k []) ?_ ?_).keptTo fun x hx => ⟨hF.block x (h1 x hx) id, h1 x hx⟩
        · rw [← Hu0.out]; simp [List.getD, List.getElem?_eq_getElem (show k < vs0.length by omega)]
        · simp [List.getD, List.getElem?_eq_getElem (show k < L.length by have := he.1; omega)]
      have hkL : k < L.length := by have := he.1; have := Hn.out; omega
      have hlen : (L.getD k []).length ≤ 100000000 := Nat.le_trans (he.len_le k) ht
      have hne := own_blk_ne hown hb (by decide)
      have hbl := hb.lt
      go_wp2_with fail
      go_region_law (first
        | (refine step_call (by rfl) (clone_any (fun k => k < w.heap.size) u0 (L.getD k []) _ (by exact hsrc) hlen) #[.tmp 23] #[30] (by rfl) (args1 (by rfl)) (Try.call17 _ _) ?_; rintro e w1 ⟨v1, rfl, hv1, hF1⟩; refine ⟨_, rfl, ?_⟩; have Hv1 := Lib.hid hv1; obtain ⟨A1, n1, c1, rfl, hn1, hnc1, hcm1, hx1⟩ := hv1; clear hn1 hx1; have hc1 := hF1.cell (a := ⟨w.heap.size, 0, none⟩) (v := v) (by exact hc0) id; have hf1 := (hF1.frozen (a := ⟨w.heap.size, 0, none⟩) (by exact hbl) id).trans hf0; have hbl1 := Nat.lt_of_lt_of_le hbl hF1.size)
        | (refine step_append_lies _ (by rfl) _ _ _ (by rfl) w.heap.size 30 i0 _ 1 24 Try.underlying22 hi hz0 hz1 hz2 rfl (by omega) v k vs (by rfl) (by exact ((hF1.own (by exact hown) (fun _ _ => id)).alloc _))
              ⟨w1.heap.size, 0, none⟩ 1 1 [.slice A1 n1 c1] (by rfl) (by rfl) (World.news_of_block (cs := #[.slice A1 n1 c1]) (t := 30) (fr := (0, 0)) (heap_alloc_new _ _)) (by simp [Value.oneCell'])
              (by omega) (by unfold maxLen; omega) (by omega) (by have := hF1.size; have := hF.size; simp at *; omega) (w1.heap.size + 1) (by simp) ?_; intro g2 cap2 w2 hown2 hgrow2 hat2 hlt2; have hc2 := (hgrow2.cell_far ⟨w.heap.size, 0, none⟩ (by simp; omega) (Ne.symm hne)).trans ((World.cell?_alloc_lt _ _ _ hbl1).trans hc1); have hf2 := (hgrow2.frozen_far ⟨w.heap.size, 0, none⟩ (by simp; omega) (Ne.symm hne)).trans ((World.frozen?_alloc_past _ _ _ hbl1).trans hf1)))
      all_goals
        have hrel' := new_step hE hb hown hF hF1 Hv1.out hown2 hgrow2 hkL
        go_wp2
        go_roundw
        case rel => exact ⟨k + 1, by omega, by go_num, hrel'⟩
        case measure => simp [intOf]; omega
    · have : k = n := by omega
      subst this
      go_wp2
      go_ret
      have hkL : k = L.length := by have := he.1; have := Hn.out; omega
      subst hkL
      exact new_done hL ht hrel
end Go.Proofs.Ytddhejgbidmmjaa
