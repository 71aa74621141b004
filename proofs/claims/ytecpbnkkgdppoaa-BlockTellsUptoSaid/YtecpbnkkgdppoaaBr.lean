/- Rows of blocks of one's own, apart from a cutter's row. -/
import Derived.Test.YtecpbnkkgdppoaaWe
namespace Go.Proofs.Ytecpbnkkgdppoaa
open Go.RowKit
theorem own_apart {w : World} {b1 b2 n1 n2 z1 z2 q : Nat} {e1 e2 : TypeId} {v1 v2 : Value} {x1 x2 : List Value} (h1 : w.ownsRow b1 e1 z1 v1 n1 x1) (h2 : w.ownsRow b2 e2 z2 v2 n2 x2) (hne : e1 ≠ e2) (hq : v2.ownBlock = some q) : v1.ownBlock ≠ some q := by
  obtain ⟨cs, hb⟩ := own_blk h2 q hq
  exact own_blk_ne h1 hb hne
/-- A slice of blocks bs in memory of its own, from nb on, apart from X. -/
def BR (w : World) (nb : Nat) (X : Nat → Prop) (v : Value) (ys : List Bk) : Prop :=
  w.ownsRow nb 40 4 v ys.length (WB.cellsOf ys) ∧ (∀ y ∈ ys, kGood nb y w ∧ ∀ q, y.v.ownBlock = some q → ¬ X q) ∧ ∀ q, v.ownBlock = some q → ¬ X q
theorem BR.nil (w : World) (nb : Nat) (X : Nat → Prop) : BR w nb X (.slice none 0 0) [] := ⟨World.ownsRow_nil _ _ _ _, by simp, fun q h => by cases h⟩
theorem BR.step {w w' : World} {nb : Nat} {X X' K : Nat → Prop} {v : Value} {ys : List Bk} (h : BR w nb X v ys) (hF : Frm K w w') (hK : ∀ q, K q → q < nb ∨ X q) (hX : ∀ q, X' q → X q ∨ w.heap.size ≤ q) : BR w' nb X' v ys := by
  obtain ⟨h1, h2, h3⟩ := h
  refine ⟨hF.own h1 fun q hq hk => ?_, fun y hy => ⟨hF.own (h2 y hy).1 fun q hq hk => ?_, fun q hq hx => ?_⟩, fun q hq hx => ?_⟩
  · rcases hK q hk with h | h
    · have := (World.ownsRow.lt h1 q hq).1; omega
    · exact h3 q hq h
  · rcases hK q hk with h | h
    · have := (World.ownsRow.lt (h2 y hy).1 q hq).1; omega
    · exact (h2 y hy).2 q hq h
  · rcases hX q hx with h | h
    · exact (h2 y hy).2 q hq h
    · have := (World.ownsRow.lt (h2 y hy).1 q hq).2; omega
  · rcases hX q hx with h | h
    · exact h3 q hq h
    · have := (World.ownsRow.lt h1 q hq).2; omega
theorem BR.mono {w : World} {nb nb' : Nat} {X X' : Nat → Prop} {v : Value} {ys : List Bk} (h : BR w nb X v ys) (hn : nb' ≤ nb) (hX : ∀ q, X' q → X q) : BR w nb' X' v ys :=
  ⟨World.ownsRow.mono h.1 hn, fun y hy => ⟨World.ownsRow.mono (h.2.1 y hy).1 hn, fun q hq hx => (h.2.1 y hy).2 q hq (hX q hx)⟩, fun q hq hx => h.2.2 q hq (hX q hx)⟩
theorem BR.form {w : World} {nb : Nat} {X : Nat → Prop} {v : Value} {ys : List Bk} (h : BR w nb X v ys) : ∃ A c, v = .slice A ys.length c := by
  obtain ⟨A, c, h1, -, -⟩ := own_form h.1
  exact ⟨A, c, h1⟩
theorem BR.bs {w : World} {nb c m : Nat} {X : Nat → Prop} {A : Option Addr} {ys : List Bk} (h : BR w nb X (.slice A m c) ys) : BsAt w (fun q => nb ≤ q ∧ q < w.heap.size) A m c ys := by
  obtain ⟨A', c', e, hb⟩ := BsAt.of_own (K := fun q => nb ≤ q ∧ q < w.heap.size) h.1 (fun y hy => (h.2.1 y hy).1) fun q a b => ⟨a, b⟩
  cases e
  exact hb
theorem BR.one {w : World} {nb : Nat} {X : Nat → Prop} {v : Value} {ys : List Bk} (h : BR w nb X v ys) : ∀ u ∈ WB.cellsOf ys, u.oneCell' = true := by
  intro u hu
  obtain ⟨y, hy, hu⟩ := List.mem_flatMap.1 hu
  obtain ⟨A, c, hv, -, -⟩ := own_form (h.2.1 y hy).1
  simp only [bCells, List.mem_cons, List.not_mem_nil, or_false] at hu
  rcases hu with rfl | rfl | rfl | rfl
  · rfl
  · rfl
  · rfl
  · rw [hv]; rfl
/-- append of blocks of one's own behind others. -/
theorem br_append {w : World} {ops : Array Oper} {rest : List Oper} {o : Oper} {a : Act} {Q : Exit → Act → World → Prop} (hgd : o.guard = none) (s x : Operand)
    (ho : o.op = .call { callee := .builtin .append, args := #[s, x], argTypes := #[24, 24] }) (nb : Nat) (X : Nat → Prop) (v u : Value) (ys zs : List Bk) (hs : a.eval s = v) (hx : a.eval x = u) (h1 : BR w nb X v ys) (h2 : BR w nb X u zs)
    (hl : ys.length + zs.length ≤ 1000000) (hX : ∀ q, X q → q < w.heap.size) (hb : nb ≤ w.heap.size)
    (h : ∀ A' N c' w', Hid (N = ys.length + zs.length ∧ BR w' nb X (.slice A' N c') (ys ++ zs) ∧ Frm (fun q => v.ownBlock = some q) w w') → wpList Try.prog ops Q rest (a.put o.dst (.slice A' N c')) w') : wpList Try.prog ops Q (o :: rest) a w := by
  obtain ⟨i0, hi, hz0, hz1, hz2⟩ := info_parts infoB
  refine wpList_append_slz hgd s x 24 ho nb 40 i0 _ 4 48 Try.underlying24 hi hz0 hz1 hz2 (by rfl) (by decide) v ys.length (WB.cellsOf ys) hs h1.1 (fun _ => True) u zs.length (WB.cellsOf zs) hx (SlZ.of_own h2.1 fun _ _ => trivial) (cellsb_len zs) h2.one (by unfold maxLen; omega) (by omega) hb ?_
  intro A' N c' w' HN hN1 hc hown hg hat
  refine h A' N c' w' (Lib.hid ⟨HN.out, ?_, Frm.of_grown hg⟩)
  have hF : Frm (fun q => v.ownBlock = some q) w w' := Frm.of_grown hg
  have hl : N = (ys ++ zs).length := by rw [List.length_append]; exact HN.out
  refine ⟨?_, fun y hy => ?_, fun q hq hx => ?_⟩
  · have e : WB.cellsOf (ys ++ zs) = WB.cellsOf ys ++ WB.cellsOf zs := by simp [WB.cellsOf]
    rw [e, ← hl]
    exact hown
  · rcases List.mem_append.1 hy with hy | hy
    · exact ⟨hF.own (h1.2.1 y hy).1 fun q hq hk => own_apart (h1.2.1 y hy).1 h1.1 (by decide) hk hq, (h1.2.1 y hy).2⟩
    · exact ⟨hF.own (h2.2.1 y hy).1 fun q hq hk => own_apart (h2.2.1 y hy).1 h1.1 (by decide) hk hq, (h2.2.1 y hy).2⟩
  · rcases hat with e | e
    · exact h1.2.2 q (e ▸ hq) hx
    · rw [e] at hq
      cases hq
      have := hX _ hx
      omega
/-- The blocks that a cutter told of u, in a row of their own; the cutter, apart from these. -/
def ChAt (wn wr : World) (nb b S L F : Nat) (v : Value) (N : Nat) (u : List UInt8) : Prop :=
  ∃ ys vc, N = ys.length ∧ ys.map (·.c) = newsN S L F [] u ∧ BR wr nb (fun q => vc.ownBlock = some q) v ys ∧ CSt wr (b + 1) b S L F (u.length / S) vc (heldN S L u) ∧ (∀ q, vc.ownBlock = some q → nb ≤ q) ∧ Frm (fun q => q = b) wn wr
theorem news_app (S L F : Nat) (u x : List UInt8) (hS : 1 ≤ S) : newsN S L F [] u ++ newsN S L F u (u ++ x) = newsN S L F [] (u ++ x) := by
  have e0 : ([] : List UInt8).length / S = 0 := by simp
  have hd : u.length / S ≤ (u ++ x).length / S := Nat.div_le_div_right (by simp)
  unfold newsN
  rw [e0, Nat.sub_zero, Nat.sub_zero]
  have e1 : (List.range' 0 (u.length / S)).map (blkN S L F u) = (List.range' 0 (u.length / S)).map (blkN S L F (u ++ x)) := by
    refine List.map_congr_left fun n hn => (blk_more S L F u x n ?_).symm
    rw [List.mem_range'_1] at hn
    have h1 := div_low u.length S hS
    exact Nat.le_trans (Nat.mul_le_mul_right S (show n + 1 ≤ u.length / S by omega)) h1.1
  rw [e1, ← List.map_append]
  congr 1
  have := List.range'_append_1 (s := 0) (m := u.length / S) (n := (u ++ x).length / S - u.length / S)
  rw [Nat.zero_add] at this
  rw [this]
  congr 1
  omega
/-- What a feed of one chunk tells. -/
def FdMid (wn w2 : World) (nb b S L F : Nat) (v vf : Value) (N Nf : Nat) (u' : List UInt8) : Prop :=
  ∃ ys zs vc, N = ys.length ∧ Nf = zs.length ∧ (ys ++ zs).map (·.c) = newsN S L F [] u' ∧ BR w2 nb (fun q => vc.ownBlock = some q) v ys ∧ BR w2 nb (fun q => vc.ownBlock = some q) vf zs ∧ CSt w2 (b + 1) b S L F (u'.length / S) vc (heldN S L u') ∧ (∀ q, vc.ownBlock = some q → nb ≤ q) ∧ Frm (fun q => q = b) wn w2
theorem feed_more {wn wr : World} {nb b S L F N : Nat} {v : Value} {u x : List UInt8} {A : Option Addr} {m c : Nat} (hC : Cut S L F) (h : ChAt wn wr nb b S L F v N u) (hbn : b < nb) (hnb : wn.heap.size = nb) (hx : Sl wr (fun q => q ≠ b ∧ q < nb) (.slice A m c) (bv x)) (hs : (u ++ x).length ≤ 900000) :
    Calls Try.prog 22 #[.pointer (some ⟨b, 0, none⟩), .slice (some ⟨wr.heap.size, 0, none⟩) 1 1] (wr.alloc (.cells #[.slice A m c] 22)) fun e w2 => ∃ Af Nf cf, e = .returned (.slice Af Nf cf) ∧ FdMid wn w2 nb b S L F v (.slice Af Nf cf) N Nf (u ++ x) := by
  obtain ⟨ys, vc, hN, hys, hB, hCS, hV, hF⟩ := h
  have hsz := hF.size
  have hFa : Frm (fun _ => False) wr (wr.alloc (.cells #[.slice A m c] 22)) := (Frm.refl _ wr).alloc _
  have hz : (wr.alloc (.cells #[.slice A m c] 22)).heap.size = wr.heap.size + 1 := by simp
  have hsl : Sl (wr.alloc (.cells #[.slice A m c] 22)) (fun q => q ≠ b ∧ q < nb ∨ q = wr.heap.size) (.slice (some ⟨wr.heap.size, 0, none⟩) 1 1) [.slice A m c] :=
    ⟨_, 1, 1, rfl, rfl, Nat.le_refl _, by omega, .inr ⟨_, 0, rfl, .inr rfl, fun i hi => by
      rw [cell_of_row _ _ _ #[.slice A m c] 22 (0, 0) (heap_alloc_new wr _), Nat.zero_add, ← Array.getElem?_toList]
      exact List.getElem?_eq_getElem hi⟩⟩
  have hx' : Sl (wr.alloc (.cells #[.slice A m c] 22)) (fun q => q ≠ b ∧ q < nb ∨ q = wr.heap.size) (.slice A m c) (bv x) := hx.keptTo fun q hq => ⟨hFa.block q (by omega) id, .inl hq⟩
  generalize wr.alloc (.cells #[.slice A m c] 22) = w1 at *
  have hC1 := hCS.keptF hFa
  have hvl : ∀ q, vc.ownBlock = some q → q < wr.heap.size := fun q hq => (hCS.lt.2 q hq).2.1
  refine (feed_any (b + 1) b S L F u vc _ 1 1 [.slice A m c] [x] (fun q => q ≠ b ∧ q < nb ∨ q = wr.heap.size) w1 hC hC1 hsl ⟨rfl, fun i v l hv hl => ?_⟩ (fun q hq => ⟨by omega, ?_⟩) (by simp at hs ⊢; omega)).mono ?_
  · cases i with
    | zero => simp at hv hl; subst hv hl; exact hx'
    | succ i => simp at hv
  · rintro (h | h)
    · have := hCS.lt.1; omega
    · have := hV q h; have := hvl q h; omega
  · rintro e w2 ⟨vf, zs, rfl, h1, h2, h3, ⟨vc', h4, h5⟩, h6⟩
    simp only [List.flatten_cons, List.flatten_nil, List.append_nil] at h1 h4
    obtain ⟨Af, cf, rfl, -, -⟩ := own_form h2
    have hB1 : BR w1 nb (fun q => vc.ownBlock = some q) v ys := hB.step hFa (fun _ h => h.elim) fun q h => .inl h
    refine ⟨Af, _, cf, rfl, ys, zs, vc', hN, rfl, ?_, ?_, ⟨World.ownsRow.mono h2 (by omega), fun y hy => ⟨World.ownsRow.mono (h3 y hy).1 (by omega), fun q hq hx => (h3 y hy).2 q hq (h4.row.2 hx)⟩, fun q hq hx => own_apart h2 h4.2.1 (by decide) hx hq⟩, h4, fun q hq => ?_, ?_⟩
    · rw [List.map_append, hys, h1]
      exact news_app S L F u x hC.s1
    · refine hB1.step h6 (fun q hq => ?_) fun q hq => h5 q hq
      rcases hq with rfl | hq
      · exact .inl hbn
      · exact .inr hq
    · rcases h5 q hq with h | h
      · exact hV q h
      · omega
    · refine (hF.trans hFa fun _ h => h.elim).trans h6 fun q hq => ?_
      rcases hq with rfl | hq
      · exact .inl rfl
      · exact .inr (Nat.le_trans (Nat.le_of_eq hnb) (hV q hq))
theorem FdMid.app {wn w2 w3 : World} {nb b S L F : Nat} {v : Value} {u' : List UInt8} {A : Option Addr} {m c : Nat} {ys zs : List Bk} {vc : Value} (hm : m = ys.length + zs.length) (hy : (ys ++ zs).map (·.c) = newsN S L F [] u') (h : BR w3 nb (fun q => vc.ownBlock = some q) (.slice A m c) (ys ++ zs))
    (hb0 : BR w2 nb (fun q => vc.ownBlock = some q) v ys) (hC : CSt w2 (b + 1) b S L F (u'.length / S) vc (heldN S L u')) (hV : ∀ q, vc.ownBlock = some q → nb ≤ q) (hF : Frm (fun q => q = b) wn w2) (hF3 : Frm (fun q => v.ownBlock = some q) w2 w3) (hbn : b < nb) (hnb : wn.heap.size = nb) : ChAt wn w3 nb b S L F (.slice A m c) m u' := by
  refine ⟨ys ++ zs, vc, by rw [List.length_append]; exact hm, hy, h, hC.kept hF3 (fun hk => ?_) fun q hq hk => hb0.2.2 q hk hq, hV, hF.trans hF3 fun q hq => .inr ?_⟩
  · have := (World.ownsRow.lt hb0.1 b hk).1; omega
  · exact Nat.le_trans (Nat.le_of_eq hnb) (World.ownsRow.lt hb0.1 q hq).1
end Go.Proofs.Ytecpbnkkgdppoaa
