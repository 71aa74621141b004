/- What reading a line turns: the story's block and the rows of its lists. -/
import Derived.Test.YtpcdbkaeijhmfaaDoorBe
namespace Go.Proofs.YtpcdbkaeijhmfaaDoor
set_option maxRecDepth 100000
set_option linter.unusedVariables false
set_option linter.unusedSimpArgs false
open Go.RowKit
def lst4 (i : Nat) : Prop := i = 1 ∨ i = 10 ∨ i = 11 ∨ i = 12
/-- The story's block, and the rows of its lists. -/
def StK (w : World) (b q : Nat) : Prop := q = b ∨ ∃ i v, lst4 i ∧ w.cell? ⟨b, i, none⟩ = some v ∧ v.ownBlock = some q
def StT (b : Nat) (w w' : World) : Prop := Frm (StK w b) w w' ∧ ∀ q, StK w' b q → StK w b q ∨ w.heap.size ≤ q
/-- Blocks that are rows of strings. -/
def KS (w : World) (q : Nat) : Prop := ∃ cs fr, w.heap[q]? = some (.cells cs 9 fr)
theorem KS.lt {w : World} {q : Nat} (h : KS w q) : q < w.heap.size := by obtain ⟨cs, fr, h⟩ := h; exact lt_heap h
theorem StT.refl (b : Nat) (w : World) : StT b w w := ⟨Frm.refl _ _, fun q h => .inl h⟩
theorem StT.trans {b : Nat} {w w1 w2 : World} (h : StT b w w1) (h' : StT b w1 w2) : StT b w w2 :=
  ⟨h.1.trans h'.1 h.2, fun q hq => (h'.2 q hq).elim (h.2 q) fun hh => .inr (Nat.le_trans h.1.size hh)⟩
theorem StK.of_frm {b q : Nat} {w w' : World} {K : Nat → Prop} (hF : Frm K w w') (hb : b < w.heap.size) (hk : ¬ K b) (h : StK w' b q) : StK w b q := by
  rcases h with rfl | ⟨i, v, h1, h2, h3⟩
  · exact .inl rfl
  · refine .inr ⟨i, v, h1, ?_, h3⟩
    rw [← h2]
    exact (World.cell?_of_block (w := w) (a := ⟨b, i, none⟩) (hF.block b hb hk)).symm
theorem StT.of_frm {b : Nat} {w w' : World} (hF : Frm (fun _ => False) w w') (hb : b < w.heap.size) : StT b w w' :=
  ⟨hF.mono fun _ h => h.elim, fun _ hq => .inl (hq.of_frm hF hb id)⟩
/-- A list's value is turned. -/
theorem StT.turn {b i : Nat} {w w3 : World} {v v' : Value} {cs : Array Value} (hi : lst4 i) (hb : Blk w b 60 cs) (hv : cs[i]? = some v) (hF : Frm (fun q => v.ownBlock = some q) w w3) (hbk : v.ownBlock ≠ some b) (hat : v'.ownBlock = v.ownBlock ∨ ∀ q, v'.ownBlock = some q → w.heap.size ≤ q) : StT b w (w3.setCell ⟨b, i, none⟩ v') := by
  have hc : w.cell? ⟨b, i, none⟩ = some v := (hb.cell i).trans hv
  have hb3 := hb.kept hF hbk
  refine ⟨(hF.mono (K' := StK w b) fun q hq => .inl (.inr ⟨i, v, hi, hc, hq⟩)).setCell ⟨b, i, none⟩ (.inl (.inl rfl)) _, fun q hq => ?_⟩
  rcases hq with rfl | ⟨j, u, h1, h2, h3⟩
  · exact .inl (.inl rfl)
  · have h5 := (hb3.set_ i v').cell j
    rw [h5, Array.getElem?_setIfInBounds] at h2
    split at h2
    · split at h2
      · cases h2
        rcases hat with h | h
        · exact .inl (.inr ⟨i, v, hi, hc, h ▸ h3⟩)
        · exact .inr (h q h3)
      · cases h2
    · exact .inl (.inr ⟨j, u, h1, (hb.cell j).trans h2, h3⟩)
/-- A cell that holds no list is turned. -/
theorem StT.cell {b i : Nat} {w : World} {v' : Value} {cs : Array Value} (hi : ¬ lst4 i) (hb : Blk w b 60 cs) : StT b w (w.setCell ⟨b, i, none⟩ v') := by
  refine ⟨(Frm.refl (StK w b) w).setCell ⟨b, i, none⟩ (.inl (.inl rfl)) _, fun q hq => .inl ?_⟩
  rcases hq with rfl | ⟨j, u, h1, h2, h3⟩
  · exact .inl rfl
  · have h5 := (hb.set_ i v').cell j
    rw [h5, Array.getElem?_setIfInBounds, if_neg (fun (e : i = j) => hi (by rw [e]; exact h1))] at h2
    exact .inr ⟨j, u, h1, (hb.cell j).trans h2, h3⟩
theorem StO.ty {w : World} {b q : Nat} {st : St} (h : StO w b st) (hq : StK w b q) : ∃ t cs, Blk w q t cs ∧ t ≠ 9 := by
  obtain ⟨wv, rv, av, pv, hb, hl⟩ := h
  rcases hq with rfl | ⟨i, v, h1, h2, h3⟩
  · exact ⟨_, _, hb, by decide⟩
  · have hc := hb.cell i
    rw [h2] at hc
    rcases h1 with rfl | rfl | rfl | rfl
    · cases hc
      obtain ⟨vs, k1, -⟩ := hl.words
      obtain ⟨cs, k⟩ := own_blk k1 q h3
      exact ⟨_, cs, k, by decide⟩
    · cases hc
      obtain ⟨vs, k1, -⟩ := hl.reads
      obtain ⟨cs, k⟩ := own_blk k1 q h3
      exact ⟨_, cs, k, by decide⟩
    · cases hc
      obtain ⟨cs, k⟩ := own_blk hl.answers q h3
      exact ⟨_, cs, k, by decide⟩
    · cases hc
      obtain ⟨cs, k⟩ := own_blk hl.picks q h3
      exact ⟨_, cs, k, by decide⟩
theorem StO.noS {w : World} {b q : Nat} {st : St} (h : StO w b st) (hq : KS w q) : ¬ StK w b q := by
  intro hk
  obtain ⟨t, cs, k1, k2⟩ := h.ty hk
  obtain ⟨cs', fr, k3⟩ := hq
  unfold Blk at k1
  rw [k1] at k3
  injection k3 with k3
  injection k3 with _ k3
  exact k2 k3
theorem KS.keep {w w' : World} {K : Nat → Prop} {A : Option Addr} {n c : Nat} {ws : List By} (h : SAt w (KS w) A n c ws) (hF : Frm K w w') (hk : ∀ q, KS w q → ¬ K q) : SAt w' (KS w') A n c ws :=
  h.keptTo fun q hq => ⟨hF.block q hq.lt (hk q hq), by obtain ⟨cs, fr, e⟩ := hq; exact ⟨cs, fr, (hF.block q (lt_heap e) (hk q ⟨cs, fr, e⟩)).trans e⟩⟩
theorem KS.keepT {w w' : World} {b : Nat} {st : St} {A : Option Addr} {n c : Nat} {ws : List By} (h : SAt w (KS w) A n c ws) (hs : StO w b st) (hF : StT b w w') : SAt w' (KS w') A n c ws := KS.keep h hF.1 fun _ hq => hs.noS hq
/-- What a call that takes a line's words answers. -/
def LinePost (b : Nat) (r : Option St) (w : World) (e : Ending) (w' : World) : Prop := e = .returned (.bool r.isSome) ∧ StT b w w' ∧ ∀ st', r = some st' → StO w' b st'
theorem LinePost.no {b : Nat} {r : Option St} {w w' : World} (h : r = none) (hF : StT b w w') : LinePost b r w (.returned (.bool false)) w' := by subst h; exact ⟨rfl, hF, fun _ h => by cases h⟩
theorem LinePost.yes {b : Nat} {r : Option St} {st : St} {w w' : World} (h : r = some st) (hF : StT b w w') (hs : StO w' b st) : LinePost b r w (.returned (.bool true)) w' := by subst h; exact ⟨rfl, hF, fun _ h => by cases h; exact hs⟩
end Go.Proofs.YtpcdbkaeijhmfaaDoor
