/- What ScriptOwn writes: cells of integers and of bools in the first story's memory; plain. -/
import Derived.Test.YtpcdbkaeijhmfaaDoorAw
namespace Go.Proofs.YtpcdbkaeijhmfaaDoor
set_option maxRecDepth 100000
set_option linter.unusedVariables false
set_option linter.unusedSimpArgs false
open Go.RowKit
/-- Block q has no frozen cell. -/
def UF (w : World) (q : Nat) : Prop := ∃ cs t, Blk w q t cs
/-- All but integers and bools in the blocks from B to E are as they were. -/
structure Kn (B E : Nat) (w w' : World) : Prop where
  frm : Frm (fun q => B ≤ q ∧ q < E) w w'
  uf : ∀ q, UF w q → UF w' q
  cell : ∀ (a : Addr) (v : Value), w.cell? a = some v → w'.cell? a = some v ∨ (∃ k x y, v = .int k x ∧ w'.cell? a = some (.int k y)) ∨ ∃ b c, v = .bool b ∧ w'.cell? a = some (.bool c)
section
variable {B E : Nat} {w w' : World}
theorem Kn.refl (B E : Nat) (w : World) : Kn B E w w := ⟨Frm.refl _ _, fun _ h => h, fun _ _ h => .inl h⟩
theorem Kn.drew (h : Kn B E w w') : Kn B E w w'.drew := ⟨h.frm.drew, h.uf, h.cell⟩
theorem Kn.slice {a : Addr} {A : Option Addr} {n c : Nat} (h : Kn B E w w') (hc : w.cell? a = some (.slice A n c)) : w'.cell? a = some (.slice A n c) := by
  rcases h.cell a _ hc with h | ⟨_, _, _, e, -⟩ | ⟨_, _, e, -⟩
  · exact h
  · cases e
  · cases e
theorem Kn.int {a : Addr} {k : IntKind} {x : Int} (h : Kn B E w w') (hc : w.cell? a = some (.int k x)) : ∃ y, w'.cell? a = some (.int k y) := by
  rcases h.cell a _ hc with h | ⟨_, _, y, e, h⟩ | ⟨_, _, e, -⟩
  · exact ⟨x, h⟩
  · cases e; exact ⟨y, h⟩
  · cases e
theorem Kn.bool {a : Addr} {b : Bool} (h : Kn B E w w') (hc : w.cell? a = some (.bool b)) : ∃ c, w'.cell? a = some (.bool c) := by
  rcases h.cell a _ hc with h | ⟨_, _, _, e, -⟩ | ⟨_, c, e, h⟩
  · exact ⟨b, h⟩
  · cases e
  · cases e; exact ⟨c, h⟩
theorem Kn.open_ {g : Nat} (h : Kn B E w w') (hu : UF w g) (i : Nat) : w'.frozen? ⟨g, i, none⟩ = false := by
  obtain ⟨cs, t, hb⟩ := h.uf g hu
  exact hb.frozen i
theorem Kn.put {g i : Nat} {u v : Value} (h : Kn B E w w') (hc : w'.cell? ⟨g, i, none⟩ = some u) (hg : B ≤ g ∧ g < E) (hu : UF w g) (hk : (∃ k x y, u = .int k x ∧ v = .int k y) ∨ ∃ b c, u = .bool b ∧ v = .bool c) : Kn B E w (w'.setCell ⟨g, i, none⟩ v) := by
  obtain ⟨cs, t, hb⟩ := h.uf g hu
  have hb2 := hb.set_ i v
  have hF : Frm (fun q => q = g) w' (w'.setCell ⟨g, i, none⟩ v) := (Frm.refl (fun q => q = g) w').setCell ⟨g, i, none⟩ (.inl rfl) _
  refine ⟨h.frm.setCell _ (.inl hg) _, fun q hq => ?_, fun a x ha => ?_⟩
  · by_cases e : q = g
    · subst e; exact ⟨_, _, hb2⟩
    · obtain ⟨cs', t', hq'⟩ := h.uf q hq
      exact ⟨cs', t', hq'.kept hF e⟩
  · have key := h.cell a x ha
    by_cases e : a = ⟨g, i, none⟩
    · subst e
      have hlt : i < cs.size := by
        rw [hb.cell] at hc
        rcases Nat.lt_or_ge i cs.size with h | h
        · exact h
        · rw [Array.getElem?_eq_none h] at hc; cases hc
      have hy : (w'.setCell ⟨g, i, none⟩ v).cell? ⟨g, i, none⟩ = some v := by rw [hb2.cell, Array.getElem?_setIfInBounds_self_of_lt hlt]
      rw [hc] at key
      rcases hk with ⟨k, p, q, e1, e2⟩ | ⟨b, c, e1, e2⟩
      · subst e1 e2
        rcases key with h1 | ⟨k', x', y', e1, h1⟩ | ⟨b', c', e1, h1⟩
        · cases h1; exact .inr (.inl ⟨k, p, q, rfl, hy⟩)
        · cases h1; exact .inr (.inl ⟨k, x', q, e1, hy⟩)
        · cases h1
      · subst e1 e2
        rcases key with h1 | ⟨k', x', y', e1, h1⟩ | ⟨b', c', e1, h1⟩
        · cases h1; exact .inr (.inr ⟨b, c, rfl, hy⟩)
        · cases h1
        · cases h1; exact .inr (.inr ⟨b', c, e1, hy⟩)
    · have hs : (w'.setCell ⟨g, i, none⟩ v).cell? a = w'.cell? a := by
        by_cases eb : a.block = g
        · obtain ⟨ab, ao, asp⟩ := a
          dsimp only at eb
          subst eb
          cases asp with
          | some s =>
            rcases key with h1 | ⟨_, _, _, -, h1⟩ | ⟨_, _, -, h1⟩ <;> (have := World.cell?_spot h1; cases this)
          | none =>
            rw [hb2.cell, hb.cell, Array.getElem?_setIfInBounds_ne (by intro e'; exact e (by rw [e']))]
        · exact World.cell?_of_block (w := w') (Below.heap_setCell w' _ _ _ eb)
      rw [hs]
      exact key
/-- Lists above what is turned stay. -/
theorem Ans.above {B0 B1 E : Nat} {st : St} {C : Array Value} (h : Ans B1 st C w) (hF : Frm (fun q => B0 ≤ q ∧ q < E) w w') (hE : E ≤ B1) : Ans B1 st C w' := by
  obtain ⟨wv, rv, av, pv, e, h⟩ := h
  have ho : ∀ {t : TypeId} {v : Value} {n s : Nat} {xs : List Value}, w.ownsRow B1 t s v n xs → w'.ownsRow B1 t s v n xs := fun h => hF.own h fun q hq hk => by have := (h.lt q hq).1; omega
  have ht : ∀ {v : Value} {L : List By}, TxR w B1 v L → TxR w' B1 v L := fun hx => by
    obtain ⟨vs, h1, h2, h3⟩ := hx
    exact ⟨vs, ho h1, h2, fun i u x hu hx => ho (h3 i u x hu hx)⟩
  exact ⟨wv, rv, av, pv, e, ht h.words, ht h.reads, ho h.answers, ho h.picks, h.apart⟩
end
/-- What is told of a row of one's own: where a cell lies, and that it may be turned. -/
theorem own_cell {w : World} {B n c : Nat} {t : TypeId} {A : Option Addr} {xs : List Value} (h : w.ownsRow B t 1 (.slice A n c) n xs) (k : Nat) (hk : k < n) : ∃ (g : Nat) (u : Value), A = some ⟨g, 0, none⟩ ∧ w.cell? ⟨g, k, none⟩ = some u ∧ xs[k]? = some u ∧ B ≤ g ∧ g < w.heap.size ∧ UF w g := by
  have hl : xs.length = n := by have := h.1; omega
  obtain ⟨g, rfl, hc⟩ := own_at h k (by omega)
  obtain ⟨h1, h2⟩ := h.lt g rfl
  obtain ⟨cs, hb⟩ := own_blk h g rfl
  exact ⟨g, _, rfl, hc, List.getElem?_eq_getElem (by omega), h1, h2, cs, t, hb⟩
/-- The words' headers, and their bytes. -/
theorem word_cell {w : World} {B n c : Nat} {A : Option Addr} {L : List By} (h : TxR w B (.slice A n c) L) (i : Nat) (hi : i < n) (hn : n = L.length) : ∃ (g : Nat) (A' : Option Addr) (m c' : Nat), A = some ⟨g, 0, none⟩ ∧ w.cell? ⟨g, i, none⟩ = some (.slice A' m c') ∧ m ≤ 9223372036854775807 ∧ ∀ k, k < m → ∃ (g' : Nat) (x : Int), A' = some ⟨g', 0, none⟩ ∧ w.cell? ⟨g', k, none⟩ = some (.int .u8 x) ∧ B ≤ g' ∧ g' < w.heap.size ∧ UF w g' := by
  obtain ⟨vs, h1, h2, h3⟩ := h
  rw [← hn] at h1
  obtain ⟨g, u, rfl, hc, hx, -⟩ := own_cell h1 i hi
  have hLi : i < L.length := by omega
  have h4 := h3 i u L[i] hx (List.getElem?_eq_getElem hLi)
  obtain ⟨A', c', rfl, hm, hc9⟩ := own_form h4
  refine ⟨g, A', L[i].length, c', rfl, hc, by omega, fun k hk => ?_⟩
  obtain ⟨g', v, rfl, hc2, hx2, hB, hs, hU⟩ := own_cell h4 k hk
  rw [show bv L[i] = (L[i]).map (fun b => Value.int .u8 (b.toNat : Int)) from rfl, List.getElem?_map, List.getElem?_eq_getElem hk] at hx2
  cases hx2
  exact ⟨g', _, rfl, hc2, hB, hs, hU⟩
end Go.Proofs.YtpcdbkaeijhmfaaDoor
