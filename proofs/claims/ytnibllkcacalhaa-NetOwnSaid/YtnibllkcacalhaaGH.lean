/- What wakes makes: the nets that it comes to; boxes of nets. -/
import Derived.Test.YtnibllkcacalhaaHTwo
import Derived.Test.YtnibllkcacalhaaGG
import Derived.Test.YtnibllkcacalhaaGF
import Derived.Test.YtnibllkcacalhaaGA
namespace Go.Proofs.Ytnibllkcacalhaa
set_option maxRecDepth 100000
open Go.RowKit
def netA : Nt := ⟨[⟨1, [], true⟩], [⟨[⟨1, 0, 5⟩, ⟨1, 0, 6⟩, ⟨4, 0, 0⟩], 3, 0, 0⟩, ⟨[⟨2, 0, 0⟩, ⟨2, 0, 0⟩, ⟨2, 0, 0⟩], 3, 5983, 0⟩]⟩
def netB : Nt := ⟨[⟨1, [], false⟩], [⟨[⟨1, 0, 5⟩, ⟨1, 0, 6⟩], 2, 0, 0⟩, ⟨[⟨2, 0, 0⟩, ⟨2, 0, 0⟩, ⟨2, 0, 0⟩], 2, 193, 0⟩]⟩
def netC : Nt := ⟨[⟨1, [], false⟩], [⟨[⟨1, 0, 5⟩, ⟨1, 0, 6⟩, ⟨4, 0, 0⟩], 2, 0, 0⟩, ⟨[⟨2, 0, 0⟩, ⟨2, 0, 0⟩, ⟨2, 0, 0⟩], 2, 193, 0⟩]⟩
def netD : Nt := ⟨[⟨1, [5], false⟩], [⟨[⟨1, 0, 5⟩, ⟨1, 0, 6⟩, ⟨4, 0, 0⟩], 1, 0, 0⟩, ⟨[⟨2, 0, 0⟩, ⟨2, 0, 0⟩, ⟨2, 0, 0⟩], 0, 0, 0⟩]⟩
def netX : Nt := ⟨[⟨0, [], false⟩], []⟩
theorem finA : finR (twoN true) = (netA, 6, 0) := by decide +kernel
theorem finB : finR (twoN false) = (netB, 4, 0) := by decide +kernel
theorem finX : finR netX = (netX, 0, 2) := by decide +kernel
theorem runC : runNt (twoN true) [0, 1, -1, 7] = (netC, 4) := by decide +kernel
theorem stepX : stepNt (twoN true) 1 = (twoN true, false) := by decide +kernel
theorem stepD : stepNt (twoN true) 0 = (netD, true) := by decide +kernel
theorem overA : (rightNt netA && overNt netA) = true := by decide +kernel
theorem overB' : (rightNt netB && overNt netB) = false := by decide +kernel
theorem stuckA : stuckNt netA = false := by decide +kernel
theorem stuckB : stuckNt netB = true := by decide +kernel
theorem readyD : rdAll netD = [1] := by decide +kernel
theorem cleanA : cleanNt netA = true := by decide +kernel
theorem rightA : rightNt netA = true := by decide +kernel
theorem rightX : rightNt netX = false := by decide +kernel
theorem sameAA : decide (netA = netA) = true := by decide +kernel
theorem sameAB : decide (netA = netB) = false := by decide +kernel
theorem smTwo (cl : Bool) : SmN (twoN cl) ∧ leftNt (twoN cl) ≤ 1000000 := by
  cases cl <;> refine ⟨⟨?_, ?_, ?_, ?_⟩, ?_⟩ <;> decide +kernel
theorem smX : SmN netX ∧ leftNt netX ≤ 1000000 := by
  refine ⟨⟨?_, ?_, ?_, ?_⟩, ?_⟩ <;> decide +kernel
/-- A box of a net. -/
structure NB (w : World) (g : Nat) (A1 : Option Addr) (n1 c1 : Nat) (A : Option Addr) (n c : Nat) (N : Nt) : Prop where
  b : Blk w g 25 #[.slice A1 n1 c1, .slice A n c]
  r : NR w (.agg #[.slice A1 n1 c1, .slice A n c]) N
theorem NB.kept {w w' : World} {g : Nat} {A1 A : Option Addr} {n1 c1 n c : Nat} {N : Nt} (h : NB w g A1 n1 c1 A n c N) (hF : Frm (fun _ => False) w w') : NB w' g A1 n1 c1 A n c N := ⟨h.b.kept hF id, h.r.kept hF⟩
theorem NB.new {w : World} {A1 A : Option Addr} {n1 c1 n c : Nat} {N : Nt} (h : NR w (.agg #[.slice A1 n1 c1, .slice A n c]) N) : NB (w.alloc (.cells #[.slice A1 n1 c1, .slice A n c] 25)) w.heap.size A1 n1 c1 A n c N :=
  ⟨Blk.new w _ _, h.kept ((Frm.refl _ w).alloc _)⟩
theorem NB.c0 {w : World} {g : Nat} {A1 A : Option Addr} {n1 c1 n c : Nat} {N : Nt} (h : NB w g A1 n1 c1 A n c N) : w.cell? ⟨g, 0, none⟩ = some (.slice A1 n1 c1) := h.b.cell 0
theorem NB.c1 {w : World} {g : Nat} {A1 A : Option Addr} {n1 c1 n c : Nat} {N : Nt} (h : NB w g A1 n1 c1 A n c N) : w.cell? ⟨g, 1, none⟩ = some (.slice A n c) := h.b.cell 1
theorem NB.len {w : World} {g : Nat} {A1 A : Option Addr} {n1 c1 n c : Nat} {N : Nt} (h : NB w g A1 n1 c1 A n c N) : n1 = N.ps.length ∧ n = N.cs.length := by
  obtain ⟨_, _, _, _, _, _, _, e, ps, cks, h1, h2, h3, h4⟩ := h
  cases e
  rw [← h3, ← h4, List.length_map, List.length_map]
  exact ⟨h1.cells.1, h2.cells.1⟩
/-- A chore's sum. -/
theorem NB.sum {w : World} {g : Nat} {A1 A : Option Addr} {n1 c1 n c : Nat} {N : Nt} (h : NB w g A1 n1 c1 A n c N) (k : Nat) (ch : Ch) (hk : N.cs[k]? = some ch) : ∃ g' o, A = some ⟨g', o, none⟩ ∧ ∀ W, Frm (fun _ => False) w W → W.cell? ⟨g', o + k * 4 + 2, none⟩ = some (.int .u32 ch.sum) := by
  obtain ⟨_, _, _, _, _, _, _, e, ps, cks, h1, h2, h3, h4⟩ := h
  cases e
  obtain ⟨-, -, -, hx⟩ := h2.cells
  rw [← h4, List.getElem?_map] at hk
  have hkx : k < cks.length := by
    rcases Nat.lt_or_ge k cks.length with h | h
    · exact h
    · rw [List.getElem?_eq_none h] at hk; cases hk
  rw [List.getElem?_eq_getElem hkx] at hk
  simp at hk
  obtain ⟨g', o, rfl, -, -, -, d2, -⟩ := hx k hkx
  rw [hk] at d2
  exact ⟨g', o, rfl, fun W hW => hW.cell d2 id⟩
/-- A pipe's slice. -/
theorem NB.pin {w : World} {g : Nat} {A1 A : Option Addr} {n1 c1 n c : Nat} {N : Nt} (h : NB w g A1 n1 c1 A n c N) (k : Nat) (p : Pi) (hk : N.ps[k]? = some p) : ∃ g' o A5 c5, A1 = some ⟨g', o, none⟩ ∧ ∀ W, Frm (fun _ => False) w W → W.cell? ⟨g', o + k * 3 + 1, none⟩ = some (.slice A5 p.ins.length c5) := by
  obtain ⟨_, _, _, _, _, _, _, e, ps, cks, h1, h2, h3, h4⟩ := h
  cases e
  obtain ⟨-, -, -, hx⟩ := h1.cells
  rw [← h3, List.getElem?_map] at hk
  have hkx : k < ps.length := by
    rcases Nat.lt_or_ge k ps.length with h | h
    · exact h
    · rw [List.getElem?_eq_none h] at hk; cases hk
  rw [List.getElem?_eq_getElem hkx] at hk
  simp at hk
  obtain ⟨g', o, rfl, -, -, d1, -⟩ := hx k hkx
  obtain ⟨A5, n5, c5, e5, hn5, -⟩ := h1.2 ps[k] (List.getElem_mem hkx)
  rw [e5] at d1
  rw [uv_length, hk] at hn5
  subst hn5
  exact ⟨g', o, A5, c5, rfl, fun W hW => hW.cell d1 id⟩
theorem NetV.nr {N : Nt} {w w' : World} {V : Value} (h : NV w' (CellsOf w' w.heap.size) V N) : NR w' V N := h.nr fun _ hq => hq.lt
theorem cells_nr {w' : World} {B : Nat} {V : Value} {N : Nt} (h : NV w' (CellsFrom w' B) V N) : NR w' V N := h.nr fun _ hq => hq.lt
end Go.Proofs.Ytnibllkcacalhaa
