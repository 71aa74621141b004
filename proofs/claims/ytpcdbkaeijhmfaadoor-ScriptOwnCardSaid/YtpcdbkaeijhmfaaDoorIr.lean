/- Rows built, loaded and stored within a fence: the list's steps. -/
import Derived.Test.YtpcdbkaeijhmfaaDoorPo
import Derived.Great.BuildSlice
namespace Go.Proofs.YtpcdbkaeijhmfaaDoor
set_option maxRecDepth 100000
set_option linter.unusedVariables false
set_option linter.unusedSimpArgs false
open Go.RowKit
section
variable {F : Fence} {n : Nat} {P : Program} {ops : Array Oper} {Q : Exit → Act → World → Prop} {a : Act} {w : World} {rest : List Oper} {o : Oper}
theorem wpListIn_of (hg : o.guard = none) (hd : ∀ c, o.op ≠ .defer c) (hc : o.about P w a.eval = none) (h : o.uponIn F n P a (wpListIn F n P ops Q rest) Q ((execOp a.eval o).run P w)) : wpListIn F n P ops Q (o :: rest) a w := by
  simp only [wpListIn, Region.wanted, hg, if_true]
  refine ⟨fun f hf => (by rw [hc] at hf; cases hf), ?_⟩
  rw [Oper.semAt_eq _ _ _ hd]
  exact h
theorem wpListIn_val (hg : o.guard = none) (hd : ∀ c, o.op ≠ .defer c) (hc : o.about P w a.eval = none) (d : Option Tmp) (hdst : o.dst = d) {v : Value} (hr : (execOp a.eval o).run P w = .ok (.value v) w) (h : wpListIn F n P ops Q rest (a.put d v) w) : wpListIn F n P ops Q (o :: rest) a w :=
  wpListIn_of hg hd hc (by rw [hr]; subst hdst; exact h)
theorem wpListIn_buildTo (hg : o.guard = none) (t : TypeId) (parts : Array (Nat × Operand)) (ho : o.op = .build t parts)
    (d : Option Tmp) (hd : o.dst = d) (cells : Array Value) (hf : P.built t (parts.map fun (i, x) => (i, a.eval x)).toList = some cells)
    (h : wpListIn F n P ops Q rest (a.put d (.agg cells)) w) : wpListIn F n P ops Q (o :: rest) a w := by
  subst hd
  refine wpListIn_of hg (fun c hc => by rw [ho] at hc; cases hc) (by simp only [Oper.about, ho]) ?_
  unfold execOp
  simp only [ho, Sem.run_bind, run_build w t _ cells hf, Result.andThen_ok]
  exact h
theorem wpListIn_store_rowTo (hgd : o.guard = none) (ty : TypeId) (x y : Operand) (ho : o.op = .store ty x y)
    (hd : o.dst = none) (g : Nat) (cells : Array Value) (hx : a.eval x = .pointer (some ⟨g, 0, none⟩)) (hy : a.eval y = .agg cells)
    (t : TypeId) (old : Array Value) (hg : w.heap[g]? = some (.cells old t (0, 0))) (hi : (P.info? ty).map (·.size) = some cells.size)
    (hold : old.size = cells.size) (h1 : cells.all (·.oneCell') = true)
    (h : wpListIn F n P ops Q rest a (w.setRow g cells)) : wpListIn F n P ops Q (o :: rest) a w := by
  refine wpListIn_of hgd (fun c hc => by rw [ho] at hc; cases hc) (by simp only [Oper.about, ho]) ?_
  unfold execOp
  simp only [ho, hx, hy, Instr.storeAt, Instr.sureAddr, Sem.run_bind, Sem.run_pure, Result.andThen_ok, run_storeVar_row w g t ty old cells hg hi hold h1]
  show wpListIn F n P ops Q rest (a.put o.dst undef) (w.setRow g cells)
  rw [hd]
  exact h
theorem wpListIn_load_row (hgd : o.guard = none) (ty : TypeId) (x : Operand) (ho : o.op = .load ty x)
    (g : Nat) (hx : a.eval x = .pointer (some ⟨g, 0, none⟩)) (t : TypeId) (cs : Array Value) (fr : Nat × Nat) (d : TypeDesc) (hg : w.heap[g]? = some (.cells cs t fr))
    (hu : P.underlying ty = some d) (hd : (match d with | .struct _ | .array _ _ => true | _ => false) = true) (hi : (P.info? ty).map (·.size) = some cs.size)
    (h : wpListIn F n P ops Q rest (a.put o.dst (.agg cs)) w) : wpListIn F n P ops Q (o :: rest) a w := by
  refine wpListIn_of hgd (fun c hc => by rw [ho] at hc; cases hc) (by simp only [Oper.about, ho]) ?_
  unfold execOp
  simp only [ho, hx, Instr.loadAt, Instr.sureAddr, Sem.run_bind, Sem.run_pure, Result.andThen_ok, run_loadVar_row w g t ty cs fr d hg hu hd hi]
  exact h
end
end Go.Proofs.YtpcdbkaeijhmfaaDoor
