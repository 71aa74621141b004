/- From a law's walk to its row, where tables are listed; a world that holds them. -/
import Derived.Test.YtpcdbkaeijhmfaaGreatDoorCards
import Derived.Test.YtpcdbkaeijhmfaaGreatDoorTie
import Derived.Deep.DeepHandedRow
import Derived.Deep.DeepLaidRun
import Derived.Lib.LaidTab
import Derived.Test.YtpcdbkaeijhmfaaGreatDoorHWk
import Derived.Test.YtpcdbkaeijhmfaaGreatDoorGA
namespace Go.Proofs.YtpcdbkaeijhmfaaGreatDoor
set_option maxRecDepth 100000
set_option linter.unusedVariables false
set_option linter.unusedSimpArgs false
open Go.ChangeShapes Go.WideShapes Go.ChangeAt Go.RowKit
theorem Tryz.own : ownKnob Tryz.prog.godebug = none := by kernel_rfl
theorem Tryz.laidOut : laidOutB Tryz.prog = true := by kernel_rfl
theorem laid_tail {P : Program} {W : World} {x : String × DataW Unit} {rest : List (String × DataW Unit)} {ps : List MemPlace} (h : DataW.LaidVars P W (x :: rest) ps) : ∃ q, DataW.LaidVars P W rest q := by
  obtain ⟨g', t', cs, fuel, p, q, _, _, _, _, h, _⟩ := h
  exact ⟨q, h⟩
theorem tab_at {P : Program} {W : World} {name : String} {k : IntKind} {zs : List Int} {rest : List (String × DataW Unit)} {g : Nat} {t e : TypeId} {n : Nat} {ps : List MemPlace}
    (hg : P.globalNamed name = some g) (hty : (P.globals[g]?).map (·.type) = some t) (ht : P.underlying t = some (.array n e)) (he : P.underlying e = some (.int k)) (hce : P.cellsOf e = 1) (hct : P.cellsOf t = n)
    (h : DataW.LaidVars P W ((name, Lib.tabData k zs) :: rest) ps) : Lib.TabIs P W name k zs := by
  obtain ⟨g', t', cs, fuel, p, q, hg', ht', hvar, hd, _, _⟩ := h
  obtain rfl := Option.some.inj (hg.symm.trans hg')
  obtain rfl := Option.some.inj (hty.symm.trans ht')
  unfold Lib.TabIs
  rw [hvar, ← Lib.cells_of_tab ht he hce hct hd]
theorem gPow : ∃ g, Tryz.prog.globalNamed "internal/strconv.uint64pow10" = some g ∧ (Tryz.prog.globals[g]?).map (·.type) = some 149 := by
  exact ⟨3, by kernel_rfl, by kernel_rfl⟩
/-- What the walks read of the variables. -/
theorem gl_of {W : World} (hs : W.ShapedOpen Tryz.prog) (hL : laidMetH Tryz.prog Rows.scriptTellsRow.laid W) : Gl W := by
  have hm : ∃ m, W.cell? ⟨0, 0, none⟩ = some (.int .i64 m) := Go.Proofs.cell_of_shapedOpen_int (zero := #[.int .i64 0]) (t := 3) hs (of_decide_eq_true (by kernel_rfl)) (by kernel_rfl) rfl (by kernel_rfl) (by kernel_rfl) Tryz.underlying3
  obtain ⟨ps, h, -⟩ : laidMet Tryz.prog Rows.scriptTellsRow.laid W := hL
  obtain ⟨_, h⟩ := laid_tail h
  obtain ⟨_, h⟩ := laid_tail h
  obtain ⟨g, h1, h2⟩ := gPow
  exact ⟨hm, tab_at h1 h2 Tryz.underlying149 Tryz.underlying118 (by kernel_rfl) (by kernel_rfl) (zs := Lib.pow10Tab) (k := .u64) h⟩
/-- A datum's cells. -/
def litC : Nat → DataW Unit → List Value
  | 0, _ => []
  | _ + 1, .lit (.int k n) => [.int k n]
  | n + 1, .agg parts => parts.flatMap (litC n)
  | _ + 1, _ => []
def laidIn (P : Program) (h : Array Obj) : List (String × DataW Unit) → Array Obj
  | [] => h
  | x :: r => laidIn P (match P.globalNamed x.1 with
    | some g => h.modify g fun
      | .cells _ t fr => .cells (litC 3 x.2).toArray t fr
      | o => o
    | none => h) r
/-- A world for a witness: the tables hold what the initialisers lay. -/
def laidOn (P : Program) (l : List (String × DataW Unit)) (w : World) : World := { w with heap := laidIn P w.heap l }
set_option maxRecDepth 100000 in
theorem laid_met (os : Os) (args : Array Value) : laidMet Tryz.prog Rows.scriptTellsRow.laid ((laidOn Tryz.prog Rows.scriptTellsRow.laid (World.holding Tryz.prog os ⟨#[], #[], []⟩)).forCall (fun _ _ => 0) ⟨#[], args, []⟩).memory :=
  laidMet_of_run3 8 (by kernel_rfl) (by kernel_rfl) (by kernel_rfl)
end Go.Proofs.YtpcdbkaeijhmfaaGreatDoor
