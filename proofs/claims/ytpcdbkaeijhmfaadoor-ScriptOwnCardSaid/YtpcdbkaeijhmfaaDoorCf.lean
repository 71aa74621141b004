/- script: conf. -/
import Derived.Test.YtpcdbkaeijhmfaaDoorQu
namespace Go.Proofs.YtpcdbkaeijhmfaaDoor
set_option maxRecDepth 100000
set_option linter.unusedVariables false
set_option linter.unusedSimpArgs false
open Go.RowKit
set_option maxHeartbeats 3200000 in
theorem conf_any (a0 a1 a2 a3 a4 a5 a6 : Int) (w : World) :
    Calls Tryd.prog 17 #[.agg #[.int .i64 a0, .int .i64 a1, .int .i64 a2, .int .i64 a3, .int .i64 a4, .int .i64 a5, .int .i64 a6]] w fun e w' => ∃ v, e = .returned v ∧ w'.ownsRow w.heap.size 3 1 v 7 (ivs [a0, a1, a2, a3, a4, a5, a6]) ∧ Frm (fun _ => False) w w' := by
  go_enter Tryd.func17, Tryd.ntmps17
  go_wp2_with fail
  go_ret
  have hF : Frm (fun _ => False) w (w.alloc (.cells #[.int .i64 a0, .int .i64 a1, .int .i64 a2, .int .i64 a3, .int .i64 a4, .int .i64 a5, .int .i64 a6] 24)) := (Frm.refl _ w).alloc _
  have hs : (w.alloc (.cells #[.int .i64 a0, .int .i64 a1, .int .i64 a2, .int .i64 a3, .int .i64 a4, .int .i64 a5, .int .i64 a6] 24)).heap.size = w.heap.size + 1 := World.size_alloc _ _
  refine ⟨_, rfl, ?_, hF.alloc _⟩
  generalize w.alloc _ = w1 at *
  have h := World.ownsRow_lit (base := w.heap.size) (e := 3) (size := 1) w1 #[.int .i64 a0, .int .i64 a1, .int .i64 a2, .int .i64 a3, .int .i64 a4, .int .i64 a5, .int .i64 a6] 7 (by omega) (by unfold maxLen; omega) rfl
  rw [hs] at h
  exact h
end Go.Proofs.YtpcdbkaeijhmfaaDoor
