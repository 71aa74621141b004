/- Texts that are handed over. -/
import Derived.Test.YtpcdbkaeijhmfaaDoorPn
import Derived.Test.YtpcdbkaeijhmfaaDoorRange
namespace Go.Proofs.YtpcdbkaeijhmfaaDoor
set_option maxRecDepth 100000
set_option linter.unusedVariables false
set_option linter.unusedSimpArgs false
open Go.RowKit
def sEnc (x : By) : Value := .string (ba x)
def sCells (x : By) : List Value := [.string (ba x)]
def sGood (_ : Nat) (_ : By) (_ : World) : Prop := True
theorem sGood_own {B : Nat} (x : By) (X Y : World) (row : Option Nat) (_h : sGood B x X) (_hg : X.grownBy Y row) (_hr : ∀ r, row = some r → ∃ o : Obj, X.heap[r]? = some o ∧ o.isCells = false) : sGood B x Y := trivial
theorem sGood_frm {B : Nat} {K : Nat → Prop} (x : By) {X Y : World} (_h : sGood B x X) (_hF : Frm K X Y) (_hk : ∀ q, B ≤ q → ¬ K q) : sGood B x Y := trivial
theorem sGood_typed {B : Nat} {K : Nat → Prop} (x : By) {X Y : World} (_h : sGood B x X) (_hF : Frm K X Y) (_hk : ∀ q, K q → ∃ cs ty fr, X.heap[q]? = some (.cells cs ty fr) ∧ ty ≠ 5) : sGood B x Y := trivial
end Go.Proofs.YtpcdbkaeijhmfaaDoor
