/-
  No cell of these rows narrows 'for every input' (looked for: loops, veiled, ifaces, maps, wideKeys, modest, calm, conditions, laid).
  DERIVED. THE GIVEN ROWS OF THIS SEAT. 3 by the template 'for every input the law returns true; each argument reads behind the call as it read before'; 0 by the template 'total and deterministic' (their statements: YtfclpggbcmbcjaaTotals.lean).
  GIVEN WITH THE SEED: the statements are not yours to turn. If you find one false, say at which input.
  Laid BY PROGRAM, IN A SANDBOX (cutbox-rows.mjs): the forced cells as the released guide's own fill.sh prints them over the translation 5587b0efa1cf75cc… (all of the seat's roots in one cut). By AI agents, Wed Nov 11 2026. No macro, syntax, notation, axiom, sorry.
-/
import Derived.Test.YtfclpggbcmbcjaaChecked
import GoSem.Claim
import GoSem.ClaimJoined
import GoSem.ClaimMapViews
import Derived.JoinedTies
import Derived.KernelRfl
namespace Go.Proofs.Ytfclpggbcmbcjaa
/- THE CELL 'sum', in the pinned program and in every row, IS THE sha256 OF THE DUMP (.gsa) THAT YtfclpggbcmbcjaaProg.lean LOADS. Nothing in Lean hashes anything: it is a label: what it is worth is what the hold of that sum in a sandbox is worth. -/
noncomputable def Try.pinned : Pinned := { name := "ytfclpggbcmbcjaa", sum := "5587b0efa1cf75ccb5b15b116e265db1e73154a18db780f95830312b7bd5f27c", checked := Try.checked }
namespace Rows
def none {H : Type} : Left H := { results := [], args := [] }

/-- 'teasellaw25.FairRound': WHATEVER THE INPUT: true; the input reads as it did. -/
def fairRoundSpec : ChangeSpec := { name := "fairRound", fn := fun _ => fun
  | [d1, d2] => { results := [.lit (.bool true)], args := [d1, d2] }
  | _ => none }
def fairRoundRow : OpenClaim := { program := "ytfclpggbcmbcjaa", sum := "5587b0efa1cf75ccb5b15b116e265db1e73154a18db780f95830312b7bd5f27c", func := "teasel/teasellaw25.FairRound", spec := "fairRound", unfollowed := true, recurses := true, apart := false }
def FairRoundSaid : Prop := fairRoundRow.holds Try.pinned (OpenSpec.ofChange fairRoundSpec)

/-- ITS FALSE NEIGHBOUR: 'it returns false'. Refute it at one input. -/
def fairRoundWrong : ChangeSpec := { name := "fairRound", fn := fun _ => fun
  | [d1, d2] => { results := [.lit (.bool false)], args := [d1, d2] }
  | _ => none }
def FairRoundWrongFalsely : Prop := fairRoundRow.holds Try.pinned (OpenSpec.ofChange fairRoundWrong)

/-- 'teasellaw25.FairWindow': WHATEVER THE INPUT: true; the input reads as it did. -/
def fairWindowSpec : ChangeSpec := { name := "fairWindow", fn := fun _ => fun
  | [d] => { results := [.lit (.bool true)], args := [d] }
  | _ => none }
def fairWindowRow : OpenClaim := { program := "ytfclpggbcmbcjaa", sum := "5587b0efa1cf75ccb5b15b116e265db1e73154a18db780f95830312b7bd5f27c", func := "teasel/teasellaw25.FairWindow", spec := "fairWindow", unfollowed := true, recurses := true, apart := false }
def FairWindowSaid : Prop := fairWindowRow.holds Try.pinned (OpenSpec.ofChange fairWindowSpec)

/-- ITS FALSE NEIGHBOUR: 'it returns false'. Refute it at one input. -/
def fairWindowWrong : ChangeSpec := { name := "fairWindow", fn := fun _ => fun
  | [d] => { results := [.lit (.bool false)], args := [d] }
  | _ => none }
def FairWindowWrongFalsely : Prop := fairWindowRow.holds Try.pinned (OpenSpec.ofChange fairWindowWrong)

/-- 'teasellaw25.FairPicks': WHATEVER THE INPUT: true; the input reads as it did. -/
def fairPicksSpec : ChangeSpec := { name := "fairPicks", fn := fun _ => fun
  | [d1, d2, d3] => { results := [.lit (.bool true)], args := [d1, d2, d3] }
  | _ => none }
def fairPicksRow : OpenClaim := { program := "ytfclpggbcmbcjaa", sum := "5587b0efa1cf75ccb5b15b116e265db1e73154a18db780f95830312b7bd5f27c", func := "teasel/teasellaw25.FairPicks", spec := "fairPicks", unfollowed := true, recurses := true, apart := false }
def FairPicksSaid : Prop := fairPicksRow.holds Try.pinned (OpenSpec.ofChange fairPicksSpec)

/-- ITS FALSE NEIGHBOUR: 'it returns false'. Refute it at one input. -/
def fairPicksWrong : ChangeSpec := { name := "fairPicks", fn := fun _ => fun
  | [d1, d2, d3] => { results := [.lit (.bool false)], args := [d1, d2, d3] }
  | _ => none }
def FairPicksWrongFalsely : Prop := fairPicksRow.holds Try.pinned (OpenSpec.ofChange fairPicksWrong)

/- THE SECOND FORM. 'bulk': how many values and letters a reading holds, each counted each time it is reached (what is shared counts as often as it is met; a slice's spare places count too). A statement '..UptoSaid' is the law's where the arguments, and the package variables that the reading takes, are together of bulk at most 1048576: NARROWER than '..Said'. Prove '..Said' where nothing that the law and all that it calls make is longer than what came in: it says more and counts as full. Else prove '..UptoSaid'. A law counts once. -/
mutual
def uptoBulk {H : Type} : DataW H → Nat
  | .lit (.string bytes) => bytes.length + 1
  | .lit _ => 1
  | .nil => 1
  | .ptr d => uptoBulk d + 1
  | .slice elems spare => uptoBulkAll elems + uptoBulkAll spare + 1
  | .agg parts => uptoBulkAll parts + 1
  | .iface _ d => uptoBulk d + 1
  | .map entries => uptoBulkEntries entries + 1
  | .held _ => 1
def uptoBulkAll {H : Type} : List (DataW H) → Nat
  | [] => 0
  | d :: r => uptoBulk d + uptoBulkAll r
def uptoBulkEntries {H : Type} : List (Lit × DataW H) → Nat
  | [] => 0
  | x :: r => uptoBulkEntry x + uptoBulkEntries r
def uptoBulkEntry {H : Type} : Lit × DataW H → Nat
  | (.string bytes, d) => bytes.length + uptoBulk d + 1
  | (_, d) => uptoBulk d + 1
 end
def uptoSmall : (H : Type) → List (DataW H) → Bool := fun _ ds => decide (uptoBulkAll ds ≤ 1048576)
def OpenSpec.upto (s : _root_.Go.ChangeSpec) : _root_.Go.OpenSpec := { _root_.Go.OpenSpec.ofChange s with cond := some uptoSmall }

/-- 'teasellaw25.FairRound', WHERE WHAT IT READS IS OF BULK AT MOST 1048576: true; the input reads as it did. -/
def fairRoundUptoRow : OpenClaim := { program := "ytfclpggbcmbcjaa", sum := "5587b0efa1cf75ccb5b15b116e265db1e73154a18db780f95830312b7bd5f27c", func := "teasel/teasellaw25.FairRound", spec := "fairRound", unfollowed := true, recurses := true, apart := false, narrowed := true }
def FairRoundUptoSaid : Prop := fairRoundUptoRow.holds Try.pinned (OpenSpec.upto fairRoundSpec)

/-- 'teasellaw25.FairWindow', WHERE WHAT IT READS IS OF BULK AT MOST 1048576: true; the input reads as it did. -/
def fairWindowUptoRow : OpenClaim := { program := "ytfclpggbcmbcjaa", sum := "5587b0efa1cf75ccb5b15b116e265db1e73154a18db780f95830312b7bd5f27c", func := "teasel/teasellaw25.FairWindow", spec := "fairWindow", unfollowed := true, recurses := true, apart := false, narrowed := true }
def FairWindowUptoSaid : Prop := fairWindowUptoRow.holds Try.pinned (OpenSpec.upto fairWindowSpec)

/-- 'teasellaw25.FairPicks', WHERE WHAT IT READS IS OF BULK AT MOST 1048576: true; the input reads as it did. -/
def fairPicksUptoRow : OpenClaim := { program := "ytfclpggbcmbcjaa", sum := "5587b0efa1cf75ccb5b15b116e265db1e73154a18db780f95830312b7bd5f27c", func := "teasel/teasellaw25.FairPicks", spec := "fairPicks", unfollowed := true, recurses := true, apart := false, narrowed := true }
def FairPicksUptoSaid : Prop := fairPicksUptoRow.holds Try.pinned (OpenSpec.upto fairPicksSpec)

end Rows
end Go.Proofs.Ytfclpggbcmbcjaa
