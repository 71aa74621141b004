/-
  No cell of these rows narrows 'for every input' (looked for: loops, veiled, ifaces, maps, wideKeys, modest, calm, conditions, laid).
  DERIVED. THE GIVEN ROWS OF THIS SEAT. 4 by the template 'for every input the law returns true; each argument reads behind the call as it read before'; 0 by the template 'total and deterministic' (their statements: YtchhfhldpkaadaaTotals.lean).
  GIVEN WITH THE SEED: the statements are not yours to turn. If you find one false, say at which input.
  Laid BY PROGRAM, IN A SANDBOX (cutbox-rows.mjs): the forced cells as the released guide's own fill.sh prints them over the translation dd73db37ccaa96c9… (all of the seat's roots in one cut). By AI agents, Wed Nov 11 2026. No macro, syntax, notation, axiom, sorry.
-/
import Derived.Test.YtchhfhldpkaadaaChecked
import GoSem.Claim
import GoSem.ClaimJoined
import GoSem.ClaimMapViews
import Derived.JoinedTies
import Derived.KernelRfl
namespace Go.Proofs.Ytchhfhldpkaadaa
/- THE CELL 'sum', in the pinned program and in every row, IS THE sha256 OF THE DUMP (.gsa) THAT YtchhfhldpkaadaaProg.lean LOADS. Nothing in Lean hashes anything: it is a label: what it is worth is what the hold of that sum in a sandbox is worth. -/
noncomputable def Try.pinned : Pinned := { name := "ytchhfhldpkaadaa", sum := "dd73db37ccaa96c9a6ded19a79df66647ddf53285b22c320bb330eeffd91abaf", checked := Try.checked }
namespace Rows
def none {H : Type} : Left H := { results := [], args := [] }

/-- 'teasellaw21.FifoTells': WHATEVER THE INPUT: true; the input reads as it did. -/
def fifoTellsSpec : ChangeSpec := { name := "fifoTells", fn := fun _ => fun
  | [d1, d2] => { results := [.lit (.bool true)], args := [d1, d2] }
  | _ => none }
def fifoTellsRow : OpenClaim := { program := "ytchhfhldpkaadaa", sum := "dd73db37ccaa96c9a6ded19a79df66647ddf53285b22c320bb330eeffd91abaf", func := "teasel/teasellaw21.FifoTells", spec := "fifoTells", unfollowed := true, recurses := true, apart := false }
def FifoTellsSaid : Prop := fifoTellsRow.holds Try.pinned (OpenSpec.ofChange fifoTellsSpec)

/-- ITS FALSE NEIGHBOUR: 'it returns false'. Refute it at one input. -/
def fifoTellsWrong : ChangeSpec := { name := "fifoTells", fn := fun _ => fun
  | [d1, d2] => { results := [.lit (.bool false)], args := [d1, d2] }
  | _ => none }
def FifoTellsWrongFalsely : Prop := fifoTellsRow.holds Try.pinned (OpenSpec.ofChange fifoTellsWrong)

/-- 'teasellaw21.FifoOrder': WHATEVER THE INPUT: true; the input reads as it did. -/
def fifoOrderSpec : ChangeSpec := { name := "fifoOrder", fn := fun _ => fun
  | [d1, d2] => { results := [.lit (.bool true)], args := [d1, d2] }
  | _ => none }
def fifoOrderRow : OpenClaim := { program := "ytchhfhldpkaadaa", sum := "dd73db37ccaa96c9a6ded19a79df66647ddf53285b22c320bb330eeffd91abaf", func := "teasel/teasellaw21.FifoOrder", spec := "fifoOrder", unfollowed := true, recurses := true, apart := false }
def FifoOrderSaid : Prop := fifoOrderRow.holds Try.pinned (OpenSpec.ofChange fifoOrderSpec)

/-- ITS FALSE NEIGHBOUR: 'it returns false'. Refute it at one input. -/
def fifoOrderWrong : ChangeSpec := { name := "fifoOrder", fn := fun _ => fun
  | [d1, d2] => { results := [.lit (.bool false)], args := [d1, d2] }
  | _ => none }
def FifoOrderWrongFalsely : Prop := fifoOrderRow.holds Try.pinned (OpenSpec.ofChange fifoOrderWrong)

/-- 'teasellaw21.FifoTypes': WHATEVER THE INPUT: true; the input reads as it did. -/
def fifoTypesSpec : ChangeSpec := { name := "fifoTypes", fn := fun _ => fun
  | [d1, d2] => { results := [.lit (.bool true)], args := [d1, d2] }
  | _ => none }
def fifoTypesRow : OpenClaim := { program := "ytchhfhldpkaadaa", sum := "dd73db37ccaa96c9a6ded19a79df66647ddf53285b22c320bb330eeffd91abaf", func := "teasel/teasellaw21.FifoTypes", spec := "fifoTypes", unfollowed := true, recurses := true, apart := false }
def FifoTypesSaid : Prop := fifoTypesRow.holds Try.pinned (OpenSpec.ofChange fifoTypesSpec)

/-- ITS FALSE NEIGHBOUR: 'it returns false'. Refute it at one input. -/
def fifoTypesWrong : ChangeSpec := { name := "fifoTypes", fn := fun _ => fun
  | [d1, d2] => { results := [.lit (.bool false)], args := [d1, d2] }
  | _ => none }
def FifoTypesWrongFalsely : Prop := fifoTypesRow.holds Try.pinned (OpenSpec.ofChange fifoTypesWrong)

/-- 'teasellaw21.FifoOwn': WHATEVER THE INPUT: true; the input reads as it did. -/
def fifoOwnSpec : ChangeSpec := { name := "fifoOwn", fn := fun _ => fun
  | [d1, d2] => { results := [.lit (.bool true)], args := [d1, d2] }
  | _ => none }
def fifoOwnRow : OpenClaim := { program := "ytchhfhldpkaadaa", sum := "dd73db37ccaa96c9a6ded19a79df66647ddf53285b22c320bb330eeffd91abaf", func := "teasel/teasellaw21.FifoOwn", spec := "fifoOwn", unfollowed := true, recurses := true, apart := false }
def FifoOwnSaid : Prop := fifoOwnRow.holds Try.pinned (OpenSpec.ofChange fifoOwnSpec)

/-- ITS FALSE NEIGHBOUR: 'it returns false'. Refute it at one input. -/
def fifoOwnWrong : ChangeSpec := { name := "fifoOwn", fn := fun _ => fun
  | [d1, d2] => { results := [.lit (.bool false)], args := [d1, d2] }
  | _ => none }
def FifoOwnWrongFalsely : Prop := fifoOwnRow.holds Try.pinned (OpenSpec.ofChange fifoOwnWrong)

/- THE SECOND FORM. 'bulk': how many values and letters a reading holds, each counted each time it is reached (what is shared counts as often as it is met; a slice's spare places count too). A statement '..UptoSaid' is the law's where the arguments, and the package variables that the reading takes, are together of bulk at most 1048576: NARROWER than '..Said'. Prove '..Said' where nothing that the law and all that it calls make is longer than what came in: it says more and counts as full. Else prove '..UptoSaid'. A law counts once. -/
mutual
def uptoBulk {H : Type} : DataW H → Nat
  | .lit (.string bytes) => bytes.length + 1
  | .lit _ => 1
  | .nil => 1
  | .ptr d => uptoBulk d + 1
  | .slice elems spare => uptoBulkAll elems + uptoBulkAll spare + 1
  | .agg parts => uptoBulkAll parts + 1
  | .iface _ d => uptoBulk d + 1
  | .map entries => uptoBulkEntries entries + 1
  | .held _ => 1
def uptoBulkAll {H : Type} : List (DataW H) → Nat
  | [] => 0
  | d :: r => uptoBulk d + uptoBulkAll r
def uptoBulkEntries {H : Type} : List (Lit × DataW H) → Nat
  | [] => 0
  | x :: r => uptoBulkEntry x + uptoBulkEntries r
def uptoBulkEntry {H : Type} : Lit × DataW H → Nat
  | (.string bytes, d) => bytes.length + uptoBulk d + 1
  | (_, d) => uptoBulk d + 1
 end
def uptoSmall : (H : Type) → List (DataW H) → Bool := fun _ ds => decide (uptoBulkAll ds ≤ 1048576)
def OpenSpec.upto (s : _root_.Go.ChangeSpec) : _root_.Go.OpenSpec := { _root_.Go.OpenSpec.ofChange s with cond := some uptoSmall }

/-- 'teasellaw21.FifoTells', WHERE WHAT IT READS IS OF BULK AT MOST 1048576: true; the input reads as it did. -/
def fifoTellsUptoRow : OpenClaim := { program := "ytchhfhldpkaadaa", sum := "dd73db37ccaa96c9a6ded19a79df66647ddf53285b22c320bb330eeffd91abaf", func := "teasel/teasellaw21.FifoTells", spec := "fifoTells", unfollowed := true, recurses := true, apart := false, narrowed := true }
def FifoTellsUptoSaid : Prop := fifoTellsUptoRow.holds Try.pinned (OpenSpec.upto fifoTellsSpec)

/-- 'teasellaw21.FifoOrder', WHERE WHAT IT READS IS OF BULK AT MOST 1048576: true; the input reads as it did. -/
def fifoOrderUptoRow : OpenClaim := { program := "ytchhfhldpkaadaa", sum := "dd73db37ccaa96c9a6ded19a79df66647ddf53285b22c320bb330eeffd91abaf", func := "teasel/teasellaw21.FifoOrder", spec := "fifoOrder", unfollowed := true, recurses := true, apart := false, narrowed := true }
def FifoOrderUptoSaid : Prop := fifoOrderUptoRow.holds Try.pinned (OpenSpec.upto fifoOrderSpec)

/-- 'teasellaw21.FifoTypes', WHERE WHAT IT READS IS OF BULK AT MOST 1048576: true; the input reads as it did. -/
def fifoTypesUptoRow : OpenClaim := { program := "ytchhfhldpkaadaa", sum := "dd73db37ccaa96c9a6ded19a79df66647ddf53285b22c320bb330eeffd91abaf", func := "teasel/teasellaw21.FifoTypes", spec := "fifoTypes", unfollowed := true, recurses := true, apart := false, narrowed := true }
def FifoTypesUptoSaid : Prop := fifoTypesUptoRow.holds Try.pinned (OpenSpec.upto fifoTypesSpec)

/-- 'teasellaw21.FifoOwn', WHERE WHAT IT READS IS OF BULK AT MOST 1048576: true; the input reads as it did. -/
def fifoOwnUptoRow : OpenClaim := { program := "ytchhfhldpkaadaa", sum := "dd73db37ccaa96c9a6ded19a79df66647ddf53285b22c320bb330eeffd91abaf", func := "teasel/teasellaw21.FifoOwn", spec := "fifoOwn", unfollowed := true, recurses := true, apart := false, narrowed := true }
def FifoOwnUptoSaid : Prop := fifoOwnUptoRow.holds Try.pinned (OpenSpec.upto fifoOwnSpec)

end Rows
end Go.Proofs.Ytchhfhldpkaadaa
