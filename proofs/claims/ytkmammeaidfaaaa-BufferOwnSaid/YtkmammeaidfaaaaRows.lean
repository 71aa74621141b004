/-
  No cell of these rows narrows 'for every input' (looked for: loops, veiled, ifaces, maps, wideKeys, modest, calm, conditions, laid).
  DERIVED. THE GIVEN ROWS OF THIS SEAT. 4 by the template 'for every input the law returns true; each argument reads behind the call as it read before'; 0 by the template 'total and deterministic' (their statements: YtkmammeaidfaaaaTotals.lean).
  GIVEN WITH THE SEED: the statements are not yours to turn. If you find one false, say at which input.
  Laid BY PROGRAM, IN A SANDBOX (cutbox-rows.mjs): the forced cells as the released guide's own fill.sh prints them over the translation ff8ebe9dd8147878… (all of the seat's roots in one cut). By AI agents, Wed Nov 11 2026. No macro, syntax, notation, axiom, sorry.
-/
import Derived.Test.YtkmammeaidfaaaaChecked
import GoSem.Claim
import GoSem.ClaimJoined
import GoSem.ClaimMapViews
import Derived.JoinedTies
import Derived.KernelRfl
namespace Go.Proofs.Ytkmammeaidfaaaa
/- THE CELL 'sum', in the pinned program and in every row, IS THE sha256 OF THE DUMP (.gsa) THAT YtkmammeaidfaaaaProg.lean LOADS. Nothing in Lean hashes anything: it is a label: what it is worth is what the hold of that sum in a sandbox is worth. -/
noncomputable def Try.pinned : Pinned := { name := "ytkmammeaidfaaaa", sum := "ff8ebe9dd814787836e2018b5b56fd621e51a6fb069028fab9132897da3f3175", checked := Try.checked }
namespace Rows
def none {H : Type} : Left H := { results := [], args := [] }

/-- 'teasellaw18.BufferTells': WHATEVER THE INPUT: true; the input reads as it did. -/
def bufferTellsSpec : ChangeSpec := { name := "bufferTells", fn := fun _ => fun
  | [d1, d2, d3] => { results := [.lit (.bool true)], args := [d1, d2, d3] }
  | _ => none }
def bufferTellsRow : OpenClaim := { program := "ytkmammeaidfaaaa", sum := "ff8ebe9dd814787836e2018b5b56fd621e51a6fb069028fab9132897da3f3175", func := "teasel/teasellaw18.BufferTells", spec := "bufferTells", unfollowed := true, recurses := true, apart := false }
def BufferTellsSaid : Prop := bufferTellsRow.holds Try.pinned (OpenSpec.ofChange bufferTellsSpec)

/-- ITS FALSE NEIGHBOUR: 'it returns false'. Refute it at one input. -/
def bufferTellsWrong : ChangeSpec := { name := "bufferTells", fn := fun _ => fun
  | [d1, d2, d3] => { results := [.lit (.bool false)], args := [d1, d2, d3] }
  | _ => none }
def BufferTellsWrongFalsely : Prop := bufferTellsRow.holds Try.pinned (OpenSpec.ofChange bufferTellsWrong)

/-- 'teasellaw18.BufferEach': WHATEVER THE INPUT: true; the input reads as it did. -/
def bufferEachSpec : ChangeSpec := { name := "bufferEach", fn := fun _ => fun
  | [d1, d2, d3] => { results := [.lit (.bool true)], args := [d1, d2, d3] }
  | _ => none }
def bufferEachRow : OpenClaim := { program := "ytkmammeaidfaaaa", sum := "ff8ebe9dd814787836e2018b5b56fd621e51a6fb069028fab9132897da3f3175", func := "teasel/teasellaw18.BufferEach", spec := "bufferEach", unfollowed := true, recurses := true, apart := false }
def BufferEachSaid : Prop := bufferEachRow.holds Try.pinned (OpenSpec.ofChange bufferEachSpec)

/-- ITS FALSE NEIGHBOUR: 'it returns false'. Refute it at one input. -/
def bufferEachWrong : ChangeSpec := { name := "bufferEach", fn := fun _ => fun
  | [d1, d2, d3] => { results := [.lit (.bool false)], args := [d1, d2, d3] }
  | _ => none }
def BufferEachWrongFalsely : Prop := bufferEachRow.holds Try.pinned (OpenSpec.ofChange bufferEachWrong)

/-- 'teasellaw18.BufferNext': WHATEVER THE INPUT: true; the input reads as it did. -/
def bufferNextSpec : ChangeSpec := { name := "bufferNext", fn := fun _ => fun
  | [d1, d2, d3, d4] => { results := [.lit (.bool true)], args := [d1, d2, d3, d4] }
  | _ => none }
def bufferNextRow : OpenClaim := { program := "ytkmammeaidfaaaa", sum := "ff8ebe9dd814787836e2018b5b56fd621e51a6fb069028fab9132897da3f3175", func := "teasel/teasellaw18.BufferNext", spec := "bufferNext", unfollowed := true, recurses := true, apart := false }
def BufferNextSaid : Prop := bufferNextRow.holds Try.pinned (OpenSpec.ofChange bufferNextSpec)

/-- ITS FALSE NEIGHBOUR: 'it returns false'. Refute it at one input. -/
def bufferNextWrong : ChangeSpec := { name := "bufferNext", fn := fun _ => fun
  | [d1, d2, d3, d4] => { results := [.lit (.bool false)], args := [d1, d2, d3, d4] }
  | _ => none }
def BufferNextWrongFalsely : Prop := bufferNextRow.holds Try.pinned (OpenSpec.ofChange bufferNextWrong)

/-- 'teasellaw18.BufferOwn': WHATEVER THE INPUT: true; the input reads as it did. -/
def bufferOwnSpec : ChangeSpec := { name := "bufferOwn", fn := fun _ => fun
  | [d] => { results := [.lit (.bool true)], args := [d] }
  | _ => none }
def bufferOwnRow : OpenClaim := { program := "ytkmammeaidfaaaa", sum := "ff8ebe9dd814787836e2018b5b56fd621e51a6fb069028fab9132897da3f3175", func := "teasel/teasellaw18.BufferOwn", spec := "bufferOwn", unfollowed := true, recurses := true, apart := false }
def BufferOwnSaid : Prop := bufferOwnRow.holds Try.pinned (OpenSpec.ofChange bufferOwnSpec)

/-- ITS FALSE NEIGHBOUR: 'it returns false'. Refute it at one input. -/
def bufferOwnWrong : ChangeSpec := { name := "bufferOwn", fn := fun _ => fun
  | [d] => { results := [.lit (.bool false)], args := [d] }
  | _ => none }
def BufferOwnWrongFalsely : Prop := bufferOwnRow.holds Try.pinned (OpenSpec.ofChange bufferOwnWrong)

/- THE SECOND FORM. 'bulk': how many values and letters a reading holds, each counted each time it is reached (what is shared counts as often as it is met; a slice's spare places count too). A statement '..UptoSaid' is the law's where the arguments, and the package variables that the reading takes, are together of bulk at most 1048576: NARROWER than '..Said'. Prove '..Said' where nothing that the law and all that it calls make is longer than what came in: it says more and counts as full. Else prove '..UptoSaid'. A law counts once. -/
mutual
def uptoBulk {H : Type} : DataW H → Nat
  | .lit (.string bytes) => bytes.length + 1
  | .lit _ => 1
  | .nil => 1
  | .ptr d => uptoBulk d + 1
  | .slice elems spare => uptoBulkAll elems + uptoBulkAll spare + 1
  | .agg parts => uptoBulkAll parts + 1
  | .iface _ d => uptoBulk d + 1
  | .map entries => uptoBulkEntries entries + 1
  | .held _ => 1
def uptoBulkAll {H : Type} : List (DataW H) → Nat
  | [] => 0
  | d :: r => uptoBulk d + uptoBulkAll r
def uptoBulkEntries {H : Type} : List (Lit × DataW H) → Nat
  | [] => 0
  | x :: r => uptoBulkEntry x + uptoBulkEntries r
def uptoBulkEntry {H : Type} : Lit × DataW H → Nat
  | (.string bytes, d) => bytes.length + uptoBulk d + 1
  | (_, d) => uptoBulk d + 1
 end
def uptoSmall : (H : Type) → List (DataW H) → Bool := fun _ ds => decide (uptoBulkAll ds ≤ 1048576)
def OpenSpec.upto (s : _root_.Go.ChangeSpec) : _root_.Go.OpenSpec := { _root_.Go.OpenSpec.ofChange s with cond := some uptoSmall }

/-- 'teasellaw18.BufferTells', WHERE WHAT IT READS IS OF BULK AT MOST 1048576: true; the input reads as it did. -/
def bufferTellsUptoRow : OpenClaim := { program := "ytkmammeaidfaaaa", sum := "ff8ebe9dd814787836e2018b5b56fd621e51a6fb069028fab9132897da3f3175", func := "teasel/teasellaw18.BufferTells", spec := "bufferTells", unfollowed := true, recurses := true, apart := false, narrowed := true }
def BufferTellsUptoSaid : Prop := bufferTellsUptoRow.holds Try.pinned (OpenSpec.upto bufferTellsSpec)

/-- 'teasellaw18.BufferEach', WHERE WHAT IT READS IS OF BULK AT MOST 1048576: true; the input reads as it did. -/
def bufferEachUptoRow : OpenClaim := { program := "ytkmammeaidfaaaa", sum := "ff8ebe9dd814787836e2018b5b56fd621e51a6fb069028fab9132897da3f3175", func := "teasel/teasellaw18.BufferEach", spec := "bufferEach", unfollowed := true, recurses := true, apart := false, narrowed := true }
def BufferEachUptoSaid : Prop := bufferEachUptoRow.holds Try.pinned (OpenSpec.upto bufferEachSpec)

/-- 'teasellaw18.BufferNext', WHERE WHAT IT READS IS OF BULK AT MOST 1048576: true; the input reads as it did. -/
def bufferNextUptoRow : OpenClaim := { program := "ytkmammeaidfaaaa", sum := "ff8ebe9dd814787836e2018b5b56fd621e51a6fb069028fab9132897da3f3175", func := "teasel/teasellaw18.BufferNext", spec := "bufferNext", unfollowed := true, recurses := true, apart := false, narrowed := true }
def BufferNextUptoSaid : Prop := bufferNextUptoRow.holds Try.pinned (OpenSpec.upto bufferNextSpec)

/-- 'teasellaw18.BufferOwn', WHERE WHAT IT READS IS OF BULK AT MOST 1048576: true; the input reads as it did. -/
def bufferOwnUptoRow : OpenClaim := { program := "ytkmammeaidfaaaa", sum := "ff8ebe9dd814787836e2018b5b56fd621e51a6fb069028fab9132897da3f3175", func := "teasel/teasellaw18.BufferOwn", spec := "bufferOwn", unfollowed := true, recurses := true, apart := false, narrowed := true }
def BufferOwnUptoSaid : Prop := bufferOwnUptoRow.holds Try.pinned (OpenSpec.upto bufferOwnSpec)

end Rows
end Go.Proofs.Ytkmammeaidfaaaa
