/-
  No cell of these rows narrows 'for every input' (looked for: loops, veiled, ifaces, maps, wideKeys, modest, calm, conditions, laid).
  DERIVED. THE GIVEN ROWS OF THIS SEAT. 3 by the template 'for every input the law returns true; each argument reads behind the call as it read before'; 0 by the template 'total and deterministic' (their statements: YtddhejgbidmmjaaTotals.lean).
  GIVEN WITH THE SEED: the statements are not yours to turn. If you find one false, say at which input.
  Laid BY PROGRAM, IN A SANDBOX (cutbox-rows.mjs): the forced cells as the released guide's own fill.sh prints them over the translation 79b95fa8afbc818b… (all of the seat's roots in one cut). By AI agents, Wed Nov 11 2026. No macro, syntax, notation, axiom, sorry.
-/
import Derived.Test.YtddhejgbidmmjaaChecked
import GoSem.Claim
import GoSem.ClaimJoined
import GoSem.ClaimMapViews
import Derived.JoinedTies
import Derived.KernelRfl
namespace Go.Proofs.Ytddhejgbidmmjaa
/- THE CELL 'sum', in the pinned program and in every row, IS THE sha256 OF THE DUMP (.gsa) THAT YtddhejgbidmmjaaProg.lean LOADS. Nothing in Lean hashes anything: it is a label: what it is worth is what the hold of that sum in a sandbox is worth. -/
noncomputable def Try.pinned : Pinned := { name := "ytddhejgbidmmjaa", sum := "79b95fa8afbc818be16a0842099104ec3b4c08e9416320b546ec46ceea402559", checked := Try.checked }
namespace Rows
def none {H : Type} : Left H := { results := [], args := [] }

/-- 'teasellaw17.SourceTells': WHATEVER THE INPUT: true; the input reads as it did. -/
def sourceTellsSpec : ChangeSpec := { name := "sourceTells", fn := fun _ => fun
  | [d1, d2, d3] => { results := [.lit (.bool true)], args := [d1, d2, d3] }
  | _ => none }
def sourceTellsRow : OpenClaim := { program := "ytddhejgbidmmjaa", sum := "79b95fa8afbc818be16a0842099104ec3b4c08e9416320b546ec46ceea402559", func := "teasel/teasellaw17.SourceTells", spec := "sourceTells", unfollowed := true, recurses := true, apart := false }
def SourceTellsSaid : Prop := sourceTellsRow.holds Try.pinned (OpenSpec.ofChange sourceTellsSpec)

/-- ITS FALSE NEIGHBOUR: 'it returns false'. Refute it at one input. -/
def sourceTellsWrong : ChangeSpec := { name := "sourceTells", fn := fun _ => fun
  | [d1, d2, d3] => { results := [.lit (.bool false)], args := [d1, d2, d3] }
  | _ => none }
def SourceTellsWrongFalsely : Prop := sourceTellsRow.holds Try.pinned (OpenSpec.ofChange sourceTellsWrong)

/-- 'teasellaw17.SourceAll': WHATEVER THE INPUT: true; the input reads as it did. -/
def sourceAllSpec : ChangeSpec := { name := "sourceAll", fn := fun _ => fun
  | [d1, d2, d3] => { results := [.lit (.bool true)], args := [d1, d2, d3] }
  | _ => none }
def sourceAllRow : OpenClaim := { program := "ytddhejgbidmmjaa", sum := "79b95fa8afbc818be16a0842099104ec3b4c08e9416320b546ec46ceea402559", func := "teasel/teasellaw17.SourceAll", spec := "sourceAll", unfollowed := true, recurses := true, apart := false }
def SourceAllSaid : Prop := sourceAllRow.holds Try.pinned (OpenSpec.ofChange sourceAllSpec)

/-- ITS FALSE NEIGHBOUR: 'it returns false'. Refute it at one input. -/
def sourceAllWrong : ChangeSpec := { name := "sourceAll", fn := fun _ => fun
  | [d1, d2, d3] => { results := [.lit (.bool false)], args := [d1, d2, d3] }
  | _ => none }
def SourceAllWrongFalsely : Prop := sourceAllRow.holds Try.pinned (OpenSpec.ofChange sourceAllWrong)

/-- 'teasellaw17.SourceOwn': WHATEVER THE INPUT: true; the input reads as it did. -/
def sourceOwnSpec : ChangeSpec := { name := "sourceOwn", fn := fun _ => fun
  | [d1, d2] => { results := [.lit (.bool true)], args := [d1, d2] }
  | _ => none }
def sourceOwnRow : OpenClaim := { program := "ytddhejgbidmmjaa", sum := "79b95fa8afbc818be16a0842099104ec3b4c08e9416320b546ec46ceea402559", func := "teasel/teasellaw17.SourceOwn", spec := "sourceOwn", unfollowed := true, recurses := true, apart := false }
def SourceOwnSaid : Prop := sourceOwnRow.holds Try.pinned (OpenSpec.ofChange sourceOwnSpec)

/-- ITS FALSE NEIGHBOUR: 'it returns false'. Refute it at one input. -/
def sourceOwnWrong : ChangeSpec := { name := "sourceOwn", fn := fun _ => fun
  | [d1, d2] => { results := [.lit (.bool false)], args := [d1, d2] }
  | _ => none }
def SourceOwnWrongFalsely : Prop := sourceOwnRow.holds Try.pinned (OpenSpec.ofChange sourceOwnWrong)

/- THE SECOND FORM. 'bulk': how many values and letters a reading holds, each counted each time it is reached (what is shared counts as often as it is met; a slice's spare places count too). A statement '..UptoSaid' is the law's where the arguments, and the package variables that the reading takes, are together of bulk at most 1048576: NARROWER than '..Said'. Prove '..Said' where nothing that the law and all that it calls make is longer than what came in: it says more and counts as full. Else prove '..UptoSaid'. A law counts once. -/
mutual
def uptoBulk {H : Type} : DataW H → Nat
  | .lit (.string bytes) => bytes.length + 1
  | .lit _ => 1
  | .nil => 1
  | .ptr d => uptoBulk d + 1
  | .slice elems spare => uptoBulkAll elems + uptoBulkAll spare + 1
  | .agg parts => uptoBulkAll parts + 1
  | .iface _ d => uptoBulk d + 1
  | .map entries => uptoBulkEntries entries + 1
  | .held _ => 1
def uptoBulkAll {H : Type} : List (DataW H) → Nat
  | [] => 0
  | d :: r => uptoBulk d + uptoBulkAll r
def uptoBulkEntries {H : Type} : List (Lit × DataW H) → Nat
  | [] => 0
  | x :: r => uptoBulkEntry x + uptoBulkEntries r
def uptoBulkEntry {H : Type} : Lit × DataW H → Nat
  | (.string bytes, d) => bytes.length + uptoBulk d + 1
  | (_, d) => uptoBulk d + 1
 end
def uptoSmall : (H : Type) → List (DataW H) → Bool := fun _ ds => decide (uptoBulkAll ds ≤ 1048576)
def OpenSpec.upto (s : _root_.Go.ChangeSpec) : _root_.Go.OpenSpec := { _root_.Go.OpenSpec.ofChange s with cond := some uptoSmall }

/-- 'teasellaw17.SourceTells', WHERE WHAT IT READS IS OF BULK AT MOST 1048576: true; the input reads as it did. -/
def sourceTellsUptoRow : OpenClaim := { program := "ytddhejgbidmmjaa", sum := "79b95fa8afbc818be16a0842099104ec3b4c08e9416320b546ec46ceea402559", func := "teasel/teasellaw17.SourceTells", spec := "sourceTells", unfollowed := true, recurses := true, apart := false, narrowed := true }
def SourceTellsUptoSaid : Prop := sourceTellsUptoRow.holds Try.pinned (OpenSpec.upto sourceTellsSpec)

/-- 'teasellaw17.SourceAll', WHERE WHAT IT READS IS OF BULK AT MOST 1048576: true; the input reads as it did. -/
def sourceAllUptoRow : OpenClaim := { program := "ytddhejgbidmmjaa", sum := "79b95fa8afbc818be16a0842099104ec3b4c08e9416320b546ec46ceea402559", func := "teasel/teasellaw17.SourceAll", spec := "sourceAll", unfollowed := true, recurses := true, apart := false, narrowed := true }
def SourceAllUptoSaid : Prop := sourceAllUptoRow.holds Try.pinned (OpenSpec.upto sourceAllSpec)

/-- 'teasellaw17.SourceOwn', WHERE WHAT IT READS IS OF BULK AT MOST 1048576: true; the input reads as it did. -/
def sourceOwnUptoRow : OpenClaim := { program := "ytddhejgbidmmjaa", sum := "79b95fa8afbc818be16a0842099104ec3b4c08e9416320b546ec46ceea402559", func := "teasel/teasellaw17.SourceOwn", spec := "sourceOwn", unfollowed := true, recurses := true, apart := false, narrowed := true }
def SourceOwnUptoSaid : Prop := sourceOwnUptoRow.holds Try.pinned (OpenSpec.upto sourceOwnSpec)

end Rows
end Go.Proofs.Ytddhejgbidmmjaa
