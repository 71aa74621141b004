/-
  No cell of these rows narrows 'for every input' (looked for: loops, veiled, ifaces, maps, wideKeys, modest, calm, conditions, laid).
  DERIVED. THE GIVEN ROWS OF THIS SEAT. 3 by the template 'for every input the law returns true; each argument reads behind the call as it read before'; 0 by the template 'total and deterministic' (their statements: YtgjkjcdohfccaaaTotals.lean).
  GIVEN WITH THE SEED: the statements are not yours to turn. If you find one false, say at which input.
  Laid BY PROGRAM, IN A SANDBOX (cutbox-rows.mjs): the forced cells as the released guide's own fill.sh prints them over the translation 65d4ad45bb3ac89c… (all of the seat's roots in one cut). By AI agents, Wed Nov 11 2026. No macro, syntax, notation, axiom, sorry.
-/
import Derived.Test.YtgjkjcdohfccaaaChecked
import GoSem.Claim
import GoSem.ClaimJoined
import GoSem.ClaimMapViews
import Derived.JoinedTies
import Derived.KernelRfl
namespace Go.Proofs.Ytgjkjcdohfccaaa
/- THE CELL 'sum', in the pinned program and in every row, IS THE sha256 OF THE DUMP (.gsa) THAT YtgjkjcdohfccaaaProg.lean LOADS. Nothing in Lean hashes anything: it is a label: what it is worth is what the hold of that sum in a sandbox is worth. -/
noncomputable def Try.pinned : Pinned := { name := "ytgjkjcdohfccaaa", sum := "65d4ad45bb3ac89ce47b300a473ed98ffba98161bf8a20d1ebb3ddf03d6a7618", checked := Try.checked }
namespace Rows
def none {H : Type} : Left H := { results := [], args := [] }

/-- 'teasellaw26.SinkTells': WHATEVER THE INPUT: true; the input reads as it did. -/
def sinkTellsSpec : ChangeSpec := { name := "sinkTells", fn := fun _ => fun
  | [d1, d2] => { results := [.lit (.bool true)], args := [d1, d2] }
  | _ => none }
def sinkTellsRow : OpenClaim := { program := "ytgjkjcdohfccaaa", sum := "65d4ad45bb3ac89ce47b300a473ed98ffba98161bf8a20d1ebb3ddf03d6a7618", func := "teasel/teasellaw26.SinkTells", spec := "sinkTells", unfollowed := true, recurses := true, apart := false }
def SinkTellsSaid : Prop := sinkTellsRow.holds Try.pinned (OpenSpec.ofChange sinkTellsSpec)

/-- ITS FALSE NEIGHBOUR: 'it returns false'. Refute it at one input. -/
def sinkTellsWrong : ChangeSpec := { name := "sinkTells", fn := fun _ => fun
  | [d1, d2] => { results := [.lit (.bool false)], args := [d1, d2] }
  | _ => none }
def SinkTellsWrongFalsely : Prop := sinkTellsRow.holds Try.pinned (OpenSpec.ofChange sinkTellsWrong)

/-- 'teasellaw26.SinkWithin': WHATEVER THE INPUT: true; the input reads as it did. -/
def sinkWithinSpec : ChangeSpec := { name := "sinkWithin", fn := fun _ => fun
  | [d1, d2] => { results := [.lit (.bool true)], args := [d1, d2] }
  | _ => none }
def sinkWithinRow : OpenClaim := { program := "ytgjkjcdohfccaaa", sum := "65d4ad45bb3ac89ce47b300a473ed98ffba98161bf8a20d1ebb3ddf03d6a7618", func := "teasel/teasellaw26.SinkWithin", spec := "sinkWithin", unfollowed := true, recurses := true, apart := false }
def SinkWithinSaid : Prop := sinkWithinRow.holds Try.pinned (OpenSpec.ofChange sinkWithinSpec)

/-- ITS FALSE NEIGHBOUR: 'it returns false'. Refute it at one input. -/
def sinkWithinWrong : ChangeSpec := { name := "sinkWithin", fn := fun _ => fun
  | [d1, d2] => { results := [.lit (.bool false)], args := [d1, d2] }
  | _ => none }
def SinkWithinWrongFalsely : Prop := sinkWithinRow.holds Try.pinned (OpenSpec.ofChange sinkWithinWrong)

/-- 'teasellaw26.SinkTook': WHATEVER THE INPUT: true; the input reads as it did. -/
def sinkTookSpec : ChangeSpec := { name := "sinkTook", fn := fun _ => fun
  | [d1, d2] => { results := [.lit (.bool true)], args := [d1, d2] }
  | _ => none }
def sinkTookRow : OpenClaim := { program := "ytgjkjcdohfccaaa", sum := "65d4ad45bb3ac89ce47b300a473ed98ffba98161bf8a20d1ebb3ddf03d6a7618", func := "teasel/teasellaw26.SinkTook", spec := "sinkTook", unfollowed := true, recurses := true, apart := false }
def SinkTookSaid : Prop := sinkTookRow.holds Try.pinned (OpenSpec.ofChange sinkTookSpec)

/-- ITS FALSE NEIGHBOUR: 'it returns false'. Refute it at one input. -/
def sinkTookWrong : ChangeSpec := { name := "sinkTook", fn := fun _ => fun
  | [d1, d2] => { results := [.lit (.bool false)], args := [d1, d2] }
  | _ => none }
def SinkTookWrongFalsely : Prop := sinkTookRow.holds Try.pinned (OpenSpec.ofChange sinkTookWrong)

/- THE SECOND FORM. 'bulk': how many values and letters a reading holds, each counted each time it is reached (what is shared counts as often as it is met; a slice's spare places count too). A statement '..UptoSaid' is the law's where the arguments, and the package variables that the reading takes, are together of bulk at most 1048576: NARROWER than '..Said'. Prove '..Said' where nothing that the law and all that it calls make is longer than what came in: it says more and counts as full. Else prove '..UptoSaid'. A law counts once. -/
mutual
def uptoBulk {H : Type} : DataW H → Nat
  | .lit (.string bytes) => bytes.length + 1
  | .lit _ => 1
  | .nil => 1
  | .ptr d => uptoBulk d + 1
  | .slice elems spare => uptoBulkAll elems + uptoBulkAll spare + 1
  | .agg parts => uptoBulkAll parts + 1
  | .iface _ d => uptoBulk d + 1
  | .map entries => uptoBulkEntries entries + 1
  | .held _ => 1
def uptoBulkAll {H : Type} : List (DataW H) → Nat
  | [] => 0
  | d :: r => uptoBulk d + uptoBulkAll r
def uptoBulkEntries {H : Type} : List (Lit × DataW H) → Nat
  | [] => 0
  | x :: r => uptoBulkEntry x + uptoBulkEntries r
def uptoBulkEntry {H : Type} : Lit × DataW H → Nat
  | (.string bytes, d) => bytes.length + uptoBulk d + 1
  | (_, d) => uptoBulk d + 1
 end
def uptoSmall : (H : Type) → List (DataW H) → Bool := fun _ ds => decide (uptoBulkAll ds ≤ 1048576)
def OpenSpec.upto (s : _root_.Go.ChangeSpec) : _root_.Go.OpenSpec := { _root_.Go.OpenSpec.ofChange s with cond := some uptoSmall }

/-- 'teasellaw26.SinkTells', WHERE WHAT IT READS IS OF BULK AT MOST 1048576: true; the input reads as it did. -/
def sinkTellsUptoRow : OpenClaim := { program := "ytgjkjcdohfccaaa", sum := "65d4ad45bb3ac89ce47b300a473ed98ffba98161bf8a20d1ebb3ddf03d6a7618", func := "teasel/teasellaw26.SinkTells", spec := "sinkTells", unfollowed := true, recurses := true, apart := false, narrowed := true }
def SinkTellsUptoSaid : Prop := sinkTellsUptoRow.holds Try.pinned (OpenSpec.upto sinkTellsSpec)

/-- 'teasellaw26.SinkWithin', WHERE WHAT IT READS IS OF BULK AT MOST 1048576: true; the input reads as it did. -/
def sinkWithinUptoRow : OpenClaim := { program := "ytgjkjcdohfccaaa", sum := "65d4ad45bb3ac89ce47b300a473ed98ffba98161bf8a20d1ebb3ddf03d6a7618", func := "teasel/teasellaw26.SinkWithin", spec := "sinkWithin", unfollowed := true, recurses := true, apart := false, narrowed := true }
def SinkWithinUptoSaid : Prop := sinkWithinUptoRow.holds Try.pinned (OpenSpec.upto sinkWithinSpec)

/-- 'teasellaw26.SinkTook', WHERE WHAT IT READS IS OF BULK AT MOST 1048576: true; the input reads as it did. -/
def sinkTookUptoRow : OpenClaim := { program := "ytgjkjcdohfccaaa", sum := "65d4ad45bb3ac89ce47b300a473ed98ffba98161bf8a20d1ebb3ddf03d6a7618", func := "teasel/teasellaw26.SinkTook", spec := "sinkTook", unfollowed := true, recurses := true, apart := false, narrowed := true }
def SinkTookUptoSaid : Prop := sinkTookUptoRow.holds Try.pinned (OpenSpec.upto sinkTookSpec)

end Rows
end Go.Proofs.Ytgjkjcdohfccaaa
