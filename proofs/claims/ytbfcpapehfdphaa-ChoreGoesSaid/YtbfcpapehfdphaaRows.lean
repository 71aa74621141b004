/-
  No cell of these rows narrows 'for every input' (looked for: loops, veiled, ifaces, maps, wideKeys, modest, calm, conditions, laid).
  DERIVED. THE GIVEN ROWS OF THIS SEAT. 3 by the template 'for every input the law returns true; each argument reads behind the call as it read before'; 0 by the template 'total and deterministic' (their statements: YtbfcpapehfdphaaTotals.lean).
  GIVEN WITH THE SEED: the statements are not yours to turn. If you find one false, say at which input.
  Laid BY PROGRAM, IN A SANDBOX (cutbox-rows.mjs): the forced cells as the released guide's own fill.sh prints them over the translation e7474e176595a558… (all of the seat's roots in one cut). By AI agents, Wed Nov 11 2026. No macro, syntax, notation, axiom, sorry.
-/
import Derived.Test.YtbfcpapehfdphaaChecked
import GoSem.Claim
import GoSem.ClaimJoined
import GoSem.ClaimMapViews
import Derived.JoinedTies
import Derived.KernelRfl
namespace Go.Proofs.Ytbfcpapehfdphaa
/- THE CELL 'sum', in the pinned program and in every row, IS THE sha256 OF THE DUMP (.gsa) THAT YtbfcpapehfdphaaProg.lean LOADS. Nothing in Lean hashes anything: it is a label: what it is worth is what the hold of that sum in a sandbox is worth. -/
noncomputable def Try.pinned : Pinned := { name := "ytbfcpapehfdphaa", sum := "e7474e176595a5581b63b4759071ed6fa20034a49ebd4060b3fb3f716a314ef7", checked := Try.checked }
namespace Rows
def none {H : Type} : Left H := { results := [], args := [] }

/-- 'teasellaw23.ChoreTells': WHATEVER THE INPUT: true; the input reads as it did. -/
def choreTellsSpec : ChangeSpec := { name := "choreTells", fn := fun _ => fun
  | [d1, d2, d3, d4, d5] => { results := [.lit (.bool true)], args := [d1, d2, d3, d4, d5] }
  | _ => none }
def choreTellsRow : OpenClaim := { program := "ytbfcpapehfdphaa", sum := "e7474e176595a5581b63b4759071ed6fa20034a49ebd4060b3fb3f716a314ef7", func := "teasel/teasellaw23.ChoreTells", spec := "choreTells", unfollowed := true, recurses := true, apart := false }
def ChoreTellsSaid : Prop := choreTellsRow.holds Try.pinned (OpenSpec.ofChange choreTellsSpec)

/-- ITS FALSE NEIGHBOUR: 'it returns false'. Refute it at one input. -/
def choreTellsWrong : ChangeSpec := { name := "choreTells", fn := fun _ => fun
  | [d1, d2, d3, d4, d5] => { results := [.lit (.bool false)], args := [d1, d2, d3, d4, d5] }
  | _ => none }
def ChoreTellsWrongFalsely : Prop := choreTellsRow.holds Try.pinned (OpenSpec.ofChange choreTellsWrong)

/-- 'teasellaw23.ChoreGoes': WHATEVER THE INPUT: true; the input reads as it did. -/
def choreGoesSpec : ChangeSpec := { name := "choreGoes", fn := fun _ => fun
  | [d1, d2] => { results := [.lit (.bool true)], args := [d1, d2] }
  | _ => none }
def choreGoesRow : OpenClaim := { program := "ytbfcpapehfdphaa", sum := "e7474e176595a5581b63b4759071ed6fa20034a49ebd4060b3fb3f716a314ef7", func := "teasel/teasellaw23.ChoreGoes", spec := "choreGoes", unfollowed := true, recurses := true, apart := false }
def ChoreGoesSaid : Prop := choreGoesRow.holds Try.pinned (OpenSpec.ofChange choreGoesSpec)

/-- ITS FALSE NEIGHBOUR: 'it returns false'. Refute it at one input. -/
def choreGoesWrong : ChangeSpec := { name := "choreGoes", fn := fun _ => fun
  | [d1, d2] => { results := [.lit (.bool false)], args := [d1, d2] }
  | _ => none }
def ChoreGoesWrongFalsely : Prop := choreGoesRow.holds Try.pinned (OpenSpec.ofChange choreGoesWrong)

/-- 'teasellaw23.ChoreWaits': WHATEVER THE INPUT: true; the input reads as it did. -/
def choreWaitsSpec : ChangeSpec := { name := "choreWaits", fn := fun _ => fun
  | [d1, d2] => { results := [.lit (.bool true)], args := [d1, d2] }
  | _ => none }
def choreWaitsRow : OpenClaim := { program := "ytbfcpapehfdphaa", sum := "e7474e176595a5581b63b4759071ed6fa20034a49ebd4060b3fb3f716a314ef7", func := "teasel/teasellaw23.ChoreWaits", spec := "choreWaits", unfollowed := true, recurses := true, apart := false }
def ChoreWaitsSaid : Prop := choreWaitsRow.holds Try.pinned (OpenSpec.ofChange choreWaitsSpec)

/-- ITS FALSE NEIGHBOUR: 'it returns false'. Refute it at one input. -/
def choreWaitsWrong : ChangeSpec := { name := "choreWaits", fn := fun _ => fun
  | [d1, d2] => { results := [.lit (.bool false)], args := [d1, d2] }
  | _ => none }
def ChoreWaitsWrongFalsely : Prop := choreWaitsRow.holds Try.pinned (OpenSpec.ofChange choreWaitsWrong)

/- THE SECOND FORM. 'bulk': how many values and letters a reading holds, each counted each time it is reached (what is shared counts as often as it is met; a slice's spare places count too). A statement '..UptoSaid' is the law's where the arguments, and the package variables that the reading takes, are together of bulk at most 1048576: NARROWER than '..Said'. Prove '..Said' where nothing that the law and all that it calls make is longer than what came in: it says more and counts as full. Else prove '..UptoSaid'. A law counts once. -/
mutual
def uptoBulk {H : Type} : DataW H → Nat
  | .lit (.string bytes) => bytes.length + 1
  | .lit _ => 1
  | .nil => 1
  | .ptr d => uptoBulk d + 1
  | .slice elems spare => uptoBulkAll elems + uptoBulkAll spare + 1
  | .agg parts => uptoBulkAll parts + 1
  | .iface _ d => uptoBulk d + 1
  | .map entries => uptoBulkEntries entries + 1
  | .held _ => 1
def uptoBulkAll {H : Type} : List (DataW H) → Nat
  | [] => 0
  | d :: r => uptoBulk d + uptoBulkAll r
def uptoBulkEntries {H : Type} : List (Lit × DataW H) → Nat
  | [] => 0
  | x :: r => uptoBulkEntry x + uptoBulkEntries r
def uptoBulkEntry {H : Type} : Lit × DataW H → Nat
  | (.string bytes, d) => bytes.length + uptoBulk d + 1
  | (_, d) => uptoBulk d + 1
 end
def uptoSmall : (H : Type) → List (DataW H) → Bool := fun _ ds => decide (uptoBulkAll ds ≤ 1048576)
def OpenSpec.upto (s : _root_.Go.ChangeSpec) : _root_.Go.OpenSpec := { _root_.Go.OpenSpec.ofChange s with cond := some uptoSmall }

/-- 'teasellaw23.ChoreTells', WHERE WHAT IT READS IS OF BULK AT MOST 1048576: true; the input reads as it did. -/
def choreTellsUptoRow : OpenClaim := { program := "ytbfcpapehfdphaa", sum := "e7474e176595a5581b63b4759071ed6fa20034a49ebd4060b3fb3f716a314ef7", func := "teasel/teasellaw23.ChoreTells", spec := "choreTells", unfollowed := true, recurses := true, apart := false, narrowed := true }
def ChoreTellsUptoSaid : Prop := choreTellsUptoRow.holds Try.pinned (OpenSpec.upto choreTellsSpec)

/-- 'teasellaw23.ChoreGoes', WHERE WHAT IT READS IS OF BULK AT MOST 1048576: true; the input reads as it did. -/
def choreGoesUptoRow : OpenClaim := { program := "ytbfcpapehfdphaa", sum := "e7474e176595a5581b63b4759071ed6fa20034a49ebd4060b3fb3f716a314ef7", func := "teasel/teasellaw23.ChoreGoes", spec := "choreGoes", unfollowed := true, recurses := true, apart := false, narrowed := true }
def ChoreGoesUptoSaid : Prop := choreGoesUptoRow.holds Try.pinned (OpenSpec.upto choreGoesSpec)

/-- 'teasellaw23.ChoreWaits', WHERE WHAT IT READS IS OF BULK AT MOST 1048576: true; the input reads as it did. -/
def choreWaitsUptoRow : OpenClaim := { program := "ytbfcpapehfdphaa", sum := "e7474e176595a5581b63b4759071ed6fa20034a49ebd4060b3fb3f716a314ef7", func := "teasel/teasellaw23.ChoreWaits", spec := "choreWaits", unfollowed := true, recurses := true, apart := false, narrowed := true }
def ChoreWaitsUptoSaid : Prop := choreWaitsUptoRow.holds Try.pinned (OpenSpec.upto choreWaitsSpec)

end Rows
end Go.Proofs.Ytbfcpapehfdphaa
