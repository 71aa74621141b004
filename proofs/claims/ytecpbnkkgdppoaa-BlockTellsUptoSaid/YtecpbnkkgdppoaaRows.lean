/-
  No cell of these rows narrows 'for every input' (looked for: loops, veiled, ifaces, maps, wideKeys, modest, calm, conditions, laid).
  DERIVED. THE GIVEN ROWS OF THIS SEAT. 5 by the template 'for every input the law returns true; each argument reads behind the call as it read before'; 0 by the template 'total and deterministic' (their statements: YtecpbnkkgdppoaaTotals.lean).
  GIVEN WITH THE SEED: the statements are not yours to turn. If you find one false, say at which input.
  Laid BY PROGRAM, IN A SANDBOX (cutbox-rows.mjs): the forced cells as the released guide's own fill.sh prints them over the translation 05f6f62ff7f9703e… (all of the seat's roots in one cut). By AI agents, Wed Nov 11 2026. No macro, syntax, notation, axiom, sorry.
-/
import Derived.Test.YtecpbnkkgdppoaaChecked
import GoSem.Claim
import GoSem.ClaimJoined
import GoSem.ClaimMapViews
import Derived.JoinedTies
import Derived.KernelRfl
namespace Go.Proofs.Ytecpbnkkgdppoaa
/- THE CELL 'sum', in the pinned program and in every row, IS THE sha256 OF THE DUMP (.gsa) THAT YtecpbnkkgdppoaaProg.lean LOADS. Nothing in Lean hashes anything: it is a label: what it is worth is what the hold of that sum in a sandbox is worth. -/
noncomputable def Try.pinned : Pinned := { name := "ytecpbnkkgdppoaa", sum := "05f6f62ff7f9703eb4b4cdd5020b90ef6d97ff8325f8a2d8abc85492bdc126c7", checked := Try.checked }
namespace Rows
def none {H : Type} : Left H := { results := [], args := [] }

/-- 'teasellaw19.BlockTells': WHATEVER THE INPUT: true; the input reads as it did. -/
def blockTellsSpec : ChangeSpec := { name := "blockTells", fn := fun _ => fun
  | [d1, d2, d3, d4, d5, d6, d7] => { results := [.lit (.bool true)], args := [d1, d2, d3, d4, d5, d6, d7] }
  | _ => none }
def blockTellsRow : OpenClaim := { program := "ytecpbnkkgdppoaa", sum := "05f6f62ff7f9703eb4b4cdd5020b90ef6d97ff8325f8a2d8abc85492bdc126c7", func := "teasel/teasellaw19.BlockTells", spec := "blockTells", unfollowed := true, recurses := true, apart := false }
def BlockTellsSaid : Prop := blockTellsRow.holds Try.pinned (OpenSpec.ofChange blockTellsSpec)

/-- ITS FALSE NEIGHBOUR: 'it returns false'. Refute it at one input. -/
def blockTellsWrong : ChangeSpec := { name := "blockTells", fn := fun _ => fun
  | [d1, d2, d3, d4, d5, d6, d7] => { results := [.lit (.bool false)], args := [d1, d2, d3, d4, d5, d6, d7] }
  | _ => none }
def BlockTellsWrongFalsely : Prop := blockTellsRow.holds Try.pinned (OpenSpec.ofChange blockTellsWrong)

/-- 'teasellaw19.BlockWhole': WHATEVER THE INPUT: true; the input reads as it did. -/
def blockWholeSpec : ChangeSpec := { name := "blockWhole", fn := fun _ => fun
  | [d1, d2, d3, d4] => { results := [.lit (.bool true)], args := [d1, d2, d3, d4] }
  | _ => none }
def blockWholeRow : OpenClaim := { program := "ytecpbnkkgdppoaa", sum := "05f6f62ff7f9703eb4b4cdd5020b90ef6d97ff8325f8a2d8abc85492bdc126c7", func := "teasel/teasellaw19.BlockWhole", spec := "blockWhole", unfollowed := true, recurses := true, apart := false }
def BlockWholeSaid : Prop := blockWholeRow.holds Try.pinned (OpenSpec.ofChange blockWholeSpec)

/-- ITS FALSE NEIGHBOUR: 'it returns false'. Refute it at one input. -/
def blockWholeWrong : ChangeSpec := { name := "blockWhole", fn := fun _ => fun
  | [d1, d2, d3, d4] => { results := [.lit (.bool false)], args := [d1, d2, d3, d4] }
  | _ => none }
def BlockWholeWrongFalsely : Prop := blockWholeRow.holds Try.pinned (OpenSpec.ofChange blockWholeWrong)

/-- 'teasellaw19.BlockChunks': WHATEVER THE INPUT: true; the input reads as it did. -/
def blockChunksSpec : ChangeSpec := { name := "blockChunks", fn := fun _ => fun
  | [d1, d2, d3, d4] => { results := [.lit (.bool true)], args := [d1, d2, d3, d4] }
  | _ => none }
def blockChunksRow : OpenClaim := { program := "ytecpbnkkgdppoaa", sum := "05f6f62ff7f9703eb4b4cdd5020b90ef6d97ff8325f8a2d8abc85492bdc126c7", func := "teasel/teasellaw19.BlockChunks", spec := "blockChunks", unfollowed := true, recurses := true, apart := false }
def BlockChunksSaid : Prop := blockChunksRow.holds Try.pinned (OpenSpec.ofChange blockChunksSpec)

/-- ITS FALSE NEIGHBOUR: 'it returns false'. Refute it at one input. -/
def blockChunksWrong : ChangeSpec := { name := "blockChunks", fn := fun _ => fun
  | [d1, d2, d3, d4] => { results := [.lit (.bool false)], args := [d1, d2, d3, d4] }
  | _ => none }
def BlockChunksWrongFalsely : Prop := blockChunksRow.holds Try.pinned (OpenSpec.ofChange blockChunksWrong)

/-- 'teasellaw19.BlockWords': WHATEVER THE INPUT: true; the input reads as it did. -/
def blockWordsSpec : ChangeSpec := { name := "blockWords", fn := fun _ => fun
  | [d1, d2, d3, d4, d5, d6] => { results := [.lit (.bool true)], args := [d1, d2, d3, d4, d5, d6] }
  | _ => none }
def blockWordsRow : OpenClaim := { program := "ytecpbnkkgdppoaa", sum := "05f6f62ff7f9703eb4b4cdd5020b90ef6d97ff8325f8a2d8abc85492bdc126c7", func := "teasel/teasellaw19.BlockWords", spec := "blockWords", unfollowed := true, recurses := true, apart := false }
def BlockWordsSaid : Prop := blockWordsRow.holds Try.pinned (OpenSpec.ofChange blockWordsSpec)

/-- ITS FALSE NEIGHBOUR: 'it returns false'. Refute it at one input. -/
def blockWordsWrong : ChangeSpec := { name := "blockWords", fn := fun _ => fun
  | [d1, d2, d3, d4, d5, d6] => { results := [.lit (.bool false)], args := [d1, d2, d3, d4, d5, d6] }
  | _ => none }
def BlockWordsWrongFalsely : Prop := blockWordsRow.holds Try.pinned (OpenSpec.ofChange blockWordsWrong)

/-- 'teasellaw19.BlockOwn': WHATEVER THE INPUT: true; the input reads as it did. -/
def blockOwnSpec : ChangeSpec := { name := "blockOwn", fn := fun _ => fun
  | [d1, d2, d3, d4] => { results := [.lit (.bool true)], args := [d1, d2, d3, d4] }
  | _ => none }
def blockOwnRow : OpenClaim := { program := "ytecpbnkkgdppoaa", sum := "05f6f62ff7f9703eb4b4cdd5020b90ef6d97ff8325f8a2d8abc85492bdc126c7", func := "teasel/teasellaw19.BlockOwn", spec := "blockOwn", unfollowed := true, recurses := true, apart := false }
def BlockOwnSaid : Prop := blockOwnRow.holds Try.pinned (OpenSpec.ofChange blockOwnSpec)

/-- ITS FALSE NEIGHBOUR: 'it returns false'. Refute it at one input. -/
def blockOwnWrong : ChangeSpec := { name := "blockOwn", fn := fun _ => fun
  | [d1, d2, d3, d4] => { results := [.lit (.bool false)], args := [d1, d2, d3, d4] }
  | _ => none }
def BlockOwnWrongFalsely : Prop := blockOwnRow.holds Try.pinned (OpenSpec.ofChange blockOwnWrong)

/- THE SECOND FORM. 'bulk': how many values and letters a reading holds, each counted each time it is reached (what is shared counts as often as it is met; a slice's spare places count too). A statement '..UptoSaid' is the law's where the arguments, and the package variables that the reading takes, are together of bulk at most 1048576: NARROWER than '..Said'. Prove '..Said' where nothing that the law and all that it calls make is longer than what came in: it says more and counts as full. Else prove '..UptoSaid'. A law counts once. -/
mutual
def uptoBulk {H : Type} : DataW H → Nat
  | .lit (.string bytes) => bytes.length + 1
  | .lit _ => 1
  | .nil => 1
  | .ptr d => uptoBulk d + 1
  | .slice elems spare => uptoBulkAll elems + uptoBulkAll spare + 1
  | .agg parts => uptoBulkAll parts + 1
  | .iface _ d => uptoBulk d + 1
  | .map entries => uptoBulkEntries entries + 1
  | .held _ => 1
def uptoBulkAll {H : Type} : List (DataW H) → Nat
  | [] => 0
  | d :: r => uptoBulk d + uptoBulkAll r
def uptoBulkEntries {H : Type} : List (Lit × DataW H) → Nat
  | [] => 0
  | x :: r => uptoBulkEntry x + uptoBulkEntries r
def uptoBulkEntry {H : Type} : Lit × DataW H → Nat
  | (.string bytes, d) => bytes.length + uptoBulk d + 1
  | (_, d) => uptoBulk d + 1
 end
def uptoSmall : (H : Type) → List (DataW H) → Bool := fun _ ds => decide (uptoBulkAll ds ≤ 1048576)
def OpenSpec.upto (s : _root_.Go.ChangeSpec) : _root_.Go.OpenSpec := { _root_.Go.OpenSpec.ofChange s with cond := some uptoSmall }

/-- 'teasellaw19.BlockTells', WHERE WHAT IT READS IS OF BULK AT MOST 1048576: true; the input reads as it did. -/
def blockTellsUptoRow : OpenClaim := { program := "ytecpbnkkgdppoaa", sum := "05f6f62ff7f9703eb4b4cdd5020b90ef6d97ff8325f8a2d8abc85492bdc126c7", func := "teasel/teasellaw19.BlockTells", spec := "blockTells", unfollowed := true, recurses := true, apart := false, narrowed := true }
def BlockTellsUptoSaid : Prop := blockTellsUptoRow.holds Try.pinned (OpenSpec.upto blockTellsSpec)

/-- 'teasellaw19.BlockWhole', WHERE WHAT IT READS IS OF BULK AT MOST 1048576: true; the input reads as it did. -/
def blockWholeUptoRow : OpenClaim := { program := "ytecpbnkkgdppoaa", sum := "05f6f62ff7f9703eb4b4cdd5020b90ef6d97ff8325f8a2d8abc85492bdc126c7", func := "teasel/teasellaw19.BlockWhole", spec := "blockWhole", unfollowed := true, recurses := true, apart := false, narrowed := true }
def BlockWholeUptoSaid : Prop := blockWholeUptoRow.holds Try.pinned (OpenSpec.upto blockWholeSpec)

/-- 'teasellaw19.BlockChunks', WHERE WHAT IT READS IS OF BULK AT MOST 1048576: true; the input reads as it did. -/
def blockChunksUptoRow : OpenClaim := { program := "ytecpbnkkgdppoaa", sum := "05f6f62ff7f9703eb4b4cdd5020b90ef6d97ff8325f8a2d8abc85492bdc126c7", func := "teasel/teasellaw19.BlockChunks", spec := "blockChunks", unfollowed := true, recurses := true, apart := false, narrowed := true }
def BlockChunksUptoSaid : Prop := blockChunksUptoRow.holds Try.pinned (OpenSpec.upto blockChunksSpec)

/-- 'teasellaw19.BlockWords', WHERE WHAT IT READS IS OF BULK AT MOST 1048576: true; the input reads as it did. -/
def blockWordsUptoRow : OpenClaim := { program := "ytecpbnkkgdppoaa", sum := "05f6f62ff7f9703eb4b4cdd5020b90ef6d97ff8325f8a2d8abc85492bdc126c7", func := "teasel/teasellaw19.BlockWords", spec := "blockWords", unfollowed := true, recurses := true, apart := false, narrowed := true }
def BlockWordsUptoSaid : Prop := blockWordsUptoRow.holds Try.pinned (OpenSpec.upto blockWordsSpec)

/-- 'teasellaw19.BlockOwn', WHERE WHAT IT READS IS OF BULK AT MOST 1048576: true; the input reads as it did. -/
def blockOwnUptoRow : OpenClaim := { program := "ytecpbnkkgdppoaa", sum := "05f6f62ff7f9703eb4b4cdd5020b90ef6d97ff8325f8a2d8abc85492bdc126c7", func := "teasel/teasellaw19.BlockOwn", spec := "blockOwn", unfollowed := true, recurses := true, apart := false, narrowed := true }
def BlockOwnUptoSaid : Prop := blockOwnUptoRow.holds Try.pinned (OpenSpec.upto blockOwnSpec)

end Rows
end Go.Proofs.Ytecpbnkkgdppoaa
