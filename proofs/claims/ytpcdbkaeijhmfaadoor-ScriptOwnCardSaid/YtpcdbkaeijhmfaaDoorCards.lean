/-
  DERIVED. GIVEN WITH THE SEED: THE CARDS: each row of YtpcdbkaeijhmfaaDoorRows.lean that lists a variable, with what it lists TIED to the program's text (the seventh form; the later family's looks); each row that meets fmt, with fmt's text TOLD by the authors' own Lean function (tested against real Go, not proved from fmt's source: count such statements apart). THE CARD IS WHAT COUNTS. Prove the row's statement (the work); the ties are given (YtpcdbkaeijhmfaaDoorTie.lean); close each card by the builder's one call (the guide's Derived/Test/ToyasCard.lean, 'card_holds'). Laid BY PROGRAM, IN A SANDBOX (cutbox-door.mjs). By AI agents, Wed Nov 11 2026. No macro, syntax, notation, axiom, sorry.
-/
import Derived.Test.YtpcdbkaeijhmfaaDoorRows
import GoSem.ClaimSeven
namespace Go.Proofs.YtpcdbkaeijhmfaaDoor
namespace Rows

/-- THE TIED CARD OF 'teasellaw30.ScriptBack'. -/
def scriptBackCard : Claim7 := { stood := { row := scriptBackRow, standIns := [], harness := (true, "47f92e2375c7c45a1486de1d68962d1dfffca9f4cfd12509edd5d96a9bcbafae"), looks := false }, kinds := [], alts := [], laidByText := true, laidKinds := [.data, .data, .data, .data, .pinned], laidTests := true, laidLooks := .later }
def ScriptBackCardSaid : Prop := Claim7.holds Tryd.pinned (.plain (OpenSpec.ofChange scriptBackSpec)) scriptBackCard

/-- THE TIED CARD OF 'teasellaw30.ScriptText'. -/
def scriptTextCard : Claim7 := { stood := { row := scriptTextRow, standIns := [], harness := (true, "47f92e2375c7c45a1486de1d68962d1dfffca9f4cfd12509edd5d96a9bcbafae"), looks := false }, kinds := [], alts := [], laidByText := true, laidKinds := [.data, .data, .data, .data, .pinned], laidTests := true, laidLooks := .later }
def ScriptTextCardSaid : Prop := Claim7.holds Tryd.pinned (.plain (OpenSpec.ofChange scriptTextSpec)) scriptTextCard

/-- THE TIED CARD OF 'teasellaw30.ScriptLines'. -/
def scriptLinesCard : Claim7 := { stood := { row := scriptLinesRow, standIns := [], harness := (true, "47f92e2375c7c45a1486de1d68962d1dfffca9f4cfd12509edd5d96a9bcbafae"), looks := false }, kinds := [], alts := [], laidByText := true, laidKinds := [.data, .data, .data, .data, .pinned], laidTests := true, laidLooks := .later }
def ScriptLinesCardSaid : Prop := Claim7.holds Tryd.pinned (.plain (OpenSpec.ofChange scriptLinesSpec)) scriptLinesCard

/-- THE TIED CARD OF 'teasellaw30.ScriptOwn'. -/
def scriptOwnCard : Claim7 := { stood := { row := scriptOwnRow, standIns := [], harness := (true, "47f92e2375c7c45a1486de1d68962d1dfffca9f4cfd12509edd5d96a9bcbafae"), looks := false }, kinds := [], alts := [], laidByText := true, laidKinds := [.data, .data, .data, .data, .pinned], laidTests := true, laidLooks := .later }
def ScriptOwnCardSaid : Prop := Claim7.holds Tryd.pinned (.plain (OpenSpec.ofChange scriptOwnSpec)) scriptOwnCard

/-- THE SECOND FORM's CARD OF 'teasellaw30.ScriptBack'. -/
def scriptBackUptoCard : Claim7 := { stood := { row := scriptBackUptoRow, standIns := [], harness := (true, "47f92e2375c7c45a1486de1d68962d1dfffca9f4cfd12509edd5d96a9bcbafae"), looks := false }, kinds := [], alts := [], laidByText := true, laidKinds := [.data, .data, .data, .data, .pinned], laidTests := true, laidLooks := .later }
def ScriptBackUptoCardSaid : Prop := Claim7.holds Tryd.pinned (.plain (OpenSpec.upto scriptBackSpec)) scriptBackUptoCard

/-- THE SECOND FORM's CARD OF 'teasellaw30.ScriptText'. -/
def scriptTextUptoCard : Claim7 := { stood := { row := scriptTextUptoRow, standIns := [], harness := (true, "47f92e2375c7c45a1486de1d68962d1dfffca9f4cfd12509edd5d96a9bcbafae"), looks := false }, kinds := [], alts := [], laidByText := true, laidKinds := [.data, .data, .data, .data, .pinned], laidTests := true, laidLooks := .later }
def ScriptTextUptoCardSaid : Prop := Claim7.holds Tryd.pinned (.plain (OpenSpec.upto scriptTextSpec)) scriptTextUptoCard

/-- THE SECOND FORM's CARD OF 'teasellaw30.ScriptLines'. -/
def scriptLinesUptoCard : Claim7 := { stood := { row := scriptLinesUptoRow, standIns := [], harness := (true, "47f92e2375c7c45a1486de1d68962d1dfffca9f4cfd12509edd5d96a9bcbafae"), looks := false }, kinds := [], alts := [], laidByText := true, laidKinds := [.data, .data, .data, .data, .pinned], laidTests := true, laidLooks := .later }
def ScriptLinesUptoCardSaid : Prop := Claim7.holds Tryd.pinned (.plain (OpenSpec.upto scriptLinesSpec)) scriptLinesUptoCard

/-- THE SECOND FORM's CARD OF 'teasellaw30.ScriptOwn'. -/
def scriptOwnUptoCard : Claim7 := { stood := { row := scriptOwnUptoRow, standIns := [], harness := (true, "47f92e2375c7c45a1486de1d68962d1dfffca9f4cfd12509edd5d96a9bcbafae"), looks := false }, kinds := [], alts := [], laidByText := true, laidKinds := [.data, .data, .data, .data, .pinned], laidTests := true, laidLooks := .later }
def ScriptOwnUptoCardSaid : Prop := Claim7.holds Tryd.pinned (.plain (OpenSpec.upto scriptOwnSpec)) scriptOwnUptoCard
end Rows
end Go.Proofs.YtpcdbkaeijhmfaaDoor
