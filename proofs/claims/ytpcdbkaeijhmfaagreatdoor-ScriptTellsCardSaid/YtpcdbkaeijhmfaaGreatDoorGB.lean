/- A text as an argument. -/
import Derived.Test.YtpcdbkaeijhmfaaGreatDoorGA
import Derived.Test.YtpcdbkaeijhmfaaGreatDoorHPa
namespace Go.Proofs.YtpcdbkaeijhmfaaGreatDoor
set_option maxRecDepth 100000
set_option linter.unusedVariables false
set_option linter.unusedSimpArgs false
open Go.RowKit Go.ChangeShapes Go.WideShapes
theorem read_text {P : Program} {W : World} {base : Nat} {t : TypeId} {v : Value} (ht : P.underlying t = some .string) (hok : Value.okWide P W .any base t v) : ∃ l : By, v = .string (ba l) := by
  obtain ⟨s, rfl⟩ := okWide_string ht hok
  exact ⟨s.data.toList, by rw [ba_list]⟩
end Go.Proofs.YtpcdbkaeijhmfaaGreatDoor
