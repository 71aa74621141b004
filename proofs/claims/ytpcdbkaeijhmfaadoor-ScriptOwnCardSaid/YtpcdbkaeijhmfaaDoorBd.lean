/- A strings.Builder, written and read. -/
import Derived.Test.YtpcdbkaeijhmfaaDoorVa
namespace Go.Proofs.YtpcdbkaeijhmfaaDoor
set_option maxRecDepth 100000
set_option linter.unusedVariables false
set_option linter.unusedSimpArgs false
open Go.RowKit
def Bd (B b : Nat) (l : By) (w : World) : Prop := Lib.IsBuilderF 55 5 B b (Lib.byteCells l) w
/-- What a builder's call leaves. -/
def BdTo (B b : Nat) (w w' : World) : Prop := Below B w w' ∧ Lib.OthersKept 5 (some b) w w'
theorem BdTo.frm {B b : Nat} {w w' : World} (h : BdTo B b w w') : Frm (fun q => B ≤ q) w w' := ⟨h.1.os, h.1.tape, h.1.output, h.1.size, fun k _ hk => h.1.block k (by omega)⟩
theorem bd_new (w : World) : Bd w.heap.size w.heap.size [] (w.alloc (.cells #[.pointer none, .slice none 0 0] 55)) :=
  .inl ⟨Nat.le_refl _, .slice none 0 0, heap_alloc_new w _, World.ownsRowF_nil _ _ _ _, by simp [Value.ownBlock]⟩
theorem byteCells_app (l s : By) : Lib.byteCells (l ++ s) = Lib.byteCells l ++ Lib.strCells (ba s) := by simp [Lib.byteCells, Lib.strCells, ba_data]
theorem bd_string (B b : Nat) (l s : By) (w : World) (h : Bd B b l w) (hlen : l.length + s.length ≤ 140737488355328) (hB : B ≤ w.heap.size) :
    Calls Tryd.prog 19 #[.pointer (some ⟨b, 0, none⟩), .string (ba s)] w fun e w' => e = .returned (.tuple #[.int .i64 (ba s).size, .nilIface]) ∧ Bd B b (l ++ s) w' ∧ BdTo B b w w' :=
  (Tryd.Builder_WriteString_k B b _ (ba s) w h (by rw [Lib.byteCells_length, ba_size]; exact hlen) hB).mono (by
    rintro e w' ⟨rfl, h1, h2, h3⟩
    refine ⟨rfl, ?_, h2, h3⟩
    unfold Bd
    rw [byteCells_app]
    exact .inr h1)
theorem bd_byte (B b : Nat) (l : By) (c : UInt8) (w : World) (h : Bd B b l w) (hlen : l.length + 1 ≤ 140737488355328) (hB : B ≤ w.heap.size) :
    Calls Tryd.prog 20 #[.pointer (some ⟨b, 0, none⟩), .int .u8 c.toNat] w fun e w' => e = .returned .nilIface ∧ Bd B b (l ++ [c]) w' ∧ BdTo B b w w' :=
  (Tryd.Builder_WriteByte_k B b _ c.toNat w h (by rw [Lib.byteCells_length]; exact hlen) hB).mono (by
    rintro e w' ⟨rfl, h1, h2, h3⟩
    refine ⟨rfl, ?_, h2, h3⟩
    unfold Bd
    rw [show Lib.byteCells (l ++ [c]) = Lib.byteCells l ++ [.int .u8 c.toNat] by simp [Lib.byteCells]]
    exact .inr h1)
theorem bd_read (B b : Nat) (l : By) (w : World) (h : Bd B b l w) (hB : B ≤ w.heap.size) :
    Calls Tryd.prog 22 #[.pointer (some ⟨b, 0, none⟩)] w fun e w' => e = .returned (.string (ba l)) ∧ Bd B b l w' ∧ BdTo B b w w' :=
  (Tryd.Builder_String_any_k B b l w h hB).mono (by
    rintro e w' ⟨rfl, h1, h2⟩
    exact ⟨rfl, h1, h2⟩)
end Go.Proofs.YtpcdbkaeijhmfaaDoor
