/- A plan as an argument. -/
import Derived.Test.YtfclpggbcmbcjaaRead
namespace Go.Proofs.Ytfclpggbcmbcjaa
open Go.RowKit Go.ChangeShapes Go.WideShapes Go.Deep
theorem read_plan {H : Type} {enc : TypeId × Value → H} {W : World} {base : Nat} {v : Value} {d : DataW H} {p : List MemPlace} (hok : Value.okWide Try.prog W .any base 31 v) (h : DataW.Trod enc Try.prog W 0 (fun _ => true) true 31 v d p) :
    ∃ k s z, v = .agg #[.int .u8 k, .int .u32 s, .int .i64 z] := by
  obtain ⟨cs, rfl, -⟩ := okWide_struct Try.underlying31 hok
  have r := rdr_struct (W := W) (enc := enc) Try.underlying31 (by kernel_rfl) (rf_cons (s := 1) (sz := 2) rfl rfl (rdr_int Try.underlying5 (by kernel_rfl)) (rf_cons (s := 1) (sz := 1) rfl rfl (rdr_int Try.underlying29 (by kernel_rfl)) (rf_cons (s := 1) (sz := 0) rfl rfl (rdr_int Try.underlying3 (by kernel_rfl)) rf_nil)))
  obtain ⟨⟨k, s, z, _⟩, c0, c1, e1, ⟨q1, _⟩, c2, c3, e2, ⟨q2, _⟩, c4, c5, e3, ⟨q3, _⟩, q4⟩ := rdr_arg r h
  have q4' : c5 = [] := q4
  subst q4' q1 q2 q3 e3 e2
  have e : cs.toList = [.int .u8 k, .int .u32 s, .int .i64 z] := e1
  refine ⟨k, s, z, ?_⟩
  rw [← Array.toArray_toList (xs := cs), e]
end Go.Proofs.Ytfclpggbcmbcjaa
