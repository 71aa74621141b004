/- A chore, pipes as arguments. -/
import Derived.Test.YtbfcpapehfdphaaRead
import Derived.Test.YtbfcpapehfdphaaEr
namespace Go.Proofs.Ytbfcpapehfdphaa
open Go.RowKit Go.ChangeShapes Go.WideShapes Go.Deep
theorem flat_rel {α β : Type} (ys : List (List Value × α)) (f : α → β) (g : β → List Value) (h : ∀ y ∈ ys, y.1 = g (f y.2)) : ys.flatMap (·.1) = (ys.map fun y => f y.2).flatMap g := by
  induction ys with
  | nil => rfl
  | cons y ys ih =>
    rw [List.flatMap_cons, List.map_cons, List.flatMap_cons, h y (by simp), ih fun z hz => h z (by simp [hz])]
section
variable {H : Type} {enc : TypeId × Value → H} {W : World}
def RelEr : List Value → Int × Int × Int × Unit → Prop := RCons (RInt .u8) (RCons (RInt .i64) (RCons (RInt .u32) RNil))
def RelCh (W : World) : List Value → (Value × List (List Value × (Int × Int × Int × Unit))) × Int × Int × Int × Unit → Prop := RCons (RSl W 3 RelEr) (RCons (RInt .i64) (RCons (RInt .u32) (RCons (RInt .i64) RNil)))
def RelPi (W : World) : List Value → Int × (Value × List (List Value × Int)) × Bool × Unit → Prop := RCons (RInt .i64) (RCons (RSl W 1 (RInt .u32)) (RCons RBool RNil))
theorem rdr_er : Rdr enc Try.prog W 43 3 RelEr :=
  rdr_struct Try.underlying43 (by kernel_rfl) (rf_cons (s := 1) (sz := 2) rfl rfl (rdr_int Try.underlying5 (by kernel_rfl)) (rf_cons (s := 1) (sz := 1) rfl rfl (rdr_int Try.underlying3 (by kernel_rfl)) (rf_cons (s := 1) (sz := 0) rfl rfl (rdr_int Try.underlying23 (by kernel_rfl)) rf_nil)))
theorem rdr_ch : Rdr enc Try.prog W 25 4 (RelCh W) :=
  rdr_struct Try.underlying25 (by kernel_rfl) (rf_cons (s := 1) (sz := 3) rfl rfl (rdr_slice Try.underlying22 (by kernel_rfl) (by omega) rdr_er) (rf_cons (s := 1) (sz := 2) rfl rfl (rdr_int Try.underlying3 (by kernel_rfl)) (rf_cons (s := 1) (sz := 1) rfl rfl (rdr_int Try.underlying23 (by kernel_rfl)) (rf_cons (s := 1) (sz := 0) rfl rfl (rdr_int Try.underlying3 (by kernel_rfl)) rf_nil))))
theorem rdr_pi : Rdr enc Try.prog W 46 3 (RelPi W) :=
  rdr_struct Try.underlying46 (by kernel_rfl) (rf_cons (s := 1) (sz := 2) rfl rfl (rdr_int Try.underlying3 (by kernel_rfl)) (rf_cons (s := 1) (sz := 1) rfl rfl (rdr_slice Try.underlying44 (by kernel_rfl) (by omega) (rdr_int Try.underlying23 (by kernel_rfl))) (rf_cons (s := 1) (sz := 0) rfl rfl (rdr_bool Try.underlying4 (by kernel_rfl)) rf_nil)))
def toEr (y : Int × Int × Int × Unit) : Er := ⟨y.1, y.2.1, y.2.2.1⟩
theorem relEr {cs : List Value} {y : Int × Int × Int × Unit} (h : RelEr cs y) : cs = eCells (toEr y) := by
  obtain ⟨d, q, n, u⟩ := y
  obtain ⟨c0, c1, rfl, ⟨rfl, -⟩, c2, c3, rfl, ⟨rfl, -⟩, c4, c5, rfl, ⟨rfl, -⟩, h⟩ := h
  have h' : c5 = [] := h
  subst h'
  rfl
theorem rat_of {v : Value} {ys : List (List Value × (Int × Int × Int × Unit))} (h1 : SlZ W (fun k => k < W.heap.size) 3 v (ys.flatMap (·.1))) (h2 : ∀ y ∈ ys, y.1.length = 3 ∧ RelEr y.1 y.2) : RAt W (fun q => q < W.heap.size) v (ys.map fun y => toEr y.2) := by
  rw [flat_rel ys toEr eCells fun y hy => relEr (h2 y hy).2] at h1
  exact h1
/-- What a chore's cells tell. -/
theorem relCh {cs : List Value} {y : (Value × List (List Value × (Int × Int × Int × Unit))) × Int × Int × Int × Unit} (h : RelCh W cs y) : cs = [y.1.1, .int .i64 y.2.1, .int .u32 y.2.2.1, .int .i64 y.2.2.2.1] ∧ RAt W (fun q => q < W.heap.size) y.1.1 (y.1.2.map fun y => toEr y.2) := by
  obtain ⟨⟨v, zs⟩, a, s, r, u⟩ := y
  obtain ⟨c0, c1, rfl, ⟨rfl, h1, h2⟩, c2, c3, rfl, ⟨rfl, -⟩, c4, c5, rfl, ⟨rfl, -⟩, c6, c7, rfl, ⟨rfl, -⟩, h⟩ := h
  have h' : c7 = [] := h
  subst h'
  exact ⟨rfl, rat_of h1 h2⟩
def toPk (y : Int × (Value × List (List Value × Int)) × Bool × Unit) : Pk := ⟨y.2.1.1, ⟨y.1, y.2.1.2.map (·.2), y.2.2.1⟩⟩
theorem relPi {cs : List Value} {y : Int × (Value × List (List Value × Int)) × Bool × Unit} (h : RelPi W cs y) : cs = pCells (toPk y) ∧ Sl W (fun q => q < W.heap.size) (toPk y).v (uv (toPk y).p.ins) := by
  obtain ⟨r, ⟨v, zs⟩, b, u⟩ := y
  obtain ⟨c0, c1, rfl, ⟨rfl, -⟩, c2, c3, rfl, ⟨rfl, h1, h2⟩, c4, c5, rfl, hb, h⟩ := h
  have h' : c5 = [] := h
  have hb' : c4 = [.bool b] := hb
  subst h' hb'
  exact ⟨rfl, (sl_ints h1 h2).1⟩
theorem pat_of {v : Value} {ys : List (List Value × (Int × (Value × List (List Value × Int)) × Bool × Unit))} (h1 : SlZ W (fun k => k < W.heap.size) 3 v (ys.flatMap (·.1))) (h2 : ∀ y ∈ ys, y.1.length = 3 ∧ RelPi W y.1 y.2) : PAt W (fun q => q < W.heap.size) v (ys.map fun y => toPk y.2) := by
  rw [flat_rel ys toPk pCells fun y hy => (relPi (h2 y hy).2).1] at h1
  refine ⟨h1, fun p hp => ?_⟩
  obtain ⟨y, hy, rfl⟩ := List.mem_map.1 hp
  exact (relPi (h2 y hy).2).2
theorem read_chore {base : Nat} {v : Value} {d : DataW H} {p : List MemPlace} (hok : Value.okWide Try.prog W .any base 25 v) (h : DataW.Trod enc Try.prog W 0 (fun _ => true) true 25 v d p) :
    ∃ A n c a s r es, v = .agg #[.slice A n c, .int .i64 a, .int .u32 s, .int .i64 r] ∧ RAt W (fun q => q < W.heap.size) (.slice A n c) es := by
  obtain ⟨cs, rfl, -⟩ := okWide_struct Try.underlying25 hok
  obtain ⟨y, hy⟩ := rdr_arg (rdr_ch (enc := enc) (W := W)) h
  obtain ⟨e1, e2⟩ := relCh hy
  obtain ⟨A, n, c, e3, -⟩ := id e2
  rw [e3] at e2
  refine ⟨A, n, c, y.2.1, y.2.2.1, y.2.2.2.1, _, ?_, e2⟩
  rw [← Array.toArray_toList (xs := cs)]
  have e : cs.toList = _ := e1
  rw [e, e3]
theorem read_pipes {base : Nat} {v : Value} {d : DataW H} {p : List MemPlace} (hok : Value.okWide Try.prog W .any base 26 v) (h : DataW.Trod enc Try.prog W 0 (fun _ => true) true 26 v d p) :
    ∃ A n c ps, v = .slice A n c ∧ PAt W (fun q => q < W.heap.size) (.slice A n c) ps := by
  obtain ⟨ys, h1, h2⟩ := rdr_slice_arg Try.underlying26 (rdr_slice (W := W) (enc := enc) Try.underlying26 (by kernel_rfl) (by omega) rdr_pi) hok h
  have h3 := pat_of h1 h2
  obtain ⟨A, n, c, rfl, -⟩ := id h3.1
  exact ⟨A, n, c, _, rfl, h3⟩
end
end Go.Proofs.Ytbfcpapehfdphaa
