/- The region of own's round that puts a pipe behind the others: in whatever order. -/
import Derived.Deep.Onto
import Derived.Test.YtnibllkcacalhaaGA
namespace Go.Proofs.Ytnibllkcacalhaa
set_option maxRecDepth 100000
open Go.RowKit
theorem plan_three {P : Program} {md : Region.Mode} {l : List Oper} {Q : Exit → Act → World → Prop} {listed : Array Bool} {a : Act} {w : World} {fuel : Nat} (i j k : Nat) {o o' o2 : Oper} (hr : Region.ready md l.toArray listed = [i, j, k]) (hi : l.toArray[i]? = some o) (hj : l.toArray[j]? = some o') (hk : l.toArray[k]? = some o2)
    (h : ∀ K : Act → World → Prop, (∀ a w, wpAny P md l.toArray Q fuel (listed.setIfInBounds i true) a w → K a w) → wpList P l.toArray (Exit.then K Q) [o] a w)
    (h' : ∀ K : Act → World → Prop, (∀ a w, wpAny P md l.toArray Q fuel (listed.setIfInBounds j true) a w → K a w) → wpList P l.toArray (Exit.then K Q) [o'] a w)
    (h2 : ∀ K : Act → World → Prop, (∀ a w, wpAny P md l.toArray Q fuel (listed.setIfInBounds k true) a w → K a w) → wpList P l.toArray (Exit.then K Q) [o2] a w) :
    wpAny P md l.toArray Q (fuel + 1) listed a w := by
  refine ⟨fun h0 => (by rw [hr] at h0; cases h0), fun m hm => ?_⟩
  rw [hr] at hm
  rcases (by simpa using hm : m = i ∨ m = j ∨ m = k) with rfl | rfl | rfl
  · exact wpOp_list hi (h _ fun _ _ h => h)
  · exact wpOp_list hj (h' _ fun _ _ h => h)
  · exact wpOp_list hk (h2 _ fun _ _ h => h)
abbrev oop0 : Oper := { dst := some 24, op := .load 95 (.tmp 5), type := 95, pos := "chore.go:23", after := #[], guard := none }
abbrev oop1 : Oper := { dst := some 25, op := .load 95 (.tmp 5), type := 95, pos := "chore.go:23", after := #[], guard := none }
abbrev oop2 : Oper := { dst := some 26, op := .nilCheck (.tmp 25), type := 0, pos := "chore.go:23", after := #[{ on := 1, ground := .data }], guard := none }
abbrev oop3 : Oper := { dst := some 27, op := .fieldAddr 98 (.tmp 26) 1, type := 0, pos := "chore.go:23", after := #[{ on := 2, ground := .data }], guard := none }
abbrev oop4 : Oper := { dst := some 28, op := .load 22 (.tmp 27), type := 22, pos := "chore.go:23", after := #[{ on := 3, ground := .data }], guard := none }
abbrev oop5 : Oper := { dst := some 29, op := .load 52 (.tmp 6), type := 52, pos := "chore.go:23", after := #[], guard := none }
abbrev oop6 : Oper := { dst := some 30, op := .buildSlice 22 1 #[(0, .tmp 29)], type := 22, pos := "chore.go:23", after := #[{ on := 5, ground := .data }], guard := none }
abbrev oop7 : Oper := { dst := some 31, op := .call { callee := .builtin .append, args := #[.tmp 28, .tmp 30], argTypes := #[22, 22] }, type := 22, pos := "chore.go:23", after := #[{ on := 4, ground := .data }, { on := 6, ground := .data }], guard := none }
abbrev oop8 : Oper := { dst := some 32, op := .nilCheck (.tmp 24), type := 0, pos := "chore.go:23", after := #[{ on := 0, ground := .data }, { on := 0, ground := .phase }, { on := 1, ground := .phase }, { on := 2, ground := .phase }, { on := 3, ground := .phase }, { on := 4, ground := .phase }, { on := 5, ground := .phase }, { on := 6, ground := .phase }, { on := 7, ground := .phase }], guard := none }
abbrev oop9 : Oper := { dst := some 33, op := .fieldAddr 98 (.tmp 32) 1, type := 0, pos := "chore.go:23", after := #[{ on := 8, ground := .data }, { on := 0, ground := .phase }, { on := 1, ground := .phase }, { on := 2, ground := .phase }, { on := 3, ground := .phase }, { on := 4, ground := .phase }, { on := 5, ground := .phase }, { on := 6, ground := .phase }, { on := 7, ground := .phase }], guard := none }
abbrev oop10 : Oper := { dst := none, op := .store 22 (.tmp 33) (.tmp 31), type := 0, pos := "chore.go:23", after := #[{ on := 9, ground := .data }, { on := 7, ground := .data }, { on := 7, ground := .chain }, { on := 0, ground := .phase }, { on := 1, ground := .phase }, { on := 2, ground := .phase }, { on := 3, ground := .phase }, { on := 4, ground := .phase }, { on := 5, ground := .phase }, { on := 6, ground := .phase }, { on := 7, ground := .phase }], guard := none }
abbrev oops : List Oper := [oop0, oop1, oop2, oop3, oop4, oop5, oop6, oop7, oop8, oop9, oop10]
/-- What append leaves. -/
def OwnApp (W : World) (G : Nat) (Av : Option Addr) (Nz cv : Nat) (xs : List Value) (r : Int) (a5 : Option Addr) (L c5 : Nat) (cl : Bool) (A8 : Option Addr) (N8 c8 : Nat) (W8 : World) : Prop :=
  Hid (N8 = Nz + 1) ∧ W8.ownsRow G 52 3 (.slice A8 N8 c8) N8 (xs ++ [.int .i64 r, .slice a5 L c5, .bool cl]) ∧ (W.drew.alloc (.cells #[.int .i64 r, .slice a5 L c5, .bool cl] 52)).grownBy W8 (Value.slice Av Nz cv).ownBlock ∧
    W8.cell? ⟨G + 1 + 1, 0, none⟩ = some (.pointer (some ⟨G + 1, 0, none⟩)) ∧ W8.cell? ⟨G + 1, 4, none⟩ = some (.slice Av Nz cv) ∧ W8.frozen? ⟨G + 1, 4, none⟩ = false
set_option maxRecDepth 100000 in
set_option maxHeartbeats 4000000 in
theorem own_reg {Q : Exit → Act → World → Prop} (x0 x1 x2 x3 x4 x7 x8 x9 x10 x11 x12 x13 x14 x15 x16 x17 x18 x19 x20 x21 x22 x23 : Value) (G g : Nat) (W : World) (Av : Option Addr) (Nz cv : Nat) (r : Int) (a5 : Option Addr) (L c5 : Nat) (cl : Bool)
    (p5 : W.cell? ⟨G + 1 + 1, 0, none⟩ = some (.pointer (some ⟨G + 1, 0, none⟩))) (q4 : W.cell? ⟨G + 1, 4, none⟩ = some (.slice Av Nz cv)) (b0 : W.cell? ⟨g, 0, none⟩ = some (.int .i64 r)) (b1 : W.cell? ⟨g, 1, none⟩ = some (.slice a5 L c5)) (b2 : W.cell? ⟨g, 2, none⟩ = some (.bool cl))
    (F : Option Addr → Nat → Nat → World → Prop) (hF : ∀ A8 N8 c8 W8, F A8 N8 c8 W8 → W8.cell? ⟨G + 1 + 1, 0, none⟩ = some (.pointer (some ⟨G + 1, 0, none⟩)) ∧ W8.cell? ⟨G + 1, 4, none⟩ = some (.slice Av Nz cv) ∧ W8.frozen? ⟨G + 1, 4, none⟩ = false)
    (happ : ∀ (a : Act) (Q' : Exit → Act → World → Prop), a.eval (.tmp 28) = .slice Av Nz cv → a.eval (.tmp 30) = .slice (some ⟨W.heap.size, 0, none⟩) 1 1 → (∀ A8 N8 c8 W8, F A8 N8 c8 W8 → wpList Try.prog oops.toArray Q' [] (a.put (some 31) (.slice A8 N8 c8)) W8) → wpList Try.prog oops.toArray Q' [oop7] a (W.drew.alloc (.cells #[.int .i64 r, .slice a5 L c5, .bool cl] 52)))
    (hfin : ∀ A8 N8 c8 W8, F A8 N8 c8 W8 → Q .normal { tmps := #[x0, x1, x2, x3, x4, .pointer (some ⟨G + 1 + 1, 0, none⟩), .pointer (some ⟨g, 0, none⟩), x7, x8, x9, x10, x11, x12, x13, x14, x15, x16, x17, x18, x19, x20, x21, x22, x23, .pointer (some ⟨G + 1, 0, none⟩), .pointer (some ⟨G + 1, 0, none⟩), .pointer (some ⟨G + 1, 0, none⟩), .pointer (some ⟨G + 1, 4, none⟩), .slice Av Nz cv, .agg #[.int .i64 r, .slice a5 L c5, .bool cl], .slice (some ⟨W.heap.size, 0, none⟩) 1 1, .slice A8 N8 c8, .pointer (some ⟨G + 1, 0, none⟩), .pointer (some ⟨G + 1, 4, none⟩), undef], defers := [] } (W8.setCell ⟨G + 1, 4, none⟩ (.slice A8 N8 c8))) :
    wpAny Try.prog .any oops.toArray Q 11 #[false, false, false, false, false, false, false, false, false, false, false] { tmps := #[x0, x1, x2, x3, x4, .pointer (some ⟨G + 1 + 1, 0, none⟩), .pointer (some ⟨g, 0, none⟩), x7, x8, x9, x10, x11, x12, x13, x14, x15, x16, x17, x18, x19, x20, x21, x22, x23, undef, undef, undef, undef, undef, undef, undef, undef, undef, undef, undef], defers := [] } W.drew := by
  have p5a : (W.alloc (.cells #[.int .i64 r, .slice a5 L c5, .bool cl] 52)).cell? ⟨G + 1 + 1, 0, none⟩ = some (.pointer (some ⟨G + 1, 0, none⟩)) := ((Frm.refl (fun _ => False) W).alloc _).cell p5 id
  have q4a : (W.alloc (.cells #[.int .i64 r, .slice a5 L c5, .bool cl] 52)).cell? ⟨G + 1, 4, none⟩ = some (.slice Av Nz cv) := ((Frm.refl (fun _ => False) W).alloc _).cell q4 id
  have hT1 : ∀ A8 N8 c8 W8, F A8 N8 c8 W8 → wpAny Try.prog .any oops.toArray Q 3 #[true, true, true, true, true, true, true, true, false, false, false] { tmps := #[x0, x1, x2, x3, x4, .pointer (some ⟨G + 1 + 1, 0, none⟩), .pointer (some ⟨g, 0, none⟩), x7, x8, x9, x10, x11, x12, x13, x14, x15, x16, x17, x18, x19, x20, x21, x22, x23, .pointer (some ⟨G + 1, 0, none⟩), .pointer (some ⟨G + 1, 0, none⟩), .pointer (some ⟨G + 1, 0, none⟩), .pointer (some ⟨G + 1, 4, none⟩), .slice Av Nz cv, .agg #[.int .i64 r, .slice a5 L c5, .bool cl], .slice (some ⟨W.heap.size, 0, none⟩) 1 1, .slice A8 N8 c8, undef, undef, undef], defers := [] } W8 := by
    intro A8 N8 c8 W8 hf
    obtain ⟨e5, e4, ef⟩ := hF _ _ _ _ hf
    have Hf := Lib.hid (hfin _ _ _ _ hf)
    clear hf hfin happ p5a q4a p5 q4 b0 b1 b2
    refine plan_one 8 (by kernel_rfl) rfl ?_
    intro K hK
    go_wp2_with fail
    refine plan_one 9 (by kernel_rfl) rfl ?_
    intro K hK
    go_wp2_with fail
    refine plan_one 10 (by kernel_rfl) rfl ?_
    intro K hK
    go_wp2_with fail
    refine plan_done (by kernel_rfl) ?_
    exact Hf.out
  have hT0 : ∀ A8 N8 c8 W8, F A8 N8 c8 W8 → wpAny Try.prog .any oops.toArray Q 4 #[false, true, true, true, true, true, true, true, false, false, false] { tmps := #[x0, x1, x2, x3, x4, .pointer (some ⟨G + 1 + 1, 0, none⟩), .pointer (some ⟨g, 0, none⟩), x7, x8, x9, x10, x11, x12, x13, x14, x15, x16, x17, x18, x19, x20, x21, x22, x23, undef, .pointer (some ⟨G + 1, 0, none⟩), .pointer (some ⟨G + 1, 0, none⟩), .pointer (some ⟨G + 1, 4, none⟩), .slice Av Nz cv, .agg #[.int .i64 r, .slice a5 L c5, .bool cl], .slice (some ⟨W.heap.size, 0, none⟩) 1 1, .slice A8 N8 c8, undef, undef, undef], defers := [] } W8 := by
    intro A8 N8 c8 W8 hf
    obtain ⟨e5, e4, ef⟩ := hF _ _ _ _ hf
    have Hf := Lib.hid (hT1 _ _ _ _ hf)
    clear hf hfin happ p5a q4a p5 q4 b0 b1 b2 hT1
    refine plan_one 0 (by kernel_rfl) rfl ?_
    intro K hK
    go_wp2_with fail
    exact Hf.out
  have h142 : Hid (wpAny Try.prog .any oops.toArray Q 4 #[true, true, true, true, true, true, true, false, false, false, false] { tmps := #[x0, x1, x2, x3, x4, .pointer (some ⟨G + 1 + 1, 0, none⟩), .pointer (some ⟨g, 0, none⟩), x7, x8, x9, x10, x11, x12, x13, x14, x15, x16, x17, x18, x19, x20, x21, x22, x23, .pointer (some ⟨G + 1, 0, none⟩), .pointer (some ⟨G + 1, 0, none⟩), .pointer (some ⟨G + 1, 0, none⟩), .pointer (some ⟨G + 1, 4, none⟩), .slice Av Nz cv, .agg #[.int .i64 r, .slice a5 L c5, .bool cl], .slice (some ⟨W.heap.size, 0, none⟩) 1 1, undef, undef, undef, undef], defers := [] } (W.drew.alloc (.cells #[.int .i64 r, .slice a5 L c5, .bool cl] 52))) := by
    refine Lib.hid ?_
    refine plan_one 7 (by kernel_rfl) rfl ?_
    · intro K hK
      refine happ _ _ rfl rfl fun A8 N8 c8 W8 hf => ?_
      go_wp2_with fail
      exact hT1 _ _ _ _ hf
  have h141 : Hid (wpAny Try.prog .any oops.toArray Q 5 #[true, true, true, true, true, true, false, false, false, false, false] { tmps := #[x0, x1, x2, x3, x4, .pointer (some ⟨G + 1 + 1, 0, none⟩), .pointer (some ⟨g, 0, none⟩), x7, x8, x9, x10, x11, x12, x13, x14, x15, x16, x17, x18, x19, x20, x21, x22, x23, .pointer (some ⟨G + 1, 0, none⟩), .pointer (some ⟨G + 1, 0, none⟩), .pointer (some ⟨G + 1, 0, none⟩), .pointer (some ⟨G + 1, 4, none⟩), .slice Av Nz cv, .agg #[.int .i64 r, .slice a5 L c5, .bool cl], undef, undef, undef, undef, undef], defers := [] } W.drew) := by
    refine Lib.hid ?_
    refine plan_one 6 (by kernel_rfl) rfl ?_
    · intro K hK
      go_wp2_with fail
      exact h142.out
  have h132 : Hid (wpAny Try.prog .any oops.toArray Q 5 #[true, true, true, true, false, true, true, false, false, false, false] { tmps := #[x0, x1, x2, x3, x4, .pointer (some ⟨G + 1 + 1, 0, none⟩), .pointer (some ⟨g, 0, none⟩), x7, x8, x9, x10, x11, x12, x13, x14, x15, x16, x17, x18, x19, x20, x21, x22, x23, .pointer (some ⟨G + 1, 0, none⟩), .pointer (some ⟨G + 1, 0, none⟩), .pointer (some ⟨G + 1, 0, none⟩), .pointer (some ⟨G + 1, 4, none⟩), undef, .agg #[.int .i64 r, .slice a5 L c5, .bool cl], .slice (some ⟨W.heap.size, 0, none⟩) 1 1, undef, undef, undef, undef], defers := [] } (W.drew.alloc (.cells #[.int .i64 r, .slice a5 L c5, .bool cl] 52))) := by
    refine Lib.hid ?_
    refine plan_one 4 (by kernel_rfl) rfl ?_
    · intro K hK
      go_wp2_with fail
      exact h142.out
  have h042 : Hid (wpAny Try.prog .any oops.toArray Q 5 #[false, true, true, true, true, true, true, false, false, false, false] { tmps := #[x0, x1, x2, x3, x4, .pointer (some ⟨G + 1 + 1, 0, none⟩), .pointer (some ⟨g, 0, none⟩), x7, x8, x9, x10, x11, x12, x13, x14, x15, x16, x17, x18, x19, x20, x21, x22, x23, undef, .pointer (some ⟨G + 1, 0, none⟩), .pointer (some ⟨G + 1, 0, none⟩), .pointer (some ⟨G + 1, 4, none⟩), .slice Av Nz cv, .agg #[.int .i64 r, .slice a5 L c5, .bool cl], .slice (some ⟨W.heap.size, 0, none⟩) 1 1, undef, undef, undef, undef], defers := [] } (W.drew.alloc (.cells #[.int .i64 r, .slice a5 L c5, .bool cl] 52))) := by
    refine Lib.hid ?_
    refine plan_two 0 7 (by kernel_rfl) rfl rfl ?_ ?_
    · intro K hK
      go_wp2_with fail
      exact h142.out
    · intro K hK
      refine happ _ _ rfl rfl fun A8 N8 c8 W8 hf => ?_
      go_wp2_with fail
      exact hT0 _ _ _ _ hf
  have h140 : Hid (wpAny Try.prog .any oops.toArray Q 6 #[true, true, true, true, true, false, false, false, false, false, false] { tmps := #[x0, x1, x2, x3, x4, .pointer (some ⟨G + 1 + 1, 0, none⟩), .pointer (some ⟨g, 0, none⟩), x7, x8, x9, x10, x11, x12, x13, x14, x15, x16, x17, x18, x19, x20, x21, x22, x23, .pointer (some ⟨G + 1, 0, none⟩), .pointer (some ⟨G + 1, 0, none⟩), .pointer (some ⟨G + 1, 0, none⟩), .pointer (some ⟨G + 1, 4, none⟩), .slice Av Nz cv, undef, undef, undef, undef, undef, undef], defers := [] } W.drew) := by
    refine Lib.hid ?_
    refine plan_one 5 (by kernel_rfl) rfl ?_
    · intro K hK
      go_wp2_with fail
      exact h141.out
  have h131 : Hid (wpAny Try.prog .any oops.toArray Q 6 #[true, true, true, true, false, true, false, false, false, false, false] { tmps := #[x0, x1, x2, x3, x4, .pointer (some ⟨G + 1 + 1, 0, none⟩), .pointer (some ⟨g, 0, none⟩), x7, x8, x9, x10, x11, x12, x13, x14, x15, x16, x17, x18, x19, x20, x21, x22, x23, .pointer (some ⟨G + 1, 0, none⟩), .pointer (some ⟨G + 1, 0, none⟩), .pointer (some ⟨G + 1, 0, none⟩), .pointer (some ⟨G + 1, 4, none⟩), undef, .agg #[.int .i64 r, .slice a5 L c5, .bool cl], undef, undef, undef, undef, undef], defers := [] } W.drew) := by
    refine Lib.hid ?_
    refine plan_two 4 6 (by kernel_rfl) rfl rfl ?_ ?_
    · intro K hK
      go_wp2_with fail
      exact h141.out
    · intro K hK
      go_wp2_with fail
      exact h132.out
  have h122 : Hid (wpAny Try.prog .any oops.toArray Q 6 #[true, true, true, false, false, true, true, false, false, false, false] { tmps := #[x0, x1, x2, x3, x4, .pointer (some ⟨G + 1 + 1, 0, none⟩), .pointer (some ⟨g, 0, none⟩), x7, x8, x9, x10, x11, x12, x13, x14, x15, x16, x17, x18, x19, x20, x21, x22, x23, .pointer (some ⟨G + 1, 0, none⟩), .pointer (some ⟨G + 1, 0, none⟩), .pointer (some ⟨G + 1, 0, none⟩), undef, undef, .agg #[.int .i64 r, .slice a5 L c5, .bool cl], .slice (some ⟨W.heap.size, 0, none⟩) 1 1, undef, undef, undef, undef], defers := [] } (W.drew.alloc (.cells #[.int .i64 r, .slice a5 L c5, .bool cl] 52))) := by
    refine Lib.hid ?_
    refine plan_one 3 (by kernel_rfl) rfl ?_
    · intro K hK
      go_wp2_with fail
      exact h132.out
  have h041 : Hid (wpAny Try.prog .any oops.toArray Q 6 #[false, true, true, true, true, true, false, false, false, false, false] { tmps := #[x0, x1, x2, x3, x4, .pointer (some ⟨G + 1 + 1, 0, none⟩), .pointer (some ⟨g, 0, none⟩), x7, x8, x9, x10, x11, x12, x13, x14, x15, x16, x17, x18, x19, x20, x21, x22, x23, undef, .pointer (some ⟨G + 1, 0, none⟩), .pointer (some ⟨G + 1, 0, none⟩), .pointer (some ⟨G + 1, 4, none⟩), .slice Av Nz cv, .agg #[.int .i64 r, .slice a5 L c5, .bool cl], undef, undef, undef, undef, undef], defers := [] } W.drew) := by
    refine Lib.hid ?_
    refine plan_two 0 6 (by kernel_rfl) rfl rfl ?_ ?_
    · intro K hK
      go_wp2_with fail
      exact h141.out
    · intro K hK
      go_wp2_with fail
      exact h042.out
  have h032 : Hid (wpAny Try.prog .any oops.toArray Q 6 #[false, true, true, true, false, true, true, false, false, false, false] { tmps := #[x0, x1, x2, x3, x4, .pointer (some ⟨G + 1 + 1, 0, none⟩), .pointer (some ⟨g, 0, none⟩), x7, x8, x9, x10, x11, x12, x13, x14, x15, x16, x17, x18, x19, x20, x21, x22, x23, undef, .pointer (some ⟨G + 1, 0, none⟩), .pointer (some ⟨G + 1, 0, none⟩), .pointer (some ⟨G + 1, 4, none⟩), undef, .agg #[.int .i64 r, .slice a5 L c5, .bool cl], .slice (some ⟨W.heap.size, 0, none⟩) 1 1, undef, undef, undef, undef], defers := [] } (W.drew.alloc (.cells #[.int .i64 r, .slice a5 L c5, .bool cl] 52))) := by
    refine Lib.hid ?_
    refine plan_two 0 4 (by kernel_rfl) rfl rfl ?_ ?_
    · intro K hK
      go_wp2_with fail
      exact h132.out
    · intro K hK
      go_wp2_with fail
      exact h042.out
  have h130 : Hid (wpAny Try.prog .any oops.toArray Q 7 #[true, true, true, true, false, false, false, false, false, false, false] { tmps := #[x0, x1, x2, x3, x4, .pointer (some ⟨G + 1 + 1, 0, none⟩), .pointer (some ⟨g, 0, none⟩), x7, x8, x9, x10, x11, x12, x13, x14, x15, x16, x17, x18, x19, x20, x21, x22, x23, .pointer (some ⟨G + 1, 0, none⟩), .pointer (some ⟨G + 1, 0, none⟩), .pointer (some ⟨G + 1, 0, none⟩), .pointer (some ⟨G + 1, 4, none⟩), undef, undef, undef, undef, undef, undef, undef], defers := [] } W.drew) := by
    refine Lib.hid ?_
    refine plan_two 4 5 (by kernel_rfl) rfl rfl ?_ ?_
    · intro K hK
      go_wp2_with fail
      exact h140.out
    · intro K hK
      go_wp2_with fail
      exact h131.out
  have h121 : Hid (wpAny Try.prog .any oops.toArray Q 7 #[true, true, true, false, false, true, false, false, false, false, false] { tmps := #[x0, x1, x2, x3, x4, .pointer (some ⟨G + 1 + 1, 0, none⟩), .pointer (some ⟨g, 0, none⟩), x7, x8, x9, x10, x11, x12, x13, x14, x15, x16, x17, x18, x19, x20, x21, x22, x23, .pointer (some ⟨G + 1, 0, none⟩), .pointer (some ⟨G + 1, 0, none⟩), .pointer (some ⟨G + 1, 0, none⟩), undef, undef, .agg #[.int .i64 r, .slice a5 L c5, .bool cl], undef, undef, undef, undef, undef], defers := [] } W.drew) := by
    refine Lib.hid ?_
    refine plan_two 3 6 (by kernel_rfl) rfl rfl ?_ ?_
    · intro K hK
      go_wp2_with fail
      exact h131.out
    · intro K hK
      go_wp2_with fail
      exact h122.out
  have h112 : Hid (wpAny Try.prog .any oops.toArray Q 7 #[true, true, false, false, false, true, true, false, false, false, false] { tmps := #[x0, x1, x2, x3, x4, .pointer (some ⟨G + 1 + 1, 0, none⟩), .pointer (some ⟨g, 0, none⟩), x7, x8, x9, x10, x11, x12, x13, x14, x15, x16, x17, x18, x19, x20, x21, x22, x23, .pointer (some ⟨G + 1, 0, none⟩), .pointer (some ⟨G + 1, 0, none⟩), undef, undef, undef, .agg #[.int .i64 r, .slice a5 L c5, .bool cl], .slice (some ⟨W.heap.size, 0, none⟩) 1 1, undef, undef, undef, undef], defers := [] } (W.drew.alloc (.cells #[.int .i64 r, .slice a5 L c5, .bool cl] 52))) := by
    refine Lib.hid ?_
    refine plan_one 2 (by kernel_rfl) rfl ?_
    · intro K hK
      go_wp2_with fail
      exact h122.out
  have h040 : Hid (wpAny Try.prog .any oops.toArray Q 7 #[false, true, true, true, true, false, false, false, false, false, false] { tmps := #[x0, x1, x2, x3, x4, .pointer (some ⟨G + 1 + 1, 0, none⟩), .pointer (some ⟨g, 0, none⟩), x7, x8, x9, x10, x11, x12, x13, x14, x15, x16, x17, x18, x19, x20, x21, x22, x23, undef, .pointer (some ⟨G + 1, 0, none⟩), .pointer (some ⟨G + 1, 0, none⟩), .pointer (some ⟨G + 1, 4, none⟩), .slice Av Nz cv, undef, undef, undef, undef, undef, undef], defers := [] } W.drew) := by
    refine Lib.hid ?_
    refine plan_two 0 5 (by kernel_rfl) rfl rfl ?_ ?_
    · intro K hK
      go_wp2_with fail
      exact h140.out
    · intro K hK
      go_wp2_with fail
      exact h041.out
  have h031 : Hid (wpAny Try.prog .any oops.toArray Q 7 #[false, true, true, true, false, true, false, false, false, false, false] { tmps := #[x0, x1, x2, x3, x4, .pointer (some ⟨G + 1 + 1, 0, none⟩), .pointer (some ⟨g, 0, none⟩), x7, x8, x9, x10, x11, x12, x13, x14, x15, x16, x17, x18, x19, x20, x21, x22, x23, undef, .pointer (some ⟨G + 1, 0, none⟩), .pointer (some ⟨G + 1, 0, none⟩), .pointer (some ⟨G + 1, 4, none⟩), undef, .agg #[.int .i64 r, .slice a5 L c5, .bool cl], undef, undef, undef, undef, undef], defers := [] } W.drew) := by
    refine Lib.hid ?_
    refine plan_three 0 4 6 (by kernel_rfl) rfl rfl rfl ?_ ?_ ?_
    · intro K hK
      go_wp2_with fail
      exact h131.out
    · intro K hK
      go_wp2_with fail
      exact h041.out
    · intro K hK
      go_wp2_with fail
      exact h032.out
  have h022 : Hid (wpAny Try.prog .any oops.toArray Q 7 #[false, true, true, false, false, true, true, false, false, false, false] { tmps := #[x0, x1, x2, x3, x4, .pointer (some ⟨G + 1 + 1, 0, none⟩), .pointer (some ⟨g, 0, none⟩), x7, x8, x9, x10, x11, x12, x13, x14, x15, x16, x17, x18, x19, x20, x21, x22, x23, undef, .pointer (some ⟨G + 1, 0, none⟩), .pointer (some ⟨G + 1, 0, none⟩), undef, undef, .agg #[.int .i64 r, .slice a5 L c5, .bool cl], .slice (some ⟨W.heap.size, 0, none⟩) 1 1, undef, undef, undef, undef], defers := [] } (W.drew.alloc (.cells #[.int .i64 r, .slice a5 L c5, .bool cl] 52))) := by
    refine Lib.hid ?_
    refine plan_two 0 3 (by kernel_rfl) rfl rfl ?_ ?_
    · intro K hK
      go_wp2_with fail
      exact h122.out
    · intro K hK
      go_wp2_with fail
      exact h032.out
  have h120 : Hid (wpAny Try.prog .any oops.toArray Q 8 #[true, true, true, false, false, false, false, false, false, false, false] { tmps := #[x0, x1, x2, x3, x4, .pointer (some ⟨G + 1 + 1, 0, none⟩), .pointer (some ⟨g, 0, none⟩), x7, x8, x9, x10, x11, x12, x13, x14, x15, x16, x17, x18, x19, x20, x21, x22, x23, .pointer (some ⟨G + 1, 0, none⟩), .pointer (some ⟨G + 1, 0, none⟩), .pointer (some ⟨G + 1, 0, none⟩), undef, undef, undef, undef, undef, undef, undef, undef], defers := [] } W.drew) := by
    refine Lib.hid ?_
    refine plan_two 3 5 (by kernel_rfl) rfl rfl ?_ ?_
    · intro K hK
      go_wp2_with fail
      exact h130.out
    · intro K hK
      go_wp2_with fail
      exact h121.out
  have h111 : Hid (wpAny Try.prog .any oops.toArray Q 8 #[true, true, false, false, false, true, false, false, false, false, false] { tmps := #[x0, x1, x2, x3, x4, .pointer (some ⟨G + 1 + 1, 0, none⟩), .pointer (some ⟨g, 0, none⟩), x7, x8, x9, x10, x11, x12, x13, x14, x15, x16, x17, x18, x19, x20, x21, x22, x23, .pointer (some ⟨G + 1, 0, none⟩), .pointer (some ⟨G + 1, 0, none⟩), undef, undef, undef, .agg #[.int .i64 r, .slice a5 L c5, .bool cl], undef, undef, undef, undef, undef], defers := [] } W.drew) := by
    refine Lib.hid ?_
    refine plan_two 2 6 (by kernel_rfl) rfl rfl ?_ ?_
    · intro K hK
      go_wp2_with fail
      exact h121.out
    · intro K hK
      go_wp2_with fail
      exact h112.out
  have h102 : Hid (wpAny Try.prog .any oops.toArray Q 8 #[true, false, false, false, false, true, true, false, false, false, false] { tmps := #[x0, x1, x2, x3, x4, .pointer (some ⟨G + 1 + 1, 0, none⟩), .pointer (some ⟨g, 0, none⟩), x7, x8, x9, x10, x11, x12, x13, x14, x15, x16, x17, x18, x19, x20, x21, x22, x23, .pointer (some ⟨G + 1, 0, none⟩), undef, undef, undef, undef, .agg #[.int .i64 r, .slice a5 L c5, .bool cl], .slice (some ⟨W.heap.size, 0, none⟩) 1 1, undef, undef, undef, undef], defers := [] } (W.drew.alloc (.cells #[.int .i64 r, .slice a5 L c5, .bool cl] 52))) := by
    refine Lib.hid ?_
    refine plan_one 1 (by kernel_rfl) rfl ?_
    · intro K hK
      go_wp2_with fail
      exact h112.out
  have h030 : Hid (wpAny Try.prog .any oops.toArray Q 8 #[false, true, true, true, false, false, false, false, false, false, false] { tmps := #[x0, x1, x2, x3, x4, .pointer (some ⟨G + 1 + 1, 0, none⟩), .pointer (some ⟨g, 0, none⟩), x7, x8, x9, x10, x11, x12, x13, x14, x15, x16, x17, x18, x19, x20, x21, x22, x23, undef, .pointer (some ⟨G + 1, 0, none⟩), .pointer (some ⟨G + 1, 0, none⟩), .pointer (some ⟨G + 1, 4, none⟩), undef, undef, undef, undef, undef, undef, undef], defers := [] } W.drew) := by
    refine Lib.hid ?_
    refine plan_three 0 4 5 (by kernel_rfl) rfl rfl rfl ?_ ?_ ?_
    · intro K hK
      go_wp2_with fail
      exact h130.out
    · intro K hK
      go_wp2_with fail
      exact h040.out
    · intro K hK
      go_wp2_with fail
      exact h031.out
  have h021 : Hid (wpAny Try.prog .any oops.toArray Q 8 #[false, true, true, false, false, true, false, false, false, false, false] { tmps := #[x0, x1, x2, x3, x4, .pointer (some ⟨G + 1 + 1, 0, none⟩), .pointer (some ⟨g, 0, none⟩), x7, x8, x9, x10, x11, x12, x13, x14, x15, x16, x17, x18, x19, x20, x21, x22, x23, undef, .pointer (some ⟨G + 1, 0, none⟩), .pointer (some ⟨G + 1, 0, none⟩), undef, undef, .agg #[.int .i64 r, .slice a5 L c5, .bool cl], undef, undef, undef, undef, undef], defers := [] } W.drew) := by
    refine Lib.hid ?_
    refine plan_three 0 3 6 (by kernel_rfl) rfl rfl rfl ?_ ?_ ?_
    · intro K hK
      go_wp2_with fail
      exact h121.out
    · intro K hK
      go_wp2_with fail
      exact h031.out
    · intro K hK
      go_wp2_with fail
      exact h022.out
  have h012 : Hid (wpAny Try.prog .any oops.toArray Q 8 #[false, true, false, false, false, true, true, false, false, false, false] { tmps := #[x0, x1, x2, x3, x4, .pointer (some ⟨G + 1 + 1, 0, none⟩), .pointer (some ⟨g, 0, none⟩), x7, x8, x9, x10, x11, x12, x13, x14, x15, x16, x17, x18, x19, x20, x21, x22, x23, undef, .pointer (some ⟨G + 1, 0, none⟩), undef, undef, undef, .agg #[.int .i64 r, .slice a5 L c5, .bool cl], .slice (some ⟨W.heap.size, 0, none⟩) 1 1, undef, undef, undef, undef], defers := [] } (W.drew.alloc (.cells #[.int .i64 r, .slice a5 L c5, .bool cl] 52))) := by
    refine Lib.hid ?_
    refine plan_two 0 2 (by kernel_rfl) rfl rfl ?_ ?_
    · intro K hK
      go_wp2_with fail
      exact h112.out
    · intro K hK
      go_wp2_with fail
      exact h022.out
  have h110 : Hid (wpAny Try.prog .any oops.toArray Q 9 #[true, true, false, false, false, false, false, false, false, false, false] { tmps := #[x0, x1, x2, x3, x4, .pointer (some ⟨G + 1 + 1, 0, none⟩), .pointer (some ⟨g, 0, none⟩), x7, x8, x9, x10, x11, x12, x13, x14, x15, x16, x17, x18, x19, x20, x21, x22, x23, .pointer (some ⟨G + 1, 0, none⟩), .pointer (some ⟨G + 1, 0, none⟩), undef, undef, undef, undef, undef, undef, undef, undef, undef], defers := [] } W.drew) := by
    refine Lib.hid ?_
    refine plan_two 2 5 (by kernel_rfl) rfl rfl ?_ ?_
    · intro K hK
      go_wp2_with fail
      exact h120.out
    · intro K hK
      go_wp2_with fail
      exact h111.out
  have h101 : Hid (wpAny Try.prog .any oops.toArray Q 9 #[true, false, false, false, false, true, false, false, false, false, false] { tmps := #[x0, x1, x2, x3, x4, .pointer (some ⟨G + 1 + 1, 0, none⟩), .pointer (some ⟨g, 0, none⟩), x7, x8, x9, x10, x11, x12, x13, x14, x15, x16, x17, x18, x19, x20, x21, x22, x23, .pointer (some ⟨G + 1, 0, none⟩), undef, undef, undef, undef, .agg #[.int .i64 r, .slice a5 L c5, .bool cl], undef, undef, undef, undef, undef], defers := [] } W.drew) := by
    refine Lib.hid ?_
    refine plan_two 1 6 (by kernel_rfl) rfl rfl ?_ ?_
    · intro K hK
      go_wp2_with fail
      exact h111.out
    · intro K hK
      go_wp2_with fail
      exact h102.out
  have h020 : Hid (wpAny Try.prog .any oops.toArray Q 9 #[false, true, true, false, false, false, false, false, false, false, false] { tmps := #[x0, x1, x2, x3, x4, .pointer (some ⟨G + 1 + 1, 0, none⟩), .pointer (some ⟨g, 0, none⟩), x7, x8, x9, x10, x11, x12, x13, x14, x15, x16, x17, x18, x19, x20, x21, x22, x23, undef, .pointer (some ⟨G + 1, 0, none⟩), .pointer (some ⟨G + 1, 0, none⟩), undef, undef, undef, undef, undef, undef, undef, undef], defers := [] } W.drew) := by
    refine Lib.hid ?_
    refine plan_three 0 3 5 (by kernel_rfl) rfl rfl rfl ?_ ?_ ?_
    · intro K hK
      go_wp2_with fail
      exact h120.out
    · intro K hK
      go_wp2_with fail
      exact h030.out
    · intro K hK
      go_wp2_with fail
      exact h021.out
  have h011 : Hid (wpAny Try.prog .any oops.toArray Q 9 #[false, true, false, false, false, true, false, false, false, false, false] { tmps := #[x0, x1, x2, x3, x4, .pointer (some ⟨G + 1 + 1, 0, none⟩), .pointer (some ⟨g, 0, none⟩), x7, x8, x9, x10, x11, x12, x13, x14, x15, x16, x17, x18, x19, x20, x21, x22, x23, undef, .pointer (some ⟨G + 1, 0, none⟩), undef, undef, undef, .agg #[.int .i64 r, .slice a5 L c5, .bool cl], undef, undef, undef, undef, undef], defers := [] } W.drew) := by
    refine Lib.hid ?_
    refine plan_three 0 2 6 (by kernel_rfl) rfl rfl rfl ?_ ?_ ?_
    · intro K hK
      go_wp2_with fail
      exact h111.out
    · intro K hK
      go_wp2_with fail
      exact h021.out
    · intro K hK
      go_wp2_with fail
      exact h012.out
  have h002 : Hid (wpAny Try.prog .any oops.toArray Q 9 #[false, false, false, false, false, true, true, false, false, false, false] { tmps := #[x0, x1, x2, x3, x4, .pointer (some ⟨G + 1 + 1, 0, none⟩), .pointer (some ⟨g, 0, none⟩), x7, x8, x9, x10, x11, x12, x13, x14, x15, x16, x17, x18, x19, x20, x21, x22, x23, undef, undef, undef, undef, undef, .agg #[.int .i64 r, .slice a5 L c5, .bool cl], .slice (some ⟨W.heap.size, 0, none⟩) 1 1, undef, undef, undef, undef], defers := [] } (W.drew.alloc (.cells #[.int .i64 r, .slice a5 L c5, .bool cl] 52))) := by
    refine Lib.hid ?_
    refine plan_two 0 1 (by kernel_rfl) rfl rfl ?_ ?_
    · intro K hK
      go_wp2_with fail
      exact h102.out
    · intro K hK
      go_wp2_with fail
      exact h012.out
  have h100 : Hid (wpAny Try.prog .any oops.toArray Q 10 #[true, false, false, false, false, false, false, false, false, false, false] { tmps := #[x0, x1, x2, x3, x4, .pointer (some ⟨G + 1 + 1, 0, none⟩), .pointer (some ⟨g, 0, none⟩), x7, x8, x9, x10, x11, x12, x13, x14, x15, x16, x17, x18, x19, x20, x21, x22, x23, .pointer (some ⟨G + 1, 0, none⟩), undef, undef, undef, undef, undef, undef, undef, undef, undef, undef], defers := [] } W.drew) := by
    refine Lib.hid ?_
    refine plan_two 1 5 (by kernel_rfl) rfl rfl ?_ ?_
    · intro K hK
      go_wp2_with fail
      exact h110.out
    · intro K hK
      go_wp2_with fail
      exact h101.out
  have h010 : Hid (wpAny Try.prog .any oops.toArray Q 10 #[false, true, false, false, false, false, false, false, false, false, false] { tmps := #[x0, x1, x2, x3, x4, .pointer (some ⟨G + 1 + 1, 0, none⟩), .pointer (some ⟨g, 0, none⟩), x7, x8, x9, x10, x11, x12, x13, x14, x15, x16, x17, x18, x19, x20, x21, x22, x23, undef, .pointer (some ⟨G + 1, 0, none⟩), undef, undef, undef, undef, undef, undef, undef, undef, undef], defers := [] } W.drew) := by
    refine Lib.hid ?_
    refine plan_three 0 2 5 (by kernel_rfl) rfl rfl rfl ?_ ?_ ?_
    · intro K hK
      go_wp2_with fail
      exact h110.out
    · intro K hK
      go_wp2_with fail
      exact h020.out
    · intro K hK
      go_wp2_with fail
      exact h011.out
  have h001 : Hid (wpAny Try.prog .any oops.toArray Q 10 #[false, false, false, false, false, true, false, false, false, false, false] { tmps := #[x0, x1, x2, x3, x4, .pointer (some ⟨G + 1 + 1, 0, none⟩), .pointer (some ⟨g, 0, none⟩), x7, x8, x9, x10, x11, x12, x13, x14, x15, x16, x17, x18, x19, x20, x21, x22, x23, undef, undef, undef, undef, undef, .agg #[.int .i64 r, .slice a5 L c5, .bool cl], undef, undef, undef, undef, undef], defers := [] } W.drew) := by
    refine Lib.hid ?_
    refine plan_three 0 1 6 (by kernel_rfl) rfl rfl rfl ?_ ?_ ?_
    · intro K hK
      go_wp2_with fail
      exact h101.out
    · intro K hK
      go_wp2_with fail
      exact h011.out
    · intro K hK
      go_wp2_with fail
      exact h002.out
  have h000 : Hid (wpAny Try.prog .any oops.toArray Q 11 #[false, false, false, false, false, false, false, false, false, false, false] { tmps := #[x0, x1, x2, x3, x4, .pointer (some ⟨G + 1 + 1, 0, none⟩), .pointer (some ⟨g, 0, none⟩), x7, x8, x9, x10, x11, x12, x13, x14, x15, x16, x17, x18, x19, x20, x21, x22, x23, undef, undef, undef, undef, undef, undef, undef, undef, undef, undef, undef], defers := [] } W.drew) := by
    refine Lib.hid ?_
    refine plan_three 0 1 5 (by kernel_rfl) rfl rfl rfl ?_ ?_ ?_
    · intro K hK
      go_wp2_with fail
      exact h100.out
    · intro K hK
      go_wp2_with fail
      exact h010.out
    · intro K hK
      go_wp2_with fail
      exact h001.out
  exact h000.out
end Go.Proofs.Ytnibllkcacalhaa
