/- The region of teaselref23.Step that puts into a pipe: in whatever order. -/
import Derived.Test.YtnibllkcacalhaaGD
namespace Go.Proofs.Ytnibllkcacalhaa
set_option maxRecDepth 100000
open Go.RowKit
/-- An operation that yields its value in whatever world is taken first. -/
theorem plan_yield {P : Program} {md : Region.Mode} {l : List Oper} {Q : Exit → Act → World → Prop} {listed : Array Bool} {a : Act} {w : World} {fuel : Nat} (i : Nat) {o : Oper} {v : Value} (hi : l.toArray[i]? = some o) (hy : Yields P l.toArray o v a) (hsel : Region.noSelect l.toArray = true) (hQ : ∀ c d v a w, Q (.panic c) (Act.put a d v) w → Q (.panic c) a w) (hf : Region.free md l.toArray listed i = true) (hr : (Region.ready md l.toArray listed).contains i = true)
    (h : wpAny P md l.toArray Q fuel (listed.setIfInBounds i true) (a.put o.dst v) w) : wpAny P md l.toArray Q (fuel + 1) listed a w :=
  wpAny_take hi hsel hf hr (fun c a w hq => hQ c o.dst v a w hq) hy h
theorem plan_four {P : Program} {md : Region.Mode} {l : List Oper} {Q : Exit → Act → World → Prop} {listed : Array Bool} {a : Act} {w : World} {fuel : Nat} (i j k m : Nat) {o o' o2 o3 : Oper} (hr : Region.ready md l.toArray listed = [i, j, k, m]) (hi : l.toArray[i]? = some o) (hj : l.toArray[j]? = some o') (hk : l.toArray[k]? = some o2) (hm : l.toArray[m]? = some o3)
    (h : ∀ K : Act → World → Prop, (∀ a w, wpAny P md l.toArray Q fuel (listed.setIfInBounds i true) a w → K a w) → wpList P l.toArray (Exit.then K Q) [o] a w)
    (h' : ∀ K : Act → World → Prop, (∀ a w, wpAny P md l.toArray Q fuel (listed.setIfInBounds j true) a w → K a w) → wpList P l.toArray (Exit.then K Q) [o'] a w)
    (h2 : ∀ K : Act → World → Prop, (∀ a w, wpAny P md l.toArray Q fuel (listed.setIfInBounds k true) a w → K a w) → wpList P l.toArray (Exit.then K Q) [o2] a w)
    (h3 : ∀ K : Act → World → Prop, (∀ a w, wpAny P md l.toArray Q fuel (listed.setIfInBounds m true) a w → K a w) → wpList P l.toArray (Exit.then K Q) [o3] a w) :
    wpAny P md l.toArray Q (fuel + 1) listed a w := by
  refine ⟨fun h0 => (by rw [hr] at h0; cases h0), fun n hn => ?_⟩
  rw [hr] at hn
  rcases (by simpa using hn : n = i ∨ n = j ∨ n = k ∨ n = m) with rfl | rfl | rfl | rfl
  · exact wpOp_list hi (h _ fun _ _ h => h)
  · exact wpOp_list hj (h' _ fun _ _ h => h)
  · exact wpOp_list hk (h2 _ fun _ _ h => h)
  · exact wpOp_list hm (h3 _ fun _ _ h => h)
/-- A region that draws its order, by a plan. -/
theorem wp_region_of {P : Program} {id : Nat} {ls : List Oper} {a : Act} {w : World} {Q : Exit → Act → World → Prop} (hm : P.follows .mixedOrders = true) (N : Nat) (hn : N = ls.toArray.size) (listed : Array Bool) (hl : listed = Array.replicate N false) (h : wpAny P .any ls.toArray Q N listed a w.drew) : (Code.region id ls.toArray true).wp P Q a w := by
  subst hn hl
  exact wp_region_any hm h
abbrev rop0 : Oper := { dst := some 46, op := .move (.tmp 7), type := 22, pos := "ref.go:81", after := #[], guard := none }
abbrev rop1 : Oper := { dst := some 47, op := .fieldAddr 49 (.tmp 8) 1, type := 0, pos := "ref.go:81", after := #[], guard := none }
abbrev rop2 : Oper := { dst := some 48, op := .load 3 (.tmp 47), type := 3, pos := "ref.go:81", after := #[{ on := 1, ground := .data }], guard := none }
abbrev rop3 : Oper := { dst := some 49, op := .move (.tmp 7), type := 22, pos := "ref.go:81", after := #[], guard := none }
abbrev rop4 : Oper := { dst := some 50, op := .fieldAddr 49 (.tmp 8) 1, type := 0, pos := "ref.go:81", after := #[], guard := none }
abbrev rop5 : Oper := { dst := some 51, op := .load 3 (.tmp 50), type := 3, pos := "ref.go:81", after := #[{ on := 4, ground := .data }], guard := none }
abbrev rop6 : Oper := { dst := some 52, op := .indexAddr 22 (.tmp 49) (.tmp 51), type := 0, pos := "ref.go:81", after := #[{ on := 3, ground := .data }, { on := 5, ground := .data }], guard := none }
abbrev rop7 : Oper := { dst := some 53, op := .fieldAddr 52 (.tmp 52) 1, type := 0, pos := "ref.go:81", after := #[{ on := 6, ground := .data }], guard := none }
abbrev rop8 : Oper := { dst := some 54, op := .load 50 (.tmp 53), type := 50, pos := "ref.go:81", after := #[{ on := 7, ground := .data }], guard := none }
abbrev rop9 : Oper := { dst := some 55, op := .fieldAddr 46 (.tmp 2) 2, type := 0, pos := "ref.go:81", after := #[], guard := none }
abbrev rop10 : Oper := { dst := some 56, op := .load 44 (.tmp 55), type := 44, pos := "ref.go:81", after := #[{ on := 9, ground := .data }], guard := none }
abbrev rop11 : Oper := { dst := some 57, op := .fieldAddr 49 (.tmp 8) 2, type := 0, pos := "ref.go:81", after := #[], guard := none }
abbrev rop12 : Oper := { dst := some 58, op := .load 44 (.tmp 57), type := 44, pos := "ref.go:81", after := #[{ on := 11, ground := .data }], guard := none }
abbrev rop13 : Oper := { dst := some 59, op := .binOp .add 44 (.tmp 56) (.tmp 58) 44, type := 44, pos := "ref.go:81", after := #[{ on := 10, ground := .data }, { on := 12, ground := .data }], guard := none }
abbrev rop14 : Oper := { dst := some 60, op := .buildSlice 50 1 #[(0, .tmp 59)], type := 50, pos := "ref.go:81", after := #[{ on := 13, ground := .data }], guard := none }
abbrev rop15 : Oper := { dst := some 61, op := .call { callee := .builtin .append, args := #[.tmp 54, .tmp 60], argTypes := #[50, 50] }, type := 50, pos := "ref.go:81", after := #[{ on := 8, ground := .data }, { on := 14, ground := .data }], guard := none }
abbrev rop16 : Oper := { dst := some 62, op := .indexAddr 22 (.tmp 46) (.tmp 48), type := 0, pos := "ref.go:81", after := #[{ on := 0, ground := .data }, { on := 2, ground := .data }, { on := 0, ground := .phase }, { on := 1, ground := .phase }, { on := 2, ground := .phase }, { on := 3, ground := .phase }, { on := 4, ground := .phase }, { on := 5, ground := .phase }, { on := 6, ground := .phase }, { on := 7, ground := .phase }, { on := 8, ground := .phase }, { on := 9, ground := .phase }, { on := 10, ground := .phase }, { on := 11, ground := .phase }, { on := 12, ground := .phase }, { on := 13, ground := .phase }, { on := 14, ground := .phase }, { on := 15, ground := .phase }], guard := none }
abbrev rop17 : Oper := { dst := some 63, op := .fieldAddr 52 (.tmp 62) 1, type := 0, pos := "ref.go:81", after := #[{ on := 16, ground := .data }, { on := 0, ground := .phase }, { on := 1, ground := .phase }, { on := 2, ground := .phase }, { on := 3, ground := .phase }, { on := 4, ground := .phase }, { on := 5, ground := .phase }, { on := 6, ground := .phase }, { on := 7, ground := .phase }, { on := 8, ground := .phase }, { on := 9, ground := .phase }, { on := 10, ground := .phase }, { on := 11, ground := .phase }, { on := 12, ground := .phase }, { on := 13, ground := .phase }, { on := 14, ground := .phase }, { on := 15, ground := .phase }], guard := none }
abbrev rop18 : Oper := { dst := none, op := .store 50 (.tmp 63) (.tmp 61), type := 0, pos := "ref.go:81", after := #[{ on := 17, ground := .data }, { on := 15, ground := .data }, { on := 15, ground := .chain }, { on := 0, ground := .phase }, { on := 1, ground := .phase }, { on := 2, ground := .phase }, { on := 3, ground := .phase }, { on := 4, ground := .phase }, { on := 5, ground := .phase }, { on := 6, ground := .phase }, { on := 7, ground := .phase }, { on := 8, ground := .phase }, { on := 9, ground := .phase }, { on := 10, ground := .phase }, { on := 11, ground := .phase }, { on := 12, ground := .phase }, { on := 13, ground := .phase }, { on := 14, ground := .phase }, { on := 15, ground := .phase }], guard := none }
abbrev rops : List Oper := [rop0, rop1, rop2, rop3, rop4, rop5, rop6, rop7, rop8, rop9, rop10, rop11, rop12, rop13, rop14, rop15, rop16, rop17, rop18]
set_option maxRecDepth 100000 in
set_option maxHeartbeats 8000000 in
theorem rput_reg {Q : Exit → Act → World → Prop} (x0 x1 x3 x4 x5 x6 x9 x10 x11 x12 x13 x14 x15 x16 x17 x18 x19 x20 x21 x22 x23 x24 x25 x26 x27 x28 x29 x30 x31 x32 x33 x34 x35 x36 x37 x38 x39 x40 x41 x42 x43 x44 x45 x64 x65 x66 x67 x68 x69 x70 x71 x72 x73 x74 x75 x76 x77 x78 x79 x80 x81 x82 x83 x84 x85 x86 x87 x88 x89 x90 x91 x92 x93 x94 x95 x96 x97 x98 x99 x100 x101 x102 x103 x104 x105 x106 x107 x108 x109 x110 x111 x112 x113 x114 x115 x116 x117 x118 x119 x120 x121 x122 x123 x124 x125 : Value) (hQ : ∀ c d v a w, Q (.panic c) (Act.put a d v) w → Q (.panic c) a w) (gc gp Gx j L cp m2 k2 : Nat) (s z : Int) (a2 : Option Addr) (W : World) (hjL : j < L)
    (e1 : W.cell? ⟨Gx, 1, none⟩ = some (.int .i64 j)) (e2 : W.cell? ⟨Gx, 2, none⟩ = some (.int .u32 z)) (d2 : W.cell? ⟨gc, 2, none⟩ = some (.int .u32 s)) (p1 : W.cell? ⟨gp, j * 3 + 1, none⟩ = some (.slice a2 m2 k2))
    (F : Option Addr → Nat → Nat → World → Prop) (hF : ∀ A8 N8 c8 W8, F A8 N8 c8 W8 → W8.cell? ⟨Gx, 1, none⟩ = some (.int .i64 j) ∧ W8.cell? ⟨gp, j * 3 + 1, none⟩ = some (.slice a2 m2 k2) ∧ W8.frozen? ⟨gp, j * 3 + 1, none⟩ = false)
    (happ : ∀ (a : Act) (Q' : Exit → Act → World → Prop), a.eval (.tmp 54) = .slice a2 m2 k2 → a.eval (.tmp 60) = .slice (some ⟨W.heap.size, 0, none⟩) 1 1 → (∀ A8 N8 c8 W8, F A8 N8 c8 W8 → wpList Try.prog rops.toArray Q' [] (a.put (some 61) (.slice A8 N8 c8)) W8) → wpList Try.prog rops.toArray Q' [rop15] a (W.drew.alloc (.cells #[.int .u32 (IntKind.u32.wrap (s + z))] 44)))
    (RA : Value → Value → Value → Value → Value → Value → Value → Value → Value → Value → Value → Value → Value → Value → Value → Value → Value → Value → Act) (hRA : RA = fun v46 v47 v48 v49 v50 v51 v52 v53 v54 v55 v56 v57 v58 v59 v60 v61 v62 v63 => ({ tmps := #[x0, x1, .pointer (some ⟨gc, 0, none⟩), x3, x4, x5, x6, .slice (some ⟨gp, 0, none⟩) L cp, .pointer (some ⟨Gx, 0, none⟩), x9, x10, x11, x12, x13, x14, x15, x16, x17, x18, x19, x20, x21, x22, x23, x24, x25, x26, x27, x28, x29, x30, x31, x32, x33, x34, x35, x36, x37, x38, x39, x40, x41, x42, x43, x44, x45, v46, v47, v48, v49, v50, v51, v52, v53, v54, v55, v56, v57, v58, v59, v60, v61, v62, v63, x64, x65, x66, x67, x68, x69, x70, x71, x72, x73, x74, x75, x76, x77, x78, x79, x80, x81, x82, x83, x84, x85, x86, x87, x88, x89, x90, x91, x92, x93, x94, x95, x96, x97, x98, x99, x100, x101, x102, x103, x104, x105, x106, x107, x108, x109, x110, x111, x112, x113, x114, x115, x116, x117, x118, x119, x120, x121, x122, x123, x124, x125], defers := [] } : Act))
    (hfin : ∀ A8 N8 c8 W8, F A8 N8 c8 W8 → Q .normal (RA (.slice (some ⟨gp, 0, none⟩) L cp) (.pointer (some ⟨Gx, 1, none⟩)) (.int .i64 j) (.slice (some ⟨gp, 0, none⟩) L cp) (.pointer (some ⟨Gx, 1, none⟩)) (.int .i64 j) (.pointer (some ⟨gp, j * 3, none⟩)) (.pointer (some ⟨gp, j * 3 + 1, none⟩)) (.slice a2 m2 k2) (.pointer (some ⟨gc, 2, none⟩)) (.int .u32 s) (.pointer (some ⟨Gx, 2, none⟩)) (.int .u32 z) (.int .u32 (IntKind.u32.wrap (s + z))) (.slice (some ⟨W.heap.size, 0, none⟩) 1 1) (.slice A8 N8 c8) (.pointer (some ⟨gp, j * 3, none⟩)) (.pointer (some ⟨gp, j * 3 + 1, none⟩))) (W8.setCell ⟨gp, j * 3 + 1, none⟩ (.slice A8 N8 c8))) :
    wpAny Try.prog .any rops.toArray Q 19 #[false, false, false, false, false, false, false, false, false, false, false, false, false, false, false, false, false, false, false] (RA undef undef undef undef undef undef undef undef undef undef undef undef undef undef undef undef undef undef) W.drew := by
  have e1a : (W.alloc (.cells #[.int .u32 (IntKind.u32.wrap (s + z))] 44)).cell? ⟨Gx, 1, none⟩ = some (.int .i64 j) := ((Frm.refl (fun _ => False) W).alloc _).cell e1 id
  have e2a : (W.alloc (.cells #[.int .u32 (IntKind.u32.wrap (s + z))] 44)).cell? ⟨Gx, 2, none⟩ = some (.int .u32 z) := ((Frm.refl (fun _ => False) W).alloc _).cell e2 id
  have d2a : (W.alloc (.cells #[.int .u32 (IntKind.u32.wrap (s + z))] 44)).cell? ⟨gc, 2, none⟩ = some (.int .u32 s) := ((Frm.refl (fun _ => False) W).alloc _).cell d2 id
  have p1a : (W.alloc (.cells #[.int .u32 (IntKind.u32.wrap (s + z))] 44)).cell? ⟨gp, j * 3 + 1, none⟩ = some (.slice a2 m2 k2) := ((Frm.refl (fun _ => False) W).alloc _).cell p1 id
  have hT1 : ∀ A8 N8 c8 W8, F A8 N8 c8 W8 → wpAny Try.prog .any rops.toArray Q 3 #[true, true, true, true, true, true, true, true, true, true, true, true, true, true, true, true, false, false, false] (RA (.slice (some ⟨gp, 0, none⟩) L cp) (.pointer (some ⟨Gx, 1, none⟩)) (.int .i64 j) (.slice (some ⟨gp, 0, none⟩) L cp) (.pointer (some ⟨Gx, 1, none⟩)) (.int .i64 j) (.pointer (some ⟨gp, j * 3, none⟩)) (.pointer (some ⟨gp, j * 3 + 1, none⟩)) (.slice a2 m2 k2) (.pointer (some ⟨gc, 2, none⟩)) (.int .u32 s) (.pointer (some ⟨Gx, 2, none⟩)) (.int .u32 z) (.int .u32 (IntKind.u32.wrap (s + z))) (.slice (some ⟨W.heap.size, 0, none⟩) 1 1) (.slice A8 N8 c8) undef undef) W8 := by
    intro A8 N8 c8 W8 hf
    have Hf := Lib.hid (hfin _ _ _ _ hf)
    obtain ⟨e5, e4, ef⟩ := hF _ _ _ _ hf
    rw [hRA]
    rw [hRA] at Hf
    clear hf hfin happ e1 e2 d2 p1 e1a e2a d2a p1a hF
    refine plan_one 16 (by kernel_rfl) rfl ?_
    intro K hK
    go_wp2_with fail
    refine plan_one 17 (by kernel_rfl) rfl ?_
    intro K hK
    go_wp2_with fail
    refine plan_one 18 (by kernel_rfl) rfl ?_
    intro K hK
    go_wp2_with fail
    refine plan_done (by kernel_rfl) ?_
    exact Hf.out
  have hT0 : ∀ A8 N8 c8 W8, F A8 N8 c8 W8 → wpAny Try.prog .any rops.toArray Q 4 #[true, true, false, true, true, true, true, true, true, true, true, true, true, true, true, true, false, false, false] (RA (.slice (some ⟨gp, 0, none⟩) L cp) (.pointer (some ⟨Gx, 1, none⟩)) undef (.slice (some ⟨gp, 0, none⟩) L cp) (.pointer (some ⟨Gx, 1, none⟩)) (.int .i64 j) (.pointer (some ⟨gp, j * 3, none⟩)) (.pointer (some ⟨gp, j * 3 + 1, none⟩)) (.slice a2 m2 k2) (.pointer (some ⟨gc, 2, none⟩)) (.int .u32 s) (.pointer (some ⟨Gx, 2, none⟩)) (.int .u32 z) (.int .u32 (IntKind.u32.wrap (s + z))) (.slice (some ⟨W.heap.size, 0, none⟩) 1 1) (.slice A8 N8 c8) undef undef) W8 := by
    intro A8 N8 c8 W8 hf
    have Hf := Lib.hid (hT1 _ _ _ _ hf)
    obtain ⟨e5, e4, ef⟩ := hF _ _ _ _ hf
    rw [hRA]
    rw [hRA] at Hf
    clear hf hfin happ e1 e2 d2 p1 e1a e2a d2a p1a hF
    clear hT1
    refine plan_one 2 (by kernel_rfl) rfl ?_
    intro K hK
    go_wp2_with fail
    exact Hf.out
  have h145 : Hid (wpAny Try.prog .any rops.toArray Q 4 #[true, true, true, true, true, true, true, true, true, true, true, true, true, true, true, false, false, false, false] (RA (.slice (some ⟨gp, 0, none⟩) L cp) (.pointer (some ⟨Gx, 1, none⟩)) (.int .i64 j) (.slice (some ⟨gp, 0, none⟩) L cp) (.pointer (some ⟨Gx, 1, none⟩)) (.int .i64 j) (.pointer (some ⟨gp, j * 3, none⟩)) (.pointer (some ⟨gp, j * 3 + 1, none⟩)) (.slice a2 m2 k2) (.pointer (some ⟨gc, 2, none⟩)) (.int .u32 s) (.pointer (some ⟨Gx, 2, none⟩)) (.int .u32 z) (.int .u32 (IntKind.u32.wrap (s + z))) (.slice (some ⟨W.heap.size, 0, none⟩) 1 1) undef undef undef) (W.drew.alloc (.cells #[.int .u32 (IntKind.u32.wrap (s + z))] 44))) := by
    refine Lib.hid ?_
    rw [hRA]
    refine plan_one 15 (by kernel_rfl) rfl ?_
    · intro K hK
      refine happ _ _ rfl rfl fun A8 N8 c8 W8 hf => ?_
      go_wp2_with fail
      have hx := hT1 _ _ _ _ hf
      rw [hRA] at hx
      exact hx
  have h045 : Hid (wpAny Try.prog .any rops.toArray Q 5 #[true, true, false, true, true, true, true, true, true, true, true, true, true, true, true, false, false, false, false] (RA (.slice (some ⟨gp, 0, none⟩) L cp) (.pointer (some ⟨Gx, 1, none⟩)) undef (.slice (some ⟨gp, 0, none⟩) L cp) (.pointer (some ⟨Gx, 1, none⟩)) (.int .i64 j) (.pointer (some ⟨gp, j * 3, none⟩)) (.pointer (some ⟨gp, j * 3 + 1, none⟩)) (.slice a2 m2 k2) (.pointer (some ⟨gc, 2, none⟩)) (.int .u32 s) (.pointer (some ⟨Gx, 2, none⟩)) (.int .u32 z) (.int .u32 (IntKind.u32.wrap (s + z))) (.slice (some ⟨W.heap.size, 0, none⟩) 1 1) undef undef undef) (W.drew.alloc (.cells #[.int .u32 (IntKind.u32.wrap (s + z))] 44))) := by
    refine Lib.hid ?_
    rw [hRA]
    refine plan_two 2 15 (by kernel_rfl) rfl rfl ?_ ?_
    · intro K hK
      have hx := h145
      rw [hRA] at hx
      go_wp2_with fail
      exact hx.out
    · intro K hK
      refine happ _ _ rfl rfl fun A8 N8 c8 W8 hf => ?_
      go_wp2_with fail
      have hx := hT0 _ _ _ _ hf
      rw [hRA] at hx
      exact hx
  have h135 : Hid (wpAny Try.prog .any rops.toArray Q 5 #[true, true, true, true, true, true, true, true, false, true, true, true, true, true, true, false, false, false, false] (RA (.slice (some ⟨gp, 0, none⟩) L cp) (.pointer (some ⟨Gx, 1, none⟩)) (.int .i64 j) (.slice (some ⟨gp, 0, none⟩) L cp) (.pointer (some ⟨Gx, 1, none⟩)) (.int .i64 j) (.pointer (some ⟨gp, j * 3, none⟩)) (.pointer (some ⟨gp, j * 3 + 1, none⟩)) undef (.pointer (some ⟨gc, 2, none⟩)) (.int .u32 s) (.pointer (some ⟨Gx, 2, none⟩)) (.int .u32 z) (.int .u32 (IntKind.u32.wrap (s + z))) (.slice (some ⟨W.heap.size, 0, none⟩) 1 1) undef undef undef) (W.drew.alloc (.cells #[.int .u32 (IntKind.u32.wrap (s + z))] 44))) := by
    refine Lib.hid ?_
    rw [hRA]
    refine plan_one 8 (by kernel_rfl) rfl ?_
    · intro K hK
      have hx := h145
      rw [hRA] at hx
      go_wp2_with fail
      exact hx.out
  have h144 : Hid (wpAny Try.prog .any rops.toArray Q 5 #[true, true, true, true, true, true, true, true, true, true, true, true, true, true, false, false, false, false, false] (RA (.slice (some ⟨gp, 0, none⟩) L cp) (.pointer (some ⟨Gx, 1, none⟩)) (.int .i64 j) (.slice (some ⟨gp, 0, none⟩) L cp) (.pointer (some ⟨Gx, 1, none⟩)) (.int .i64 j) (.pointer (some ⟨gp, j * 3, none⟩)) (.pointer (some ⟨gp, j * 3 + 1, none⟩)) (.slice a2 m2 k2) (.pointer (some ⟨gc, 2, none⟩)) (.int .u32 s) (.pointer (some ⟨Gx, 2, none⟩)) (.int .u32 z) (.int .u32 (IntKind.u32.wrap (s + z))) undef undef undef undef) W.drew) := by
    refine Lib.hid ?_
    rw [hRA]
    refine plan_one 14 (by kernel_rfl) rfl ?_
    · intro K hK
      have hx := h145
      rw [hRA] at hx
      go_wp2_with fail
      exact hx.out
  have h035 : Hid (wpAny Try.prog .any rops.toArray Q 6 #[true, true, false, true, true, true, true, true, false, true, true, true, true, true, true, false, false, false, false] (RA (.slice (some ⟨gp, 0, none⟩) L cp) (.pointer (some ⟨Gx, 1, none⟩)) undef (.slice (some ⟨gp, 0, none⟩) L cp) (.pointer (some ⟨Gx, 1, none⟩)) (.int .i64 j) (.pointer (some ⟨gp, j * 3, none⟩)) (.pointer (some ⟨gp, j * 3 + 1, none⟩)) undef (.pointer (some ⟨gc, 2, none⟩)) (.int .u32 s) (.pointer (some ⟨Gx, 2, none⟩)) (.int .u32 z) (.int .u32 (IntKind.u32.wrap (s + z))) (.slice (some ⟨W.heap.size, 0, none⟩) 1 1) undef undef undef) (W.drew.alloc (.cells #[.int .u32 (IntKind.u32.wrap (s + z))] 44))) := by
    refine Lib.hid ?_
    rw [hRA]
    refine plan_two 2 8 (by kernel_rfl) rfl rfl ?_ ?_
    · intro K hK
      have hx := h135
      rw [hRA] at hx
      go_wp2_with fail
      exact hx.out
    · intro K hK
      have hx := h045
      rw [hRA] at hx
      go_wp2_with fail
      exact hx.out
  have h044 : Hid (wpAny Try.prog .any rops.toArray Q 6 #[true, true, false, true, true, true, true, true, true, true, true, true, true, true, false, false, false, false, false] (RA (.slice (some ⟨gp, 0, none⟩) L cp) (.pointer (some ⟨Gx, 1, none⟩)) undef (.slice (some ⟨gp, 0, none⟩) L cp) (.pointer (some ⟨Gx, 1, none⟩)) (.int .i64 j) (.pointer (some ⟨gp, j * 3, none⟩)) (.pointer (some ⟨gp, j * 3 + 1, none⟩)) (.slice a2 m2 k2) (.pointer (some ⟨gc, 2, none⟩)) (.int .u32 s) (.pointer (some ⟨Gx, 2, none⟩)) (.int .u32 z) (.int .u32 (IntKind.u32.wrap (s + z))) undef undef undef undef) W.drew) := by
    refine Lib.hid ?_
    rw [hRA]
    refine plan_two 2 14 (by kernel_rfl) rfl rfl ?_ ?_
    · intro K hK
      have hx := h144
      rw [hRA] at hx
      go_wp2_with fail
      exact hx.out
    · intro K hK
      have hx := h045
      rw [hRA] at hx
      go_wp2_with fail
      exact hx.out
  have h125 : Hid (wpAny Try.prog .any rops.toArray Q 6 #[true, true, true, true, true, true, true, false, false, true, true, true, true, true, true, false, false, false, false] (RA (.slice (some ⟨gp, 0, none⟩) L cp) (.pointer (some ⟨Gx, 1, none⟩)) (.int .i64 j) (.slice (some ⟨gp, 0, none⟩) L cp) (.pointer (some ⟨Gx, 1, none⟩)) (.int .i64 j) (.pointer (some ⟨gp, j * 3, none⟩)) undef undef (.pointer (some ⟨gc, 2, none⟩)) (.int .u32 s) (.pointer (some ⟨Gx, 2, none⟩)) (.int .u32 z) (.int .u32 (IntKind.u32.wrap (s + z))) (.slice (some ⟨W.heap.size, 0, none⟩) 1 1) undef undef undef) (W.drew.alloc (.cells #[.int .u32 (IntKind.u32.wrap (s + z))] 44))) := by
    refine Lib.hid ?_
    rw [hRA]
    refine plan_one 7 (by kernel_rfl) rfl ?_
    · intro K hK
      have hx := h135
      rw [hRA] at hx
      go_wp2_with fail
      exact hx.out
  have h134 : Hid (wpAny Try.prog .any rops.toArray Q 6 #[true, true, true, true, true, true, true, true, false, true, true, true, true, true, false, false, false, false, false] (RA (.slice (some ⟨gp, 0, none⟩) L cp) (.pointer (some ⟨Gx, 1, none⟩)) (.int .i64 j) (.slice (some ⟨gp, 0, none⟩) L cp) (.pointer (some ⟨Gx, 1, none⟩)) (.int .i64 j) (.pointer (some ⟨gp, j * 3, none⟩)) (.pointer (some ⟨gp, j * 3 + 1, none⟩)) undef (.pointer (some ⟨gc, 2, none⟩)) (.int .u32 s) (.pointer (some ⟨Gx, 2, none⟩)) (.int .u32 z) (.int .u32 (IntKind.u32.wrap (s + z))) undef undef undef undef) W.drew) := by
    refine Lib.hid ?_
    rw [hRA]
    refine plan_two 8 14 (by kernel_rfl) rfl rfl ?_ ?_
    · intro K hK
      have hx := h144
      rw [hRA] at hx
      go_wp2_with fail
      exact hx.out
    · intro K hK
      have hx := h135
      rw [hRA] at hx
      go_wp2_with fail
      exact hx.out
  have h143 : Hid (wpAny Try.prog .any rops.toArray Q 6 #[true, true, true, true, true, true, true, true, true, true, true, true, true, false, false, false, false, false, false] (RA (.slice (some ⟨gp, 0, none⟩) L cp) (.pointer (some ⟨Gx, 1, none⟩)) (.int .i64 j) (.slice (some ⟨gp, 0, none⟩) L cp) (.pointer (some ⟨Gx, 1, none⟩)) (.int .i64 j) (.pointer (some ⟨gp, j * 3, none⟩)) (.pointer (some ⟨gp, j * 3 + 1, none⟩)) (.slice a2 m2 k2) (.pointer (some ⟨gc, 2, none⟩)) (.int .u32 s) (.pointer (some ⟨Gx, 2, none⟩)) (.int .u32 z) undef undef undef undef undef) W.drew) := by
    refine Lib.hid ?_
    rw [hRA]
    refine plan_one 13 (by kernel_rfl) rfl ?_
    · intro K hK
      have hx := h144
      rw [hRA] at hx
      go_wp2_with fail
      exact hx.out
  have h025 : Hid (wpAny Try.prog .any rops.toArray Q 7 #[true, true, false, true, true, true, true, false, false, true, true, true, true, true, true, false, false, false, false] (RA (.slice (some ⟨gp, 0, none⟩) L cp) (.pointer (some ⟨Gx, 1, none⟩)) undef (.slice (some ⟨gp, 0, none⟩) L cp) (.pointer (some ⟨Gx, 1, none⟩)) (.int .i64 j) (.pointer (some ⟨gp, j * 3, none⟩)) undef undef (.pointer (some ⟨gc, 2, none⟩)) (.int .u32 s) (.pointer (some ⟨Gx, 2, none⟩)) (.int .u32 z) (.int .u32 (IntKind.u32.wrap (s + z))) (.slice (some ⟨W.heap.size, 0, none⟩) 1 1) undef undef undef) (W.drew.alloc (.cells #[.int .u32 (IntKind.u32.wrap (s + z))] 44))) := by
    refine Lib.hid ?_
    rw [hRA]
    refine plan_two 2 7 (by kernel_rfl) rfl rfl ?_ ?_
    · intro K hK
      have hx := h125
      rw [hRA] at hx
      go_wp2_with fail
      exact hx.out
    · intro K hK
      have hx := h035
      rw [hRA] at hx
      go_wp2_with fail
      exact hx.out
  have h034 : Hid (wpAny Try.prog .any rops.toArray Q 7 #[true, true, false, true, true, true, true, true, false, true, true, true, true, true, false, false, false, false, false] (RA (.slice (some ⟨gp, 0, none⟩) L cp) (.pointer (some ⟨Gx, 1, none⟩)) undef (.slice (some ⟨gp, 0, none⟩) L cp) (.pointer (some ⟨Gx, 1, none⟩)) (.int .i64 j) (.pointer (some ⟨gp, j * 3, none⟩)) (.pointer (some ⟨gp, j * 3 + 1, none⟩)) undef (.pointer (some ⟨gc, 2, none⟩)) (.int .u32 s) (.pointer (some ⟨Gx, 2, none⟩)) (.int .u32 z) (.int .u32 (IntKind.u32.wrap (s + z))) undef undef undef undef) W.drew) := by
    refine Lib.hid ?_
    rw [hRA]
    refine plan_three 2 8 14 (by kernel_rfl) rfl rfl rfl ?_ ?_ ?_
    · intro K hK
      have hx := h134
      rw [hRA] at hx
      go_wp2_with fail
      exact hx.out
    · intro K hK
      have hx := h044
      rw [hRA] at hx
      go_wp2_with fail
      exact hx.out
    · intro K hK
      have hx := h035
      rw [hRA] at hx
      go_wp2_with fail
      exact hx.out
  have h043 : Hid (wpAny Try.prog .any rops.toArray Q 7 #[true, true, false, true, true, true, true, true, true, true, true, true, true, false, false, false, false, false, false] (RA (.slice (some ⟨gp, 0, none⟩) L cp) (.pointer (some ⟨Gx, 1, none⟩)) undef (.slice (some ⟨gp, 0, none⟩) L cp) (.pointer (some ⟨Gx, 1, none⟩)) (.int .i64 j) (.pointer (some ⟨gp, j * 3, none⟩)) (.pointer (some ⟨gp, j * 3 + 1, none⟩)) (.slice a2 m2 k2) (.pointer (some ⟨gc, 2, none⟩)) (.int .u32 s) (.pointer (some ⟨Gx, 2, none⟩)) (.int .u32 z) undef undef undef undef undef) W.drew) := by
    refine Lib.hid ?_
    rw [hRA]
    refine plan_two 2 13 (by kernel_rfl) rfl rfl ?_ ?_
    · intro K hK
      have hx := h143
      rw [hRA] at hx
      go_wp2_with fail
      exact hx.out
    · intro K hK
      have hx := h044
      rw [hRA] at hx
      go_wp2_with fail
      exact hx.out
  have h115 : Hid (wpAny Try.prog .any rops.toArray Q 7 #[true, true, true, true, true, true, false, false, false, true, true, true, true, true, true, false, false, false, false] (RA (.slice (some ⟨gp, 0, none⟩) L cp) (.pointer (some ⟨Gx, 1, none⟩)) (.int .i64 j) (.slice (some ⟨gp, 0, none⟩) L cp) (.pointer (some ⟨Gx, 1, none⟩)) (.int .i64 j) undef undef undef (.pointer (some ⟨gc, 2, none⟩)) (.int .u32 s) (.pointer (some ⟨Gx, 2, none⟩)) (.int .u32 z) (.int .u32 (IntKind.u32.wrap (s + z))) (.slice (some ⟨W.heap.size, 0, none⟩) 1 1) undef undef undef) (W.drew.alloc (.cells #[.int .u32 (IntKind.u32.wrap (s + z))] 44))) := by
    refine Lib.hid ?_
    rw [hRA]
    refine plan_one 6 (by kernel_rfl) rfl ?_
    · intro K hK
      have hx := h125
      rw [hRA] at hx
      go_wp2_with fail
      exact hx.out
  have h124 : Hid (wpAny Try.prog .any rops.toArray Q 7 #[true, true, true, true, true, true, true, false, false, true, true, true, true, true, false, false, false, false, false] (RA (.slice (some ⟨gp, 0, none⟩) L cp) (.pointer (some ⟨Gx, 1, none⟩)) (.int .i64 j) (.slice (some ⟨gp, 0, none⟩) L cp) (.pointer (some ⟨Gx, 1, none⟩)) (.int .i64 j) (.pointer (some ⟨gp, j * 3, none⟩)) undef undef (.pointer (some ⟨gc, 2, none⟩)) (.int .u32 s) (.pointer (some ⟨Gx, 2, none⟩)) (.int .u32 z) (.int .u32 (IntKind.u32.wrap (s + z))) undef undef undef undef) W.drew) := by
    refine Lib.hid ?_
    rw [hRA]
    refine plan_two 7 14 (by kernel_rfl) rfl rfl ?_ ?_
    · intro K hK
      have hx := h134
      rw [hRA] at hx
      go_wp2_with fail
      exact hx.out
    · intro K hK
      have hx := h125
      rw [hRA] at hx
      go_wp2_with fail
      exact hx.out
  have h133 : Hid (wpAny Try.prog .any rops.toArray Q 7 #[true, true, true, true, true, true, true, true, false, true, true, true, true, false, false, false, false, false, false] (RA (.slice (some ⟨gp, 0, none⟩) L cp) (.pointer (some ⟨Gx, 1, none⟩)) (.int .i64 j) (.slice (some ⟨gp, 0, none⟩) L cp) (.pointer (some ⟨Gx, 1, none⟩)) (.int .i64 j) (.pointer (some ⟨gp, j * 3, none⟩)) (.pointer (some ⟨gp, j * 3 + 1, none⟩)) undef (.pointer (some ⟨gc, 2, none⟩)) (.int .u32 s) (.pointer (some ⟨Gx, 2, none⟩)) (.int .u32 z) undef undef undef undef undef) W.drew) := by
    refine Lib.hid ?_
    rw [hRA]
    refine plan_two 8 13 (by kernel_rfl) rfl rfl ?_ ?_
    · intro K hK
      have hx := h143
      rw [hRA] at hx
      go_wp2_with fail
      exact hx.out
    · intro K hK
      have hx := h134
      rw [hRA] at hx
      go_wp2_with fail
      exact hx.out
  have h141 : Hid (wpAny Try.prog .any rops.toArray Q 7 #[true, true, true, true, true, true, true, true, true, true, true, true, false, false, false, false, false, false, false] (RA (.slice (some ⟨gp, 0, none⟩) L cp) (.pointer (some ⟨Gx, 1, none⟩)) (.int .i64 j) (.slice (some ⟨gp, 0, none⟩) L cp) (.pointer (some ⟨Gx, 1, none⟩)) (.int .i64 j) (.pointer (some ⟨gp, j * 3, none⟩)) (.pointer (some ⟨gp, j * 3 + 1, none⟩)) (.slice a2 m2 k2) (.pointer (some ⟨gc, 2, none⟩)) (.int .u32 s) (.pointer (some ⟨Gx, 2, none⟩)) undef undef undef undef undef undef) W.drew) := by
    refine Lib.hid ?_
    rw [hRA]
    refine plan_one 12 (by kernel_rfl) rfl ?_
    · intro K hK
      have hx := h143
      rw [hRA] at hx
      go_wp2_with fail
      exact hx.out
  have h142 : Hid (wpAny Try.prog .any rops.toArray Q 7 #[true, true, true, true, true, true, true, true, true, true, false, true, true, false, false, false, false, false, false] (RA (.slice (some ⟨gp, 0, none⟩) L cp) (.pointer (some ⟨Gx, 1, none⟩)) (.int .i64 j) (.slice (some ⟨gp, 0, none⟩) L cp) (.pointer (some ⟨Gx, 1, none⟩)) (.int .i64 j) (.pointer (some ⟨gp, j * 3, none⟩)) (.pointer (some ⟨gp, j * 3 + 1, none⟩)) (.slice a2 m2 k2) (.pointer (some ⟨gc, 2, none⟩)) undef (.pointer (some ⟨Gx, 2, none⟩)) (.int .u32 z) undef undef undef undef undef) W.drew) := by
    refine Lib.hid ?_
    rw [hRA]
    refine plan_one 10 (by kernel_rfl) rfl ?_
    · intro K hK
      have hx := h143
      rw [hRA] at hx
      go_wp2_with fail
      exact hx.out
  have h015 : Hid (wpAny Try.prog .any rops.toArray Q 8 #[true, true, false, true, true, true, false, false, false, true, true, true, true, true, true, false, false, false, false] (RA (.slice (some ⟨gp, 0, none⟩) L cp) (.pointer (some ⟨Gx, 1, none⟩)) undef (.slice (some ⟨gp, 0, none⟩) L cp) (.pointer (some ⟨Gx, 1, none⟩)) (.int .i64 j) undef undef undef (.pointer (some ⟨gc, 2, none⟩)) (.int .u32 s) (.pointer (some ⟨Gx, 2, none⟩)) (.int .u32 z) (.int .u32 (IntKind.u32.wrap (s + z))) (.slice (some ⟨W.heap.size, 0, none⟩) 1 1) undef undef undef) (W.drew.alloc (.cells #[.int .u32 (IntKind.u32.wrap (s + z))] 44))) := by
    refine Lib.hid ?_
    rw [hRA]
    refine plan_two 2 6 (by kernel_rfl) rfl rfl ?_ ?_
    · intro K hK
      have hx := h115
      rw [hRA] at hx
      go_wp2_with fail
      exact hx.out
    · intro K hK
      have hx := h025
      rw [hRA] at hx
      go_wp2_with fail
      exact hx.out
  have h024 : Hid (wpAny Try.prog .any rops.toArray Q 8 #[true, true, false, true, true, true, true, false, false, true, true, true, true, true, false, false, false, false, false] (RA (.slice (some ⟨gp, 0, none⟩) L cp) (.pointer (some ⟨Gx, 1, none⟩)) undef (.slice (some ⟨gp, 0, none⟩) L cp) (.pointer (some ⟨Gx, 1, none⟩)) (.int .i64 j) (.pointer (some ⟨gp, j * 3, none⟩)) undef undef (.pointer (some ⟨gc, 2, none⟩)) (.int .u32 s) (.pointer (some ⟨Gx, 2, none⟩)) (.int .u32 z) (.int .u32 (IntKind.u32.wrap (s + z))) undef undef undef undef) W.drew) := by
    refine Lib.hid ?_
    rw [hRA]
    refine plan_three 2 7 14 (by kernel_rfl) rfl rfl rfl ?_ ?_ ?_
    · intro K hK
      have hx := h124
      rw [hRA] at hx
      go_wp2_with fail
      exact hx.out
    · intro K hK
      have hx := h034
      rw [hRA] at hx
      go_wp2_with fail
      exact hx.out
    · intro K hK
      have hx := h025
      rw [hRA] at hx
      go_wp2_with fail
      exact hx.out
  have h033 : Hid (wpAny Try.prog .any rops.toArray Q 8 #[true, true, false, true, true, true, true, true, false, true, true, true, true, false, false, false, false, false, false] (RA (.slice (some ⟨gp, 0, none⟩) L cp) (.pointer (some ⟨Gx, 1, none⟩)) undef (.slice (some ⟨gp, 0, none⟩) L cp) (.pointer (some ⟨Gx, 1, none⟩)) (.int .i64 j) (.pointer (some ⟨gp, j * 3, none⟩)) (.pointer (some ⟨gp, j * 3 + 1, none⟩)) undef (.pointer (some ⟨gc, 2, none⟩)) (.int .u32 s) (.pointer (some ⟨Gx, 2, none⟩)) (.int .u32 z) undef undef undef undef undef) W.drew) := by
    refine Lib.hid ?_
    rw [hRA]
    refine plan_three 2 8 13 (by kernel_rfl) rfl rfl rfl ?_ ?_ ?_
    · intro K hK
      have hx := h133
      rw [hRA] at hx
      go_wp2_with fail
      exact hx.out
    · intro K hK
      have hx := h043
      rw [hRA] at hx
      go_wp2_with fail
      exact hx.out
    · intro K hK
      have hx := h034
      rw [hRA] at hx
      go_wp2_with fail
      exact hx.out
  have h041 : Hid (wpAny Try.prog .any rops.toArray Q 8 #[true, true, false, true, true, true, true, true, true, true, true, true, false, false, false, false, false, false, false] (RA (.slice (some ⟨gp, 0, none⟩) L cp) (.pointer (some ⟨Gx, 1, none⟩)) undef (.slice (some ⟨gp, 0, none⟩) L cp) (.pointer (some ⟨Gx, 1, none⟩)) (.int .i64 j) (.pointer (some ⟨gp, j * 3, none⟩)) (.pointer (some ⟨gp, j * 3 + 1, none⟩)) (.slice a2 m2 k2) (.pointer (some ⟨gc, 2, none⟩)) (.int .u32 s) (.pointer (some ⟨Gx, 2, none⟩)) undef undef undef undef undef undef) W.drew) := by
    refine Lib.hid ?_
    rw [hRA]
    refine plan_two 2 12 (by kernel_rfl) rfl rfl ?_ ?_
    · intro K hK
      have hx := h141
      rw [hRA] at hx
      go_wp2_with fail
      exact hx.out
    · intro K hK
      have hx := h043
      rw [hRA] at hx
      go_wp2_with fail
      exact hx.out
  have h042 : Hid (wpAny Try.prog .any rops.toArray Q 8 #[true, true, false, true, true, true, true, true, true, true, false, true, true, false, false, false, false, false, false] (RA (.slice (some ⟨gp, 0, none⟩) L cp) (.pointer (some ⟨Gx, 1, none⟩)) undef (.slice (some ⟨gp, 0, none⟩) L cp) (.pointer (some ⟨Gx, 1, none⟩)) (.int .i64 j) (.pointer (some ⟨gp, j * 3, none⟩)) (.pointer (some ⟨gp, j * 3 + 1, none⟩)) (.slice a2 m2 k2) (.pointer (some ⟨gc, 2, none⟩)) undef (.pointer (some ⟨Gx, 2, none⟩)) (.int .u32 z) undef undef undef undef undef) W.drew) := by
    refine Lib.hid ?_
    rw [hRA]
    refine plan_two 2 10 (by kernel_rfl) rfl rfl ?_ ?_
    · intro K hK
      have hx := h142
      rw [hRA] at hx
      go_wp2_with fail
      exact hx.out
    · intro K hK
      have hx := h043
      rw [hRA] at hx
      go_wp2_with fail
      exact hx.out
  have h105 : Hid (wpAny Try.prog .any rops.toArray Q 8 #[true, true, true, true, true, false, false, false, false, true, true, true, true, true, true, false, false, false, false] (RA (.slice (some ⟨gp, 0, none⟩) L cp) (.pointer (some ⟨Gx, 1, none⟩)) (.int .i64 j) (.slice (some ⟨gp, 0, none⟩) L cp) (.pointer (some ⟨Gx, 1, none⟩)) undef undef undef undef (.pointer (some ⟨gc, 2, none⟩)) (.int .u32 s) (.pointer (some ⟨Gx, 2, none⟩)) (.int .u32 z) (.int .u32 (IntKind.u32.wrap (s + z))) (.slice (some ⟨W.heap.size, 0, none⟩) 1 1) undef undef undef) (W.drew.alloc (.cells #[.int .u32 (IntKind.u32.wrap (s + z))] 44))) := by
    refine Lib.hid ?_
    rw [hRA]
    refine plan_one 5 (by kernel_rfl) rfl ?_
    · intro K hK
      have hx := h115
      rw [hRA] at hx
      go_wp2_with fail
      exact hx.out
  have h114 : Hid (wpAny Try.prog .any rops.toArray Q 8 #[true, true, true, true, true, true, false, false, false, true, true, true, true, true, false, false, false, false, false] (RA (.slice (some ⟨gp, 0, none⟩) L cp) (.pointer (some ⟨Gx, 1, none⟩)) (.int .i64 j) (.slice (some ⟨gp, 0, none⟩) L cp) (.pointer (some ⟨Gx, 1, none⟩)) (.int .i64 j) undef undef undef (.pointer (some ⟨gc, 2, none⟩)) (.int .u32 s) (.pointer (some ⟨Gx, 2, none⟩)) (.int .u32 z) (.int .u32 (IntKind.u32.wrap (s + z))) undef undef undef undef) W.drew) := by
    refine Lib.hid ?_
    rw [hRA]
    refine plan_two 6 14 (by kernel_rfl) rfl rfl ?_ ?_
    · intro K hK
      have hx := h124
      rw [hRA] at hx
      go_wp2_with fail
      exact hx.out
    · intro K hK
      have hx := h115
      rw [hRA] at hx
      go_wp2_with fail
      exact hx.out
  have h123 : Hid (wpAny Try.prog .any rops.toArray Q 8 #[true, true, true, true, true, true, true, false, false, true, true, true, true, false, false, false, false, false, false] (RA (.slice (some ⟨gp, 0, none⟩) L cp) (.pointer (some ⟨Gx, 1, none⟩)) (.int .i64 j) (.slice (some ⟨gp, 0, none⟩) L cp) (.pointer (some ⟨Gx, 1, none⟩)) (.int .i64 j) (.pointer (some ⟨gp, j * 3, none⟩)) undef undef (.pointer (some ⟨gc, 2, none⟩)) (.int .u32 s) (.pointer (some ⟨Gx, 2, none⟩)) (.int .u32 z) undef undef undef undef undef) W.drew) := by
    refine Lib.hid ?_
    rw [hRA]
    refine plan_two 7 13 (by kernel_rfl) rfl rfl ?_ ?_
    · intro K hK
      have hx := h133
      rw [hRA] at hx
      go_wp2_with fail
      exact hx.out
    · intro K hK
      have hx := h124
      rw [hRA] at hx
      go_wp2_with fail
      exact hx.out
  have h131 : Hid (wpAny Try.prog .any rops.toArray Q 8 #[true, true, true, true, true, true, true, true, false, true, true, true, false, false, false, false, false, false, false] (RA (.slice (some ⟨gp, 0, none⟩) L cp) (.pointer (some ⟨Gx, 1, none⟩)) (.int .i64 j) (.slice (some ⟨gp, 0, none⟩) L cp) (.pointer (some ⟨Gx, 1, none⟩)) (.int .i64 j) (.pointer (some ⟨gp, j * 3, none⟩)) (.pointer (some ⟨gp, j * 3 + 1, none⟩)) undef (.pointer (some ⟨gc, 2, none⟩)) (.int .u32 s) (.pointer (some ⟨Gx, 2, none⟩)) undef undef undef undef undef undef) W.drew) := by
    refine Lib.hid ?_
    rw [hRA]
    refine plan_two 8 12 (by kernel_rfl) rfl rfl ?_ ?_
    · intro K hK
      have hx := h141
      rw [hRA] at hx
      go_wp2_with fail
      exact hx.out
    · intro K hK
      have hx := h133
      rw [hRA] at hx
      go_wp2_with fail
      exact hx.out
  have h132 : Hid (wpAny Try.prog .any rops.toArray Q 8 #[true, true, true, true, true, true, true, true, false, true, false, true, true, false, false, false, false, false, false] (RA (.slice (some ⟨gp, 0, none⟩) L cp) (.pointer (some ⟨Gx, 1, none⟩)) (.int .i64 j) (.slice (some ⟨gp, 0, none⟩) L cp) (.pointer (some ⟨Gx, 1, none⟩)) (.int .i64 j) (.pointer (some ⟨gp, j * 3, none⟩)) (.pointer (some ⟨gp, j * 3 + 1, none⟩)) undef (.pointer (some ⟨gc, 2, none⟩)) undef (.pointer (some ⟨Gx, 2, none⟩)) (.int .u32 z) undef undef undef undef undef) W.drew) := by
    refine Lib.hid ?_
    rw [hRA]
    refine plan_two 8 10 (by kernel_rfl) rfl rfl ?_ ?_
    · intro K hK
      have hx := h142
      rw [hRA] at hx
      go_wp2_with fail
      exact hx.out
    · intro K hK
      have hx := h133
      rw [hRA] at hx
      go_wp2_with fail
      exact hx.out
  have h140 : Hid (wpAny Try.prog .any rops.toArray Q 8 #[true, true, true, true, true, true, true, true, true, true, false, true, false, false, false, false, false, false, false] (RA (.slice (some ⟨gp, 0, none⟩) L cp) (.pointer (some ⟨Gx, 1, none⟩)) (.int .i64 j) (.slice (some ⟨gp, 0, none⟩) L cp) (.pointer (some ⟨Gx, 1, none⟩)) (.int .i64 j) (.pointer (some ⟨gp, j * 3, none⟩)) (.pointer (some ⟨gp, j * 3 + 1, none⟩)) (.slice a2 m2 k2) (.pointer (some ⟨gc, 2, none⟩)) undef (.pointer (some ⟨Gx, 2, none⟩)) undef undef undef undef undef undef) W.drew) := by
    refine Lib.hid ?_
    rw [hRA]
    refine plan_two 10 12 (by kernel_rfl) rfl rfl ?_ ?_
    · intro K hK
      have hx := h141
      rw [hRA] at hx
      go_wp2_with fail
      exact hx.out
    · intro K hK
      have hx := h142
      rw [hRA] at hx
      go_wp2_with fail
      exact hx.out
  have h005 : Hid (wpAny Try.prog .any rops.toArray Q 9 #[true, true, false, true, true, false, false, false, false, true, true, true, true, true, true, false, false, false, false] (RA (.slice (some ⟨gp, 0, none⟩) L cp) (.pointer (some ⟨Gx, 1, none⟩)) undef (.slice (some ⟨gp, 0, none⟩) L cp) (.pointer (some ⟨Gx, 1, none⟩)) undef undef undef undef (.pointer (some ⟨gc, 2, none⟩)) (.int .u32 s) (.pointer (some ⟨Gx, 2, none⟩)) (.int .u32 z) (.int .u32 (IntKind.u32.wrap (s + z))) (.slice (some ⟨W.heap.size, 0, none⟩) 1 1) undef undef undef) (W.drew.alloc (.cells #[.int .u32 (IntKind.u32.wrap (s + z))] 44))) := by
    refine Lib.hid ?_
    rw [hRA]
    refine plan_two 2 5 (by kernel_rfl) rfl rfl ?_ ?_
    · intro K hK
      have hx := h105
      rw [hRA] at hx
      go_wp2_with fail
      exact hx.out
    · intro K hK
      have hx := h015
      rw [hRA] at hx
      go_wp2_with fail
      exact hx.out
  have h014 : Hid (wpAny Try.prog .any rops.toArray Q 9 #[true, true, false, true, true, true, false, false, false, true, true, true, true, true, false, false, false, false, false] (RA (.slice (some ⟨gp, 0, none⟩) L cp) (.pointer (some ⟨Gx, 1, none⟩)) undef (.slice (some ⟨gp, 0, none⟩) L cp) (.pointer (some ⟨Gx, 1, none⟩)) (.int .i64 j) undef undef undef (.pointer (some ⟨gc, 2, none⟩)) (.int .u32 s) (.pointer (some ⟨Gx, 2, none⟩)) (.int .u32 z) (.int .u32 (IntKind.u32.wrap (s + z))) undef undef undef undef) W.drew) := by
    refine Lib.hid ?_
    rw [hRA]
    refine plan_three 2 6 14 (by kernel_rfl) rfl rfl rfl ?_ ?_ ?_
    · intro K hK
      have hx := h114
      rw [hRA] at hx
      go_wp2_with fail
      exact hx.out
    · intro K hK
      have hx := h024
      rw [hRA] at hx
      go_wp2_with fail
      exact hx.out
    · intro K hK
      have hx := h015
      rw [hRA] at hx
      go_wp2_with fail
      exact hx.out
  have h023 : Hid (wpAny Try.prog .any rops.toArray Q 9 #[true, true, false, true, true, true, true, false, false, true, true, true, true, false, false, false, false, false, false] (RA (.slice (some ⟨gp, 0, none⟩) L cp) (.pointer (some ⟨Gx, 1, none⟩)) undef (.slice (some ⟨gp, 0, none⟩) L cp) (.pointer (some ⟨Gx, 1, none⟩)) (.int .i64 j) (.pointer (some ⟨gp, j * 3, none⟩)) undef undef (.pointer (some ⟨gc, 2, none⟩)) (.int .u32 s) (.pointer (some ⟨Gx, 2, none⟩)) (.int .u32 z) undef undef undef undef undef) W.drew) := by
    refine Lib.hid ?_
    rw [hRA]
    refine plan_three 2 7 13 (by kernel_rfl) rfl rfl rfl ?_ ?_ ?_
    · intro K hK
      have hx := h123
      rw [hRA] at hx
      go_wp2_with fail
      exact hx.out
    · intro K hK
      have hx := h033
      rw [hRA] at hx
      go_wp2_with fail
      exact hx.out
    · intro K hK
      have hx := h024
      rw [hRA] at hx
      go_wp2_with fail
      exact hx.out
  have h031 : Hid (wpAny Try.prog .any rops.toArray Q 9 #[true, true, false, true, true, true, true, true, false, true, true, true, false, false, false, false, false, false, false] (RA (.slice (some ⟨gp, 0, none⟩) L cp) (.pointer (some ⟨Gx, 1, none⟩)) undef (.slice (some ⟨gp, 0, none⟩) L cp) (.pointer (some ⟨Gx, 1, none⟩)) (.int .i64 j) (.pointer (some ⟨gp, j * 3, none⟩)) (.pointer (some ⟨gp, j * 3 + 1, none⟩)) undef (.pointer (some ⟨gc, 2, none⟩)) (.int .u32 s) (.pointer (some ⟨Gx, 2, none⟩)) undef undef undef undef undef undef) W.drew) := by
    refine Lib.hid ?_
    rw [hRA]
    refine plan_three 2 8 12 (by kernel_rfl) rfl rfl rfl ?_ ?_ ?_
    · intro K hK
      have hx := h131
      rw [hRA] at hx
      go_wp2_with fail
      exact hx.out
    · intro K hK
      have hx := h041
      rw [hRA] at hx
      go_wp2_with fail
      exact hx.out
    · intro K hK
      have hx := h033
      rw [hRA] at hx
      go_wp2_with fail
      exact hx.out
  have h032 : Hid (wpAny Try.prog .any rops.toArray Q 9 #[true, true, false, true, true, true, true, true, false, true, false, true, true, false, false, false, false, false, false] (RA (.slice (some ⟨gp, 0, none⟩) L cp) (.pointer (some ⟨Gx, 1, none⟩)) undef (.slice (some ⟨gp, 0, none⟩) L cp) (.pointer (some ⟨Gx, 1, none⟩)) (.int .i64 j) (.pointer (some ⟨gp, j * 3, none⟩)) (.pointer (some ⟨gp, j * 3 + 1, none⟩)) undef (.pointer (some ⟨gc, 2, none⟩)) undef (.pointer (some ⟨Gx, 2, none⟩)) (.int .u32 z) undef undef undef undef undef) W.drew) := by
    refine Lib.hid ?_
    rw [hRA]
    refine plan_three 2 8 10 (by kernel_rfl) rfl rfl rfl ?_ ?_ ?_
    · intro K hK
      have hx := h132
      rw [hRA] at hx
      go_wp2_with fail
      exact hx.out
    · intro K hK
      have hx := h042
      rw [hRA] at hx
      go_wp2_with fail
      exact hx.out
    · intro K hK
      have hx := h033
      rw [hRA] at hx
      go_wp2_with fail
      exact hx.out
  have h040 : Hid (wpAny Try.prog .any rops.toArray Q 9 #[true, true, false, true, true, true, true, true, true, true, false, true, false, false, false, false, false, false, false] (RA (.slice (some ⟨gp, 0, none⟩) L cp) (.pointer (some ⟨Gx, 1, none⟩)) undef (.slice (some ⟨gp, 0, none⟩) L cp) (.pointer (some ⟨Gx, 1, none⟩)) (.int .i64 j) (.pointer (some ⟨gp, j * 3, none⟩)) (.pointer (some ⟨gp, j * 3 + 1, none⟩)) (.slice a2 m2 k2) (.pointer (some ⟨gc, 2, none⟩)) undef (.pointer (some ⟨Gx, 2, none⟩)) undef undef undef undef undef undef) W.drew) := by
    refine Lib.hid ?_
    rw [hRA]
    refine plan_three 2 10 12 (by kernel_rfl) rfl rfl rfl ?_ ?_ ?_
    · intro K hK
      have hx := h140
      rw [hRA] at hx
      go_wp2_with fail
      exact hx.out
    · intro K hK
      have hx := h041
      rw [hRA] at hx
      go_wp2_with fail
      exact hx.out
    · intro K hK
      have hx := h042
      rw [hRA] at hx
      go_wp2_with fail
      exact hx.out
  have h104 : Hid (wpAny Try.prog .any rops.toArray Q 9 #[true, true, true, true, true, false, false, false, false, true, true, true, true, true, false, false, false, false, false] (RA (.slice (some ⟨gp, 0, none⟩) L cp) (.pointer (some ⟨Gx, 1, none⟩)) (.int .i64 j) (.slice (some ⟨gp, 0, none⟩) L cp) (.pointer (some ⟨Gx, 1, none⟩)) undef undef undef undef (.pointer (some ⟨gc, 2, none⟩)) (.int .u32 s) (.pointer (some ⟨Gx, 2, none⟩)) (.int .u32 z) (.int .u32 (IntKind.u32.wrap (s + z))) undef undef undef undef) W.drew) := by
    refine Lib.hid ?_
    rw [hRA]
    refine plan_two 5 14 (by kernel_rfl) rfl rfl ?_ ?_
    · intro K hK
      have hx := h114
      rw [hRA] at hx
      go_wp2_with fail
      exact hx.out
    · intro K hK
      have hx := h105
      rw [hRA] at hx
      go_wp2_with fail
      exact hx.out
  have h113 : Hid (wpAny Try.prog .any rops.toArray Q 9 #[true, true, true, true, true, true, false, false, false, true, true, true, true, false, false, false, false, false, false] (RA (.slice (some ⟨gp, 0, none⟩) L cp) (.pointer (some ⟨Gx, 1, none⟩)) (.int .i64 j) (.slice (some ⟨gp, 0, none⟩) L cp) (.pointer (some ⟨Gx, 1, none⟩)) (.int .i64 j) undef undef undef (.pointer (some ⟨gc, 2, none⟩)) (.int .u32 s) (.pointer (some ⟨Gx, 2, none⟩)) (.int .u32 z) undef undef undef undef undef) W.drew) := by
    refine Lib.hid ?_
    rw [hRA]
    refine plan_two 6 13 (by kernel_rfl) rfl rfl ?_ ?_
    · intro K hK
      have hx := h123
      rw [hRA] at hx
      go_wp2_with fail
      exact hx.out
    · intro K hK
      have hx := h114
      rw [hRA] at hx
      go_wp2_with fail
      exact hx.out
  have h121 : Hid (wpAny Try.prog .any rops.toArray Q 9 #[true, true, true, true, true, true, true, false, false, true, true, true, false, false, false, false, false, false, false] (RA (.slice (some ⟨gp, 0, none⟩) L cp) (.pointer (some ⟨Gx, 1, none⟩)) (.int .i64 j) (.slice (some ⟨gp, 0, none⟩) L cp) (.pointer (some ⟨Gx, 1, none⟩)) (.int .i64 j) (.pointer (some ⟨gp, j * 3, none⟩)) undef undef (.pointer (some ⟨gc, 2, none⟩)) (.int .u32 s) (.pointer (some ⟨Gx, 2, none⟩)) undef undef undef undef undef undef) W.drew) := by
    refine Lib.hid ?_
    rw [hRA]
    refine plan_two 7 12 (by kernel_rfl) rfl rfl ?_ ?_
    · intro K hK
      have hx := h131
      rw [hRA] at hx
      go_wp2_with fail
      exact hx.out
    · intro K hK
      have hx := h123
      rw [hRA] at hx
      go_wp2_with fail
      exact hx.out
  have h122 : Hid (wpAny Try.prog .any rops.toArray Q 9 #[true, true, true, true, true, true, true, false, false, true, false, true, true, false, false, false, false, false, false] (RA (.slice (some ⟨gp, 0, none⟩) L cp) (.pointer (some ⟨Gx, 1, none⟩)) (.int .i64 j) (.slice (some ⟨gp, 0, none⟩) L cp) (.pointer (some ⟨Gx, 1, none⟩)) (.int .i64 j) (.pointer (some ⟨gp, j * 3, none⟩)) undef undef (.pointer (some ⟨gc, 2, none⟩)) undef (.pointer (some ⟨Gx, 2, none⟩)) (.int .u32 z) undef undef undef undef undef) W.drew) := by
    refine Lib.hid ?_
    rw [hRA]
    refine plan_two 7 10 (by kernel_rfl) rfl rfl ?_ ?_
    · intro K hK
      have hx := h132
      rw [hRA] at hx
      go_wp2_with fail
      exact hx.out
    · intro K hK
      have hx := h123
      rw [hRA] at hx
      go_wp2_with fail
      exact hx.out
  have h130 : Hid (wpAny Try.prog .any rops.toArray Q 9 #[true, true, true, true, true, true, true, true, false, true, false, true, false, false, false, false, false, false, false] (RA (.slice (some ⟨gp, 0, none⟩) L cp) (.pointer (some ⟨Gx, 1, none⟩)) (.int .i64 j) (.slice (some ⟨gp, 0, none⟩) L cp) (.pointer (some ⟨Gx, 1, none⟩)) (.int .i64 j) (.pointer (some ⟨gp, j * 3, none⟩)) (.pointer (some ⟨gp, j * 3 + 1, none⟩)) undef (.pointer (some ⟨gc, 2, none⟩)) undef (.pointer (some ⟨Gx, 2, none⟩)) undef undef undef undef undef undef) W.drew) := by
    refine Lib.hid ?_
    rw [hRA]
    refine plan_three 8 10 12 (by kernel_rfl) rfl rfl rfl ?_ ?_ ?_
    · intro K hK
      have hx := h140
      rw [hRA] at hx
      go_wp2_with fail
      exact hx.out
    · intro K hK
      have hx := h131
      rw [hRA] at hx
      go_wp2_with fail
      exact hx.out
    · intro K hK
      have hx := h132
      rw [hRA] at hx
      go_wp2_with fail
      exact hx.out
  have h004 : Hid (wpAny Try.prog .any rops.toArray Q 10 #[true, true, false, true, true, false, false, false, false, true, true, true, true, true, false, false, false, false, false] (RA (.slice (some ⟨gp, 0, none⟩) L cp) (.pointer (some ⟨Gx, 1, none⟩)) undef (.slice (some ⟨gp, 0, none⟩) L cp) (.pointer (some ⟨Gx, 1, none⟩)) undef undef undef undef (.pointer (some ⟨gc, 2, none⟩)) (.int .u32 s) (.pointer (some ⟨Gx, 2, none⟩)) (.int .u32 z) (.int .u32 (IntKind.u32.wrap (s + z))) undef undef undef undef) W.drew) := by
    refine Lib.hid ?_
    rw [hRA]
    refine plan_three 2 5 14 (by kernel_rfl) rfl rfl rfl ?_ ?_ ?_
    · intro K hK
      have hx := h104
      rw [hRA] at hx
      go_wp2_with fail
      exact hx.out
    · intro K hK
      have hx := h014
      rw [hRA] at hx
      go_wp2_with fail
      exact hx.out
    · intro K hK
      have hx := h005
      rw [hRA] at hx
      go_wp2_with fail
      exact hx.out
  have h013 : Hid (wpAny Try.prog .any rops.toArray Q 10 #[true, true, false, true, true, true, false, false, false, true, true, true, true, false, false, false, false, false, false] (RA (.slice (some ⟨gp, 0, none⟩) L cp) (.pointer (some ⟨Gx, 1, none⟩)) undef (.slice (some ⟨gp, 0, none⟩) L cp) (.pointer (some ⟨Gx, 1, none⟩)) (.int .i64 j) undef undef undef (.pointer (some ⟨gc, 2, none⟩)) (.int .u32 s) (.pointer (some ⟨Gx, 2, none⟩)) (.int .u32 z) undef undef undef undef undef) W.drew) := by
    refine Lib.hid ?_
    rw [hRA]
    refine plan_three 2 6 13 (by kernel_rfl) rfl rfl rfl ?_ ?_ ?_
    · intro K hK
      have hx := h113
      rw [hRA] at hx
      go_wp2_with fail
      exact hx.out
    · intro K hK
      have hx := h023
      rw [hRA] at hx
      go_wp2_with fail
      exact hx.out
    · intro K hK
      have hx := h014
      rw [hRA] at hx
      go_wp2_with fail
      exact hx.out
  have h021 : Hid (wpAny Try.prog .any rops.toArray Q 10 #[true, true, false, true, true, true, true, false, false, true, true, true, false, false, false, false, false, false, false] (RA (.slice (some ⟨gp, 0, none⟩) L cp) (.pointer (some ⟨Gx, 1, none⟩)) undef (.slice (some ⟨gp, 0, none⟩) L cp) (.pointer (some ⟨Gx, 1, none⟩)) (.int .i64 j) (.pointer (some ⟨gp, j * 3, none⟩)) undef undef (.pointer (some ⟨gc, 2, none⟩)) (.int .u32 s) (.pointer (some ⟨Gx, 2, none⟩)) undef undef undef undef undef undef) W.drew) := by
    refine Lib.hid ?_
    rw [hRA]
    refine plan_three 2 7 12 (by kernel_rfl) rfl rfl rfl ?_ ?_ ?_
    · intro K hK
      have hx := h121
      rw [hRA] at hx
      go_wp2_with fail
      exact hx.out
    · intro K hK
      have hx := h031
      rw [hRA] at hx
      go_wp2_with fail
      exact hx.out
    · intro K hK
      have hx := h023
      rw [hRA] at hx
      go_wp2_with fail
      exact hx.out
  have h022 : Hid (wpAny Try.prog .any rops.toArray Q 10 #[true, true, false, true, true, true, true, false, false, true, false, true, true, false, false, false, false, false, false] (RA (.slice (some ⟨gp, 0, none⟩) L cp) (.pointer (some ⟨Gx, 1, none⟩)) undef (.slice (some ⟨gp, 0, none⟩) L cp) (.pointer (some ⟨Gx, 1, none⟩)) (.int .i64 j) (.pointer (some ⟨gp, j * 3, none⟩)) undef undef (.pointer (some ⟨gc, 2, none⟩)) undef (.pointer (some ⟨Gx, 2, none⟩)) (.int .u32 z) undef undef undef undef undef) W.drew) := by
    refine Lib.hid ?_
    rw [hRA]
    refine plan_three 2 7 10 (by kernel_rfl) rfl rfl rfl ?_ ?_ ?_
    · intro K hK
      have hx := h122
      rw [hRA] at hx
      go_wp2_with fail
      exact hx.out
    · intro K hK
      have hx := h032
      rw [hRA] at hx
      go_wp2_with fail
      exact hx.out
    · intro K hK
      have hx := h023
      rw [hRA] at hx
      go_wp2_with fail
      exact hx.out
  have h030 : Hid (wpAny Try.prog .any rops.toArray Q 10 #[true, true, false, true, true, true, true, true, false, true, false, true, false, false, false, false, false, false, false] (RA (.slice (some ⟨gp, 0, none⟩) L cp) (.pointer (some ⟨Gx, 1, none⟩)) undef (.slice (some ⟨gp, 0, none⟩) L cp) (.pointer (some ⟨Gx, 1, none⟩)) (.int .i64 j) (.pointer (some ⟨gp, j * 3, none⟩)) (.pointer (some ⟨gp, j * 3 + 1, none⟩)) undef (.pointer (some ⟨gc, 2, none⟩)) undef (.pointer (some ⟨Gx, 2, none⟩)) undef undef undef undef undef undef) W.drew) := by
    refine Lib.hid ?_
    rw [hRA]
    refine plan_four 2 8 10 12 (by kernel_rfl) rfl rfl rfl rfl ?_ ?_ ?_ ?_
    · intro K hK
      have hx := h130
      rw [hRA] at hx
      go_wp2_with fail
      exact hx.out
    · intro K hK
      have hx := h040
      rw [hRA] at hx
      go_wp2_with fail
      exact hx.out
    · intro K hK
      have hx := h031
      rw [hRA] at hx
      go_wp2_with fail
      exact hx.out
    · intro K hK
      have hx := h032
      rw [hRA] at hx
      go_wp2_with fail
      exact hx.out
  have h103 : Hid (wpAny Try.prog .any rops.toArray Q 10 #[true, true, true, true, true, false, false, false, false, true, true, true, true, false, false, false, false, false, false] (RA (.slice (some ⟨gp, 0, none⟩) L cp) (.pointer (some ⟨Gx, 1, none⟩)) (.int .i64 j) (.slice (some ⟨gp, 0, none⟩) L cp) (.pointer (some ⟨Gx, 1, none⟩)) undef undef undef undef (.pointer (some ⟨gc, 2, none⟩)) (.int .u32 s) (.pointer (some ⟨Gx, 2, none⟩)) (.int .u32 z) undef undef undef undef undef) W.drew) := by
    refine Lib.hid ?_
    rw [hRA]
    refine plan_two 5 13 (by kernel_rfl) rfl rfl ?_ ?_
    · intro K hK
      have hx := h113
      rw [hRA] at hx
      go_wp2_with fail
      exact hx.out
    · intro K hK
      have hx := h104
      rw [hRA] at hx
      go_wp2_with fail
      exact hx.out
  have h111 : Hid (wpAny Try.prog .any rops.toArray Q 10 #[true, true, true, true, true, true, false, false, false, true, true, true, false, false, false, false, false, false, false] (RA (.slice (some ⟨gp, 0, none⟩) L cp) (.pointer (some ⟨Gx, 1, none⟩)) (.int .i64 j) (.slice (some ⟨gp, 0, none⟩) L cp) (.pointer (some ⟨Gx, 1, none⟩)) (.int .i64 j) undef undef undef (.pointer (some ⟨gc, 2, none⟩)) (.int .u32 s) (.pointer (some ⟨Gx, 2, none⟩)) undef undef undef undef undef undef) W.drew) := by
    refine Lib.hid ?_
    rw [hRA]
    refine plan_two 6 12 (by kernel_rfl) rfl rfl ?_ ?_
    · intro K hK
      have hx := h121
      rw [hRA] at hx
      go_wp2_with fail
      exact hx.out
    · intro K hK
      have hx := h113
      rw [hRA] at hx
      go_wp2_with fail
      exact hx.out
  have h112 : Hid (wpAny Try.prog .any rops.toArray Q 10 #[true, true, true, true, true, true, false, false, false, true, false, true, true, false, false, false, false, false, false] (RA (.slice (some ⟨gp, 0, none⟩) L cp) (.pointer (some ⟨Gx, 1, none⟩)) (.int .i64 j) (.slice (some ⟨gp, 0, none⟩) L cp) (.pointer (some ⟨Gx, 1, none⟩)) (.int .i64 j) undef undef undef (.pointer (some ⟨gc, 2, none⟩)) undef (.pointer (some ⟨Gx, 2, none⟩)) (.int .u32 z) undef undef undef undef undef) W.drew) := by
    refine Lib.hid ?_
    rw [hRA]
    refine plan_two 6 10 (by kernel_rfl) rfl rfl ?_ ?_
    · intro K hK
      have hx := h122
      rw [hRA] at hx
      go_wp2_with fail
      exact hx.out
    · intro K hK
      have hx := h113
      rw [hRA] at hx
      go_wp2_with fail
      exact hx.out
  have h120 : Hid (wpAny Try.prog .any rops.toArray Q 10 #[true, true, true, true, true, true, true, false, false, true, false, true, false, false, false, false, false, false, false] (RA (.slice (some ⟨gp, 0, none⟩) L cp) (.pointer (some ⟨Gx, 1, none⟩)) (.int .i64 j) (.slice (some ⟨gp, 0, none⟩) L cp) (.pointer (some ⟨Gx, 1, none⟩)) (.int .i64 j) (.pointer (some ⟨gp, j * 3, none⟩)) undef undef (.pointer (some ⟨gc, 2, none⟩)) undef (.pointer (some ⟨Gx, 2, none⟩)) undef undef undef undef undef undef) W.drew) := by
    refine Lib.hid ?_
    rw [hRA]
    refine plan_three 7 10 12 (by kernel_rfl) rfl rfl rfl ?_ ?_ ?_
    · intro K hK
      have hx := h130
      rw [hRA] at hx
      go_wp2_with fail
      exact hx.out
    · intro K hK
      have hx := h121
      rw [hRA] at hx
      go_wp2_with fail
      exact hx.out
    · intro K hK
      have hx := h122
      rw [hRA] at hx
      go_wp2_with fail
      exact hx.out
  have h003 : Hid (wpAny Try.prog .any rops.toArray Q 11 #[true, true, false, true, true, false, false, false, false, true, true, true, true, false, false, false, false, false, false] (RA (.slice (some ⟨gp, 0, none⟩) L cp) (.pointer (some ⟨Gx, 1, none⟩)) undef (.slice (some ⟨gp, 0, none⟩) L cp) (.pointer (some ⟨Gx, 1, none⟩)) undef undef undef undef (.pointer (some ⟨gc, 2, none⟩)) (.int .u32 s) (.pointer (some ⟨Gx, 2, none⟩)) (.int .u32 z) undef undef undef undef undef) W.drew) := by
    refine Lib.hid ?_
    rw [hRA]
    refine plan_three 2 5 13 (by kernel_rfl) rfl rfl rfl ?_ ?_ ?_
    · intro K hK
      have hx := h103
      rw [hRA] at hx
      go_wp2_with fail
      exact hx.out
    · intro K hK
      have hx := h013
      rw [hRA] at hx
      go_wp2_with fail
      exact hx.out
    · intro K hK
      have hx := h004
      rw [hRA] at hx
      go_wp2_with fail
      exact hx.out
  have h011 : Hid (wpAny Try.prog .any rops.toArray Q 11 #[true, true, false, true, true, true, false, false, false, true, true, true, false, false, false, false, false, false, false] (RA (.slice (some ⟨gp, 0, none⟩) L cp) (.pointer (some ⟨Gx, 1, none⟩)) undef (.slice (some ⟨gp, 0, none⟩) L cp) (.pointer (some ⟨Gx, 1, none⟩)) (.int .i64 j) undef undef undef (.pointer (some ⟨gc, 2, none⟩)) (.int .u32 s) (.pointer (some ⟨Gx, 2, none⟩)) undef undef undef undef undef undef) W.drew) := by
    refine Lib.hid ?_
    rw [hRA]
    refine plan_three 2 6 12 (by kernel_rfl) rfl rfl rfl ?_ ?_ ?_
    · intro K hK
      have hx := h111
      rw [hRA] at hx
      go_wp2_with fail
      exact hx.out
    · intro K hK
      have hx := h021
      rw [hRA] at hx
      go_wp2_with fail
      exact hx.out
    · intro K hK
      have hx := h013
      rw [hRA] at hx
      go_wp2_with fail
      exact hx.out
  have h012 : Hid (wpAny Try.prog .any rops.toArray Q 11 #[true, true, false, true, true, true, false, false, false, true, false, true, true, false, false, false, false, false, false] (RA (.slice (some ⟨gp, 0, none⟩) L cp) (.pointer (some ⟨Gx, 1, none⟩)) undef (.slice (some ⟨gp, 0, none⟩) L cp) (.pointer (some ⟨Gx, 1, none⟩)) (.int .i64 j) undef undef undef (.pointer (some ⟨gc, 2, none⟩)) undef (.pointer (some ⟨Gx, 2, none⟩)) (.int .u32 z) undef undef undef undef undef) W.drew) := by
    refine Lib.hid ?_
    rw [hRA]
    refine plan_three 2 6 10 (by kernel_rfl) rfl rfl rfl ?_ ?_ ?_
    · intro K hK
      have hx := h112
      rw [hRA] at hx
      go_wp2_with fail
      exact hx.out
    · intro K hK
      have hx := h022
      rw [hRA] at hx
      go_wp2_with fail
      exact hx.out
    · intro K hK
      have hx := h013
      rw [hRA] at hx
      go_wp2_with fail
      exact hx.out
  have h020 : Hid (wpAny Try.prog .any rops.toArray Q 11 #[true, true, false, true, true, true, true, false, false, true, false, true, false, false, false, false, false, false, false] (RA (.slice (some ⟨gp, 0, none⟩) L cp) (.pointer (some ⟨Gx, 1, none⟩)) undef (.slice (some ⟨gp, 0, none⟩) L cp) (.pointer (some ⟨Gx, 1, none⟩)) (.int .i64 j) (.pointer (some ⟨gp, j * 3, none⟩)) undef undef (.pointer (some ⟨gc, 2, none⟩)) undef (.pointer (some ⟨Gx, 2, none⟩)) undef undef undef undef undef undef) W.drew) := by
    refine Lib.hid ?_
    rw [hRA]
    refine plan_four 2 7 10 12 (by kernel_rfl) rfl rfl rfl rfl ?_ ?_ ?_ ?_
    · intro K hK
      have hx := h120
      rw [hRA] at hx
      go_wp2_with fail
      exact hx.out
    · intro K hK
      have hx := h030
      rw [hRA] at hx
      go_wp2_with fail
      exact hx.out
    · intro K hK
      have hx := h021
      rw [hRA] at hx
      go_wp2_with fail
      exact hx.out
    · intro K hK
      have hx := h022
      rw [hRA] at hx
      go_wp2_with fail
      exact hx.out
  have h101 : Hid (wpAny Try.prog .any rops.toArray Q 11 #[true, true, true, true, true, false, false, false, false, true, true, true, false, false, false, false, false, false, false] (RA (.slice (some ⟨gp, 0, none⟩) L cp) (.pointer (some ⟨Gx, 1, none⟩)) (.int .i64 j) (.slice (some ⟨gp, 0, none⟩) L cp) (.pointer (some ⟨Gx, 1, none⟩)) undef undef undef undef (.pointer (some ⟨gc, 2, none⟩)) (.int .u32 s) (.pointer (some ⟨Gx, 2, none⟩)) undef undef undef undef undef undef) W.drew) := by
    refine Lib.hid ?_
    rw [hRA]
    refine plan_two 5 12 (by kernel_rfl) rfl rfl ?_ ?_
    · intro K hK
      have hx := h111
      rw [hRA] at hx
      go_wp2_with fail
      exact hx.out
    · intro K hK
      have hx := h103
      rw [hRA] at hx
      go_wp2_with fail
      exact hx.out
  have h102 : Hid (wpAny Try.prog .any rops.toArray Q 11 #[true, true, true, true, true, false, false, false, false, true, false, true, true, false, false, false, false, false, false] (RA (.slice (some ⟨gp, 0, none⟩) L cp) (.pointer (some ⟨Gx, 1, none⟩)) (.int .i64 j) (.slice (some ⟨gp, 0, none⟩) L cp) (.pointer (some ⟨Gx, 1, none⟩)) undef undef undef undef (.pointer (some ⟨gc, 2, none⟩)) undef (.pointer (some ⟨Gx, 2, none⟩)) (.int .u32 z) undef undef undef undef undef) W.drew) := by
    refine Lib.hid ?_
    rw [hRA]
    refine plan_two 5 10 (by kernel_rfl) rfl rfl ?_ ?_
    · intro K hK
      have hx := h112
      rw [hRA] at hx
      go_wp2_with fail
      exact hx.out
    · intro K hK
      have hx := h103
      rw [hRA] at hx
      go_wp2_with fail
      exact hx.out
  have h110 : Hid (wpAny Try.prog .any rops.toArray Q 11 #[true, true, true, true, true, true, false, false, false, true, false, true, false, false, false, false, false, false, false] (RA (.slice (some ⟨gp, 0, none⟩) L cp) (.pointer (some ⟨Gx, 1, none⟩)) (.int .i64 j) (.slice (some ⟨gp, 0, none⟩) L cp) (.pointer (some ⟨Gx, 1, none⟩)) (.int .i64 j) undef undef undef (.pointer (some ⟨gc, 2, none⟩)) undef (.pointer (some ⟨Gx, 2, none⟩)) undef undef undef undef undef undef) W.drew) := by
    refine Lib.hid ?_
    rw [hRA]
    refine plan_three 6 10 12 (by kernel_rfl) rfl rfl rfl ?_ ?_ ?_
    · intro K hK
      have hx := h120
      rw [hRA] at hx
      go_wp2_with fail
      exact hx.out
    · intro K hK
      have hx := h111
      rw [hRA] at hx
      go_wp2_with fail
      exact hx.out
    · intro K hK
      have hx := h112
      rw [hRA] at hx
      go_wp2_with fail
      exact hx.out
  have h001 : Hid (wpAny Try.prog .any rops.toArray Q 12 #[true, true, false, true, true, false, false, false, false, true, true, true, false, false, false, false, false, false, false] (RA (.slice (some ⟨gp, 0, none⟩) L cp) (.pointer (some ⟨Gx, 1, none⟩)) undef (.slice (some ⟨gp, 0, none⟩) L cp) (.pointer (some ⟨Gx, 1, none⟩)) undef undef undef undef (.pointer (some ⟨gc, 2, none⟩)) (.int .u32 s) (.pointer (some ⟨Gx, 2, none⟩)) undef undef undef undef undef undef) W.drew) := by
    refine Lib.hid ?_
    rw [hRA]
    refine plan_three 2 5 12 (by kernel_rfl) rfl rfl rfl ?_ ?_ ?_
    · intro K hK
      have hx := h101
      rw [hRA] at hx
      go_wp2_with fail
      exact hx.out
    · intro K hK
      have hx := h011
      rw [hRA] at hx
      go_wp2_with fail
      exact hx.out
    · intro K hK
      have hx := h003
      rw [hRA] at hx
      go_wp2_with fail
      exact hx.out
  have h002 : Hid (wpAny Try.prog .any rops.toArray Q 12 #[true, true, false, true, true, false, false, false, false, true, false, true, true, false, false, false, false, false, false] (RA (.slice (some ⟨gp, 0, none⟩) L cp) (.pointer (some ⟨Gx, 1, none⟩)) undef (.slice (some ⟨gp, 0, none⟩) L cp) (.pointer (some ⟨Gx, 1, none⟩)) undef undef undef undef (.pointer (some ⟨gc, 2, none⟩)) undef (.pointer (some ⟨Gx, 2, none⟩)) (.int .u32 z) undef undef undef undef undef) W.drew) := by
    refine Lib.hid ?_
    rw [hRA]
    refine plan_three 2 5 10 (by kernel_rfl) rfl rfl rfl ?_ ?_ ?_
    · intro K hK
      have hx := h102
      rw [hRA] at hx
      go_wp2_with fail
      exact hx.out
    · intro K hK
      have hx := h012
      rw [hRA] at hx
      go_wp2_with fail
      exact hx.out
    · intro K hK
      have hx := h003
      rw [hRA] at hx
      go_wp2_with fail
      exact hx.out
  have h010 : Hid (wpAny Try.prog .any rops.toArray Q 12 #[true, true, false, true, true, true, false, false, false, true, false, true, false, false, false, false, false, false, false] (RA (.slice (some ⟨gp, 0, none⟩) L cp) (.pointer (some ⟨Gx, 1, none⟩)) undef (.slice (some ⟨gp, 0, none⟩) L cp) (.pointer (some ⟨Gx, 1, none⟩)) (.int .i64 j) undef undef undef (.pointer (some ⟨gc, 2, none⟩)) undef (.pointer (some ⟨Gx, 2, none⟩)) undef undef undef undef undef undef) W.drew) := by
    refine Lib.hid ?_
    rw [hRA]
    refine plan_four 2 6 10 12 (by kernel_rfl) rfl rfl rfl rfl ?_ ?_ ?_ ?_
    · intro K hK
      have hx := h110
      rw [hRA] at hx
      go_wp2_with fail
      exact hx.out
    · intro K hK
      have hx := h020
      rw [hRA] at hx
      go_wp2_with fail
      exact hx.out
    · intro K hK
      have hx := h011
      rw [hRA] at hx
      go_wp2_with fail
      exact hx.out
    · intro K hK
      have hx := h012
      rw [hRA] at hx
      go_wp2_with fail
      exact hx.out
  have h100 : Hid (wpAny Try.prog .any rops.toArray Q 12 #[true, true, true, true, true, false, false, false, false, true, false, true, false, false, false, false, false, false, false] (RA (.slice (some ⟨gp, 0, none⟩) L cp) (.pointer (some ⟨Gx, 1, none⟩)) (.int .i64 j) (.slice (some ⟨gp, 0, none⟩) L cp) (.pointer (some ⟨Gx, 1, none⟩)) undef undef undef undef (.pointer (some ⟨gc, 2, none⟩)) undef (.pointer (some ⟨Gx, 2, none⟩)) undef undef undef undef undef undef) W.drew) := by
    refine Lib.hid ?_
    rw [hRA]
    refine plan_three 5 10 12 (by kernel_rfl) rfl rfl rfl ?_ ?_ ?_
    · intro K hK
      have hx := h110
      rw [hRA] at hx
      go_wp2_with fail
      exact hx.out
    · intro K hK
      have hx := h101
      rw [hRA] at hx
      go_wp2_with fail
      exact hx.out
    · intro K hK
      have hx := h102
      rw [hRA] at hx
      go_wp2_with fail
      exact hx.out
  have h000 : Hid (wpAny Try.prog .any rops.toArray Q 13 #[true, true, false, true, true, false, false, false, false, true, false, true, false, false, false, false, false, false, false] (RA (.slice (some ⟨gp, 0, none⟩) L cp) (.pointer (some ⟨Gx, 1, none⟩)) undef (.slice (some ⟨gp, 0, none⟩) L cp) (.pointer (some ⟨Gx, 1, none⟩)) undef undef undef undef (.pointer (some ⟨gc, 2, none⟩)) undef (.pointer (some ⟨Gx, 2, none⟩)) undef undef undef undef undef undef) W.drew) := by
    refine Lib.hid ?_
    rw [hRA]
    refine plan_four 2 5 10 12 (by kernel_rfl) rfl rfl rfl rfl ?_ ?_ ?_ ?_
    · intro K hK
      have hx := h100
      rw [hRA] at hx
      go_wp2_with fail
      exact hx.out
    · intro K hK
      have hx := h010
      rw [hRA] at hx
      go_wp2_with fail
      exact hx.out
    · intro K hK
      have hx := h001
      rw [hRA] at hx
      go_wp2_with fail
      exact hx.out
    · intro K hK
      have hx := h002
      rw [hRA] at hx
      go_wp2_with fail
      exact hx.out
  have g5 : Hid (wpAny Try.prog .any rops.toArray Q 14 #[true, true, false, true, true, false, false, false, false, true, false, false, false, false, false, false, false, false, false] (RA (.slice (some ⟨gp, 0, none⟩) L cp) (.pointer (some ⟨Gx, 1, none⟩)) undef (.slice (some ⟨gp, 0, none⟩) L cp) (.pointer (some ⟨Gx, 1, none⟩)) undef undef undef undef (.pointer (some ⟨gc, 2, none⟩)) undef undef undef undef undef undef undef undef) W.drew) := by
    have hx := h000.out
    rw [hRA] at hx
    refine Lib.hid ?_
    rw [hRA]
    exact plan_yield 11 (v := .pointer (some ⟨Gx, 2, none⟩)) rfl (Or.inl ⟨by rfl, fun _ => rfl⟩) (by kernel_rfl) hQ (by kernel_rfl) (by kernel_rfl) hx
  have g4 : Hid (wpAny Try.prog .any rops.toArray Q 15 #[true, true, false, true, true, false, false, false, false, false, false, false, false, false, false, false, false, false, false] (RA (.slice (some ⟨gp, 0, none⟩) L cp) (.pointer (some ⟨Gx, 1, none⟩)) undef (.slice (some ⟨gp, 0, none⟩) L cp) (.pointer (some ⟨Gx, 1, none⟩)) undef undef undef undef undef undef undef undef undef undef undef undef undef) W.drew) := by
    have hx := g5.out
    rw [hRA] at hx
    refine Lib.hid ?_
    rw [hRA]
    exact plan_yield 9 (v := .pointer (some ⟨gc, 2, none⟩)) rfl (Or.inl ⟨by rfl, fun _ => rfl⟩) (by kernel_rfl) hQ (by kernel_rfl) (by kernel_rfl) hx
  have g3 : Hid (wpAny Try.prog .any rops.toArray Q 16 #[true, true, false, true, false, false, false, false, false, false, false, false, false, false, false, false, false, false, false] (RA (.slice (some ⟨gp, 0, none⟩) L cp) (.pointer (some ⟨Gx, 1, none⟩)) undef (.slice (some ⟨gp, 0, none⟩) L cp) undef undef undef undef undef undef undef undef undef undef undef undef undef undef) W.drew) := by
    have hx := g4.out
    rw [hRA] at hx
    refine Lib.hid ?_
    rw [hRA]
    exact plan_yield 4 (v := .pointer (some ⟨Gx, 1, none⟩)) rfl (Or.inl ⟨by rfl, fun _ => rfl⟩) (by kernel_rfl) hQ (by kernel_rfl) (by kernel_rfl) hx
  have g2 : Hid (wpAny Try.prog .any rops.toArray Q 17 #[true, true, false, false, false, false, false, false, false, false, false, false, false, false, false, false, false, false, false] (RA (.slice (some ⟨gp, 0, none⟩) L cp) (.pointer (some ⟨Gx, 1, none⟩)) undef undef undef undef undef undef undef undef undef undef undef undef undef undef undef undef) W.drew) := by
    have hx := g3.out
    rw [hRA] at hx
    refine Lib.hid ?_
    rw [hRA]
    exact plan_yield 3 (v := .slice (some ⟨gp, 0, none⟩) L cp) rfl (Or.inl ⟨by rfl, fun _ => rfl⟩) (by kernel_rfl) hQ (by kernel_rfl) (by kernel_rfl) hx
  have g1 : Hid (wpAny Try.prog .any rops.toArray Q 18 #[true, false, false, false, false, false, false, false, false, false, false, false, false, false, false, false, false, false, false] (RA (.slice (some ⟨gp, 0, none⟩) L cp) undef undef undef undef undef undef undef undef undef undef undef undef undef undef undef undef undef) W.drew) := by
    have hx := g2.out
    rw [hRA] at hx
    refine Lib.hid ?_
    rw [hRA]
    exact plan_yield 1 (v := .pointer (some ⟨Gx, 1, none⟩)) rfl (Or.inl ⟨by rfl, fun _ => rfl⟩) (by kernel_rfl) hQ (by kernel_rfl) (by kernel_rfl) hx
  have g0 : Hid (wpAny Try.prog .any rops.toArray Q 19 #[false, false, false, false, false, false, false, false, false, false, false, false, false, false, false, false, false, false, false] (RA undef undef undef undef undef undef undef undef undef undef undef undef undef undef undef undef undef undef) W.drew) := by
    have hx := g1.out
    rw [hRA] at hx
    refine Lib.hid ?_
    rw [hRA]
    exact plan_yield 0 (v := .slice (some ⟨gp, 0, none⟩) L cp) rfl (Or.inl ⟨by rfl, fun _ => rfl⟩) (by kernel_rfl) hQ (by kernel_rfl) (by kernel_rfl) hx
  exact g0.out
end Go.Proofs.Ytnibllkcacalhaa
