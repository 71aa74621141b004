/- wakes. -/
import Derived.Lib.SlBytesConst
import Derived.Test.YtpcdbkaeijhmfaaGreatDoorGI
import Derived.Test.YtpcdbkaeijhmfaaGreatDoorHSm
namespace Go.Proofs.YtpcdbkaeijhmfaaGreatDoor
set_option maxRecDepth 100000
set_option linter.unusedVariables false
set_option linter.unusedSimpArgs false
open Go.RowKit
attribute [local go_sem] Oper.semAt_some
section
variable {P : Program} {ops : Array Oper} {Q : Exit → Act → World → Prop} {a : Act} {w : World} {rest : List Oper} {o : Oper}
theorem wpList_valT (hg : o.guard = none) (d : Option Tmp) (hdst : o.dst = d) {v : Value} {w' : World} (hr : (execOp a.eval o).run P w = .ok (.value v) w') (h : wpList P ops Q rest (a.put d v) w') : wpList P ops Q (o :: rest) a w := by
  subst hdst
  unfold wpList
  rw [if_pos (by simp [Region.wanted, hg])]
  refine .inl ?_
  unfold Oper.wp
  rw [hr]
  exact h
theorem wpList_store_rowT (hg : o.guard = none) (ty : TypeId) (x y : Operand) (ho : o.op = .store ty x y) (hd : o.dst = none) (g : Nat) (cells : Array Value) (hx : a.eval x = .pointer (some ⟨g, 0, none⟩)) (hy : a.eval y = .agg cells)
    (t : TypeId) (old : Array Value) (hb : w.heap[g]? = some (.cells old t (0, 0))) (hi : (P.info? ty).map (·.size) = some cells.size) (hold : old.size = cells.size) (h1 : cells.all (·.oneCell') = true)
    (h : wpList P ops Q rest a (w.setRow g cells)) : wpList P ops Q (o :: rest) a w := by
  unfold wpList
  rw [if_pos (by simp [Region.wanted, hg])]
  refine .inl ?_
  unfold Oper.wp
  rw [exec_store ho hx hy (show (Instr.storeAt ty (.pointer (some ⟨g, 0, none⟩)) (.agg cells)).run P w = .ok () (w.setRow g cells) by simp only [Instr.storeAt, Instr.sureAddr, Sem.run_bind, Sem.run_pure, Result.andThen_ok, run_storeVar_row w g t ty old cells hb hi hold h1])]
  show wpList P ops Q rest (a.put o.dst undef) _
  rw [hd]
  exact h
end
theorem run_loadAt_row {P : Program} (w : World) (g : Nat) (t ty : TypeId) (cs : Array Value) (d : TypeDesc) (hg : w.heap[g]? = some (.cells cs t (0, 0))) (hu : P.underlying ty = some d) (hd : (match d with | .struct _ | .array _ _ => true | _ => false) = true) (hi : (P.info? ty).map (·.size) = some cs.size) :
    (Instr.loadAt ty (.pointer (some ⟨g, 0, none⟩))).run P w = .ok (.agg cs) w := by
  simp only [Instr.loadAt, Instr.sureAddr, Sem.run_bind, Sem.run_pure, Result.andThen_ok, run_loadVar_row w g t ty cs (0, 0) d hg hu hd hi]
theorem wpList_loadT {P : Program} {ops : Array Oper} {Q : Exit → Act → World → Prop} {a : Act} {w : World} {rest : List Oper} {o : Oper} (hw : Region.wanted o (yielded ops a.tmps) = true) (ty : TypeId) (x : Operand) (ho : o.op = .load ty x) (g : Nat) (hx : a.eval x = .pointer (some ⟨g, 0, none⟩)) (cs : Array Value) (t : TypeId) (d : TypeDesc) (hg : w.heap[g]? = some (.cells cs t (0, 0))) (hu : P.underlying ty = some d) (hd : (match d with | .struct _ | .array _ _ => true | _ => false) = true) (hi : (P.info? ty).map (·.size) = some cs.size)
    (h : wpList P ops Q rest (a.put o.dst (.agg cs)) w) : wpList P ops Q (o :: rest) a w := by
  unfold wpList
  rw [if_pos hw]
  refine .inl ?_
  unfold Oper.wp
  rw [exec_load ho hx (run_loadAt_row w g t ty cs d hg hu hd hi)]
  exact h
theorem wkS_ok : Okay wkS := ⟨rfl, ⟨by decide, fun x hx => by rw [List.mem_singleton.1 hx]; decide⟩, ⟨by decide, fun x hx => by cases hx⟩, by decide, by decide, by decide, by decide⟩
theorem wkZ_ok : Okay wkZ := ⟨rfl, ⟨by decide, fun x hx => by cases hx⟩, ⟨by decide, fun x hx => by cases hx⟩, by decide, by decide, by decide, by decide⟩
theorem LsR.nil (w : World) (K : Nat → Prop) (st : St) (h1 : st.words = []) (h2 : st.reads = []) (h3 : st.answers = []) (h4 : st.picks = []) : LsR w K st (.slice none 0 0) (.slice none 0 0) (.slice none 0 0) (.slice none 0 0) :=
  ⟨by rw [h1]; exact ⟨[], Sl.nil_ _ _, rfl, fun u hu => (by cases hu), fun i u x h => (by simp at h)⟩, by rw [h2]; exact ⟨[], Sl.nil_ _ _, rfl, fun u hu => (by cases hu), fun i u x h => (by simp at h)⟩, by rw [h3]; exact Sl.nil_ _ _, by rw [h4]; exact Sl.nil_ _ _⟩
theorem Lsts.one {w : World} {B : Nat} {st : St} {wv rv av pv : Value} (h : Lsts w B st wv rv av pv) : (stCells st wv rv av pv).all (·.oneCell') = true := by
  obtain ⟨A1, c1, e1⟩ := h.words.form
  obtain ⟨A2, c2, e2⟩ := h.reads.form
  obtain ⟨A3, c3, e3, -, -⟩ := own_form h.answers
  obtain ⟨A4, c4, e4, -, -⟩ := own_form h.picks
  exact stCells_one ⟨by rw [e1]; rfl, by rw [e2]; rfl, by rw [e3]; rfl, by rw [e4]; rfl⟩
set_option maxHeartbeats 16000000 in
theorem wakes_any (w : World) (hg : Gl w) : Calls Tryz.prog 5 #[] w fun e w' => e = .returned (.bool true) ∧ Frm (fun _ => False) w w' := by
  go_enter Tryz.func5, Tryz.ntmps5
  go_wp2_with fail
  have h1 := parseL_any [([35, 32, 104, 101, 10, 32, 102, 111, 108, 100, 32, 10, 119, 111, 114, 100, 32, 34, 97, 92, 48, 97, 92, 50, 50, 34, 10] : By), ([10, 112, 105, 99, 107, 32, 49, 32, 45, 50, 10, 112, 105, 99, 107, 32, 51, 10, 112, 108, 97, 110, 32, 114, 111, 117, 110, 100, 32, 55, 32, 45, 49, 10, 109, 111, 115, 116, 32, 57] : By)] (some ⟨w.heap.size, 0, none⟩) 2 2 _ ((Sl.blk w #[.string (ba ([35, 32, 104, 101, 10, 32, 102, 111, 108, 100, 32, 10, 119, 111, 114, 100, 32, 34, 97, 92, 48, 97, 92, 50, 50, 34, 10] : By)), .string (ba ([10, 112, 105, 99, 107, 32, 49, 32, 45, 50, 10, 112, 105, 99, 107, 32, 51, 10, 112, 108, 97, 110, 32, 114, 111, 117, 110, 100, 32, 55, 32, 45, 49, 10, 109, 111, 115, 116, 32, 57] : By))] 9 (n := 2) (xs := svb [([35, 32, 104, 101, 10, 32, 102, 111, 108, 100, 32, 10, 119, 111, 114, 100, 32, 34, 97, 92, 48, 97, 92, 50, 50, 34, 10] : By), ([10, 112, 105, 99, 107, 32, 49, 32, 45, 50, 10, 112, 105, 99, 107, 32, 51, 10, 112, 108, 97, 110, 32, 114, 111, 117, 110, 100, 32, 55, 32, 45, 49, 10, 109, 111, 115, 116, 32, 57] : By)]) rfl ⟨rfl, by decide⟩).mono fun q hq => by rw [hq]; unfold InW; rw [World.size_alloc]; omega) (by decide) (by decide +kernel) (hg.frm ((Frm.refl (fun _ => False) w).alloc _))
  have hA1 : Frm (fun _ => False) w _ := (Frm.refl (fun _ => False) w).alloc (.cells #[.string (ba ([35, 32, 104, 101, 10, 32, 102, 111, 108, 100, 32, 10, 119, 111, 114, 100, 32, 34, 97, 92, 48, 97, 92, 50, 50, 34, 10] : By)), .string (ba ([10, 112, 105, 99, 107, 32, 49, 32, 45, 50, 10, 112, 105, 99, 107, 32, 51, 10, 112, 108, 97, 110, 32, 114, 111, 117, 110, 100, 32, 55, 32, 45, 49, 10, 109, 111, 115, 116, 32, 57] : By))] 9)
  have hA1' : Frm (fun _ => False) w _ := (Frm.refl (fun _ => False) w).alloc (.cells #[.string (ba ([35, 32, 104, 101, 10, 32, 102, 111, 108, 100, 32, 10, 119, 111, 114, 100, 32, 34, 97, 92, 48, 97, 92, 50, 50, 34, 10] : By)), .string (ba ([10, 112, 105, 99, 107, 32, 49, 32, 45, 50, 10, 112, 105, 99, 107, 32, 51, 10, 112, 108, 97, 110, 32, 114, 111, 117, 110, 100, 32, 55, 32, 45, 49, 10, 109, 111, 115, 116, 32, 57] : By))] 9)
  refine h1.mono ?_
  rintro e V1 ⟨hF, hP⟩
  rw [show parseB ([([35, 32, 104, 101, 10, 32, 102, 111, 108, 100, 32, 10, 119, 111, 114, 100, 32, 34, 97, 92, 48, 97, 92, 50, 50, 34, 10] : By), ([10, 112, 105, 99, 107, 32, 49, 32, 45, 50, 10, 112, 105, 99, 107, 32, 51, 10, 112, 108, 97, 110, 32, 114, 111, 117, 110, 100, 32, 55, 32, 45, 49, 10, 109, 111, 115, 116, 32, 57] : By)] : List By).flatten = .ok wkS from by rw [parseF_eq]; decide +kernel] at hP
  obtain ⟨wv1, rv1, av1, pv1, rfl, hL1⟩ := hP
  obtain ⟨C1, hC1⟩ : ∃ C, C = stCells wkS wv1 rv1 av1 pv1 := ⟨_, rfl⟩
  rw [← hC1]
  have hV1 : Frm (fun _ => False) w V1 := hA1.trans' hF
  have hV1' : Frm (fun _ => False) w V1 := hA1'.trans' hF
  clear hA1 hA1' hF h1
  rename_i K hK
  refine hK _ _ ?_
  clear hK
  refine wpList_valT rfl (some 26) rfl (v := .tuple #[.agg C1, .int .i64 0, .int .i64 0]) (w' := V1) (by simp [go_sem, execOp]) ?_
  refine wpList_valT rfl (some 29) rfl (v := .agg C1) (w' := V1) (by simp [go_sem, execOp]) ?_
  refine wpList_valT rfl (some 30) rfl (v := .int .i64 0) (w' := V1) (by simp [go_sem, execOp]) ?_
  refine wpList_valT rfl (some 31) rfl (v := .int .i64 0) (w' := V1) (by simp [go_sem, execOp]) ?_
  refine wpList_valT rfl (some 1) rfl (v := .pointer (some ⟨V1.heap.size, 0, none⟩)) (w' := V1.alloc (.cells zeroC 33)) (by simp [go_sem, execOp, zeroC, stCells, zeroSt]) ?_
  have hB1 := Blk.new V1 33 zeroC
  have hX1 : Frm (fun _ => False) V1 (V1.alloc (.cells zeroC 33)) := (Frm.refl _ V1).alloc _
  obtain ⟨g1, hg1⟩ : ∃ g, g = V1.heap.size := ⟨_, rfl⟩
  rw [← hg1] at hB1 ⊢
  generalize V1.alloc (.cells zeroC 33) = U1 at *
  simp only [Act.put, List.setIfInBounds_toArray, List.set_cons_succ, List.set_cons_zero]
  refine wpList_store_rowT rfl 33 (.tmp 1) (.tmp 29) rfl rfl g1 C1 rfl rfl _ _ hB1 (by rw [hC1]; exact st_info) (by rw [hC1] <;> rfl) (by rw [hC1]; exact hL1.one) ?_
  have hY1 : Frm (fun _ => False) V1 (U1.setRow g1 C1) := hX1.trans (K' := fun q => q = g1) ((Frm.refl (fun q => q = g1) U1).setRow (.inl rfl) _) fun q hq => .inr (by omega)
  have hD1 : Blk (U1.setRow g1 C1) g1 33 C1 := hB1.setRow _
  generalize U1.setRow g1 C1 = W1 at *
  have hW1 : Frm (fun _ => False) w W1 := hV1.trans' hY1
  have hW1' : Frm (fun _ => False) w W1 := hV1'.trans' hY1
  have H1 := Lib.hid (And.intro hD1 (And.intro hW1 (And.intro hW1' (And.intro hC1 (And.intro (hL1.keptF hY1) hg1)))))
  clear hX1 hB1 hY1 hD1 hV1 hV1' hg1 hC1 hW1 hW1' hL1
  go_wp2_with fail
  have h2 := parseL_any [([102, 111, 108, 100, 10, 10, 119, 111, 114, 100, 32, 34, 97, 92, 48, 97, 34, 34] : By)] (some ⟨W1.heap.size, 0, none⟩) 1 1 _ ((Sl.blk W1 #[.string (ba ([102, 111, 108, 100, 10, 10, 119, 111, 114, 100, 32, 34, 97, 92, 48, 97, 34, 34] : By))] 9 (n := 1) (xs := svb [([102, 111, 108, 100, 10, 10, 119, 111, 114, 100, 32, 34, 97, 92, 48, 97, 34, 34] : By)]) rfl ⟨rfl, by decide⟩).mono fun q hq => by rw [hq]; unfold InW; rw [World.size_alloc]; omega) (by decide) (by decide +kernel) (hg.frm (H1.out.2.1.alloc _))
  have hA2 : Frm (fun _ => False) w _ := H1.out.2.1.alloc (.cells #[.string (ba ([102, 111, 108, 100, 10, 10, 119, 111, 114, 100, 32, 34, 97, 92, 48, 97, 34, 34] : By))] 9)
  have hA2' : Frm (fun _ => False) W1 _ := (Frm.refl (fun _ => False) W1).alloc (.cells #[.string (ba ([102, 111, 108, 100, 10, 10, 119, 111, 114, 100, 32, 34, 97, 92, 48, 97, 34, 34] : By))] 9)
  refine h2.mono ?_
  rintro e V2 ⟨hF, hP⟩
  rw [show parseB ([([102, 111, 108, 100, 10, 10, 119, 111, 114, 100, 32, 34, 97, 92, 48, 97, 34, 34] : By)] : List By).flatten = .line 3 from by rw [parseF_eq]; decide +kernel] at hP
  have hP' : e = .returned (.tuple #[.agg zeroC, .int .i64 3, .int .i64 300]) := hP
  subst hP'
  obtain ⟨C2, hC2⟩ : ∃ C, C = zeroC := ⟨_, rfl⟩
  rw [← hC2]
  have hV2 : Frm (fun _ => False) w V2 := hA2.trans' hF
  have hV2' : Frm (fun _ => False) W1 V2 := hA2'.trans' hF
  clear hA2 hA2' hF h2 hP
  rename_i K hK
  refine hK _ _ ?_
  clear hK
  refine wpList_valT rfl (some 32) rfl (v := .tuple #[.agg C2, .int .i64 3, .int .i64 300]) (w' := V2) (by simp [go_sem, execOp]) ?_
  refine wpList_valT rfl (some 35) rfl (v := .agg C2) (w' := V2) (by simp [go_sem, execOp]) ?_
  refine wpList_valT rfl (some 36) rfl (v := .int .i64 3) (w' := V2) (by simp [go_sem, execOp]) ?_
  refine wpList_valT rfl (some 37) rfl (v := .int .i64 300) (w' := V2) (by simp [go_sem, execOp]) ?_
  refine wpList_valT rfl (some 4) rfl (v := .pointer (some ⟨V2.heap.size, 0, none⟩)) (w' := V2.alloc (.cells zeroC 33)) (by simp [go_sem, execOp, zeroC, stCells, zeroSt]) ?_
  have hB2 := Blk.new V2 33 zeroC
  have hX2 : Frm (fun _ => False) V2 (V2.alloc (.cells zeroC 33)) := (Frm.refl _ V2).alloc _
  obtain ⟨g2, hg2⟩ : ∃ g, g = V2.heap.size := ⟨_, rfl⟩
  rw [← hg2] at hB2 ⊢
  generalize V2.alloc (.cells zeroC 33) = U2 at *
  simp only [Act.put, List.setIfInBounds_toArray, List.set_cons_succ, List.set_cons_zero]
  refine wpList_store_rowT rfl 33 (.tmp 4) (.tmp 35) rfl rfl g2 C2 rfl rfl _ _ hB2 (by rw [hC2]; exact st_info) (by rw [hC2] <;> rfl) (by rw [hC2]; exact stCells_one ⟨rfl, rfl, rfl, rfl⟩) ?_
  have hY2 : Frm (fun _ => False) V2 (U2.setRow g2 C2) := hX2.trans (K' := fun q => q = g2) ((Frm.refl (fun q => q = g2) U2).setRow (.inl rfl) _) fun q hq => .inr (by omega)
  have hD2 : Blk (U2.setRow g2 C2) g2 33 C2 := hB2.setRow _
  generalize U2.setRow g2 C2 = W2 at *
  have hW2 : Frm (fun _ => False) w W2 := hV2.trans' hY2
  have hW2' : Frm (fun _ => False) W1 W2 := hV2'.trans' hY2
  have H2 := Lib.hid (And.intro hD2 (And.intro hW2 (And.intro hW2' (And.intro hC2 hg2))))
  clear hX2 hB2 hY2 hD2 hV2 hV2' hg2 hC2 hW2 hW2'
  go_wp2_with fail
  have h3 := parseL_any [([112, 105, 99, 107] : By)] (some ⟨W2.heap.size, 0, none⟩) 1 1 _ ((Sl.blk W2 #[.string (ba ([112, 105, 99, 107] : By))] 9 (n := 1) (xs := svb [([112, 105, 99, 107] : By)]) rfl ⟨rfl, by decide⟩).mono fun q hq => by rw [hq]; unfold InW; rw [World.size_alloc]; omega) (by decide) (by decide +kernel) (hg.frm (H2.out.2.1.alloc _))
  have hA3 : Frm (fun _ => False) w _ := H2.out.2.1.alloc (.cells #[.string (ba ([112, 105, 99, 107] : By))] 9)
  have hA3' : Frm (fun _ => False) W2 _ := (Frm.refl (fun _ => False) W2).alloc (.cells #[.string (ba ([112, 105, 99, 107] : By))] 9)
  refine h3.mono ?_
  rintro e V3 ⟨hF, hP⟩
  rw [show parseB ([([112, 105, 99, 107] : By)] : List By).flatten = .line 1 from by rw [parseF_eq]; decide +kernel] at hP
  have hP' : e = .returned (.tuple #[.agg zeroC, .int .i64 1, .int .i64 300]) := hP
  subst hP'
  obtain ⟨C3, hC3⟩ : ∃ C, C = zeroC := ⟨_, rfl⟩
  rw [← hC3]
  have hV3 : Frm (fun _ => False) w V3 := hA3.trans' hF
  have hV3' : Frm (fun _ => False) W2 V3 := hA3'.trans' hF
  clear hA3 hA3' hF h3 hP
  rename_i K hK
  refine hK _ _ ?_
  clear hK
  refine wpList_valT rfl (some 38) rfl (v := .tuple #[.agg C3, .int .i64 1, .int .i64 300]) (w' := V3) (by simp [go_sem, execOp]) ?_
  refine wpList_valT rfl (some 41) rfl (v := .agg C3) (w' := V3) (by simp [go_sem, execOp]) ?_
  refine wpList_valT rfl (some 42) rfl (v := .int .i64 1) (w' := V3) (by simp [go_sem, execOp]) ?_
  refine wpList_valT rfl (some 43) rfl (v := .int .i64 300) (w' := V3) (by simp [go_sem, execOp]) ?_
  refine wpList_valT rfl (some 7) rfl (v := .pointer (some ⟨V3.heap.size, 0, none⟩)) (w' := V3.alloc (.cells zeroC 33)) (by simp [go_sem, execOp, zeroC, stCells, zeroSt]) ?_
  have hB3 := Blk.new V3 33 zeroC
  have hX3 : Frm (fun _ => False) V3 (V3.alloc (.cells zeroC 33)) := (Frm.refl _ V3).alloc _
  obtain ⟨g3, hg3⟩ : ∃ g, g = V3.heap.size := ⟨_, rfl⟩
  rw [← hg3] at hB3 ⊢
  generalize V3.alloc (.cells zeroC 33) = U3 at *
  simp only [Act.put, List.setIfInBounds_toArray, List.set_cons_succ, List.set_cons_zero]
  refine wpList_store_rowT rfl 33 (.tmp 7) (.tmp 41) rfl rfl g3 C3 rfl rfl _ _ hB3 (by rw [hC3]; exact st_info) (by rw [hC3] <;> rfl) (by rw [hC3]; exact stCells_one ⟨rfl, rfl, rfl, rfl⟩) ?_
  have hY3 : Frm (fun _ => False) V3 (U3.setRow g3 C3) := hX3.trans (K' := fun q => q = g3) ((Frm.refl (fun q => q = g3) U3).setRow (.inl rfl) _) fun q hq => .inr (by omega)
  have hD3 : Blk (U3.setRow g3 C3) g3 33 C3 := hB3.setRow _
  generalize U3.setRow g3 C3 = W3 at *
  have hW3 : Frm (fun _ => False) w W3 := hV3.trans' hY3
  have hW3' : Frm (fun _ => False) W2 W3 := hV3'.trans' hY3
  have H3 := Lib.hid (And.intro hD3 (And.intro hW3 (And.intro hW3' (And.intro hC3 hg3))))
  clear hX3 hB3 hY3 hD3 hV3 hV3' hg3 hC3 hW3 hW3'
  go_wp2_with fail
  have h4 := parseL_any [([112, 105, 99, 107, 32, 48, 49] : By)] (some ⟨W3.heap.size, 0, none⟩) 1 1 _ ((Sl.blk W3 #[.string (ba ([112, 105, 99, 107, 32, 48, 49] : By))] 9 (n := 1) (xs := svb [([112, 105, 99, 107, 32, 48, 49] : By)]) rfl ⟨rfl, by decide⟩).mono fun q hq => by rw [hq]; unfold InW; rw [World.size_alloc]; omega) (by decide) (by decide +kernel) (hg.frm (H3.out.2.1.alloc _))
  have hA4 : Frm (fun _ => False) w _ := H3.out.2.1.alloc (.cells #[.string (ba ([112, 105, 99, 107, 32, 48, 49] : By))] 9)
  have hA4' : Frm (fun _ => False) W3 _ := (Frm.refl (fun _ => False) W3).alloc (.cells #[.string (ba ([112, 105, 99, 107, 32, 48, 49] : By))] 9)
  refine h4.mono ?_
  rintro e V4 ⟨hF, hP⟩
  rw [show parseB ([([112, 105, 99, 107, 32, 48, 49] : By)] : List By).flatten = .line 1 from by rw [parseF_eq]; decide +kernel] at hP
  have hP' : e = .returned (.tuple #[.agg zeroC, .int .i64 1, .int .i64 300]) := hP
  subst hP'
  obtain ⟨C4, hC4⟩ : ∃ C, C = zeroC := ⟨_, rfl⟩
  rw [← hC4]
  have hV4 : Frm (fun _ => False) w V4 := hA4.trans' hF
  have hV4' : Frm (fun _ => False) W3 V4 := hA4'.trans' hF
  clear hA4 hA4' hF h4 hP
  rename_i K hK
  refine hK _ _ ?_
  clear hK
  refine wpList_valT rfl (some 44) rfl (v := .tuple #[.agg C4, .int .i64 1, .int .i64 300]) (w' := V4) (by simp [go_sem, execOp]) ?_
  refine wpList_valT rfl (some 47) rfl (v := .agg C4) (w' := V4) (by simp [go_sem, execOp]) ?_
  refine wpList_valT rfl (some 48) rfl (v := .int .i64 1) (w' := V4) (by simp [go_sem, execOp]) ?_
  refine wpList_valT rfl (some 49) rfl (v := .int .i64 300) (w' := V4) (by simp [go_sem, execOp]) ?_
  refine wpList_valT rfl (some 10) rfl (v := .pointer (some ⟨V4.heap.size, 0, none⟩)) (w' := V4.alloc (.cells zeroC 33)) (by simp [go_sem, execOp, zeroC, stCells, zeroSt]) ?_
  have hB4 := Blk.new V4 33 zeroC
  have hX4 : Frm (fun _ => False) V4 (V4.alloc (.cells zeroC 33)) := (Frm.refl _ V4).alloc _
  obtain ⟨g4, hg4⟩ : ∃ g, g = V4.heap.size := ⟨_, rfl⟩
  rw [← hg4] at hB4 ⊢
  generalize V4.alloc (.cells zeroC 33) = U4 at *
  simp only [Act.put, List.setIfInBounds_toArray, List.set_cons_succ, List.set_cons_zero]
  refine wpList_store_rowT rfl 33 (.tmp 10) (.tmp 47) rfl rfl g4 C4 rfl rfl _ _ hB4 (by rw [hC4]; exact st_info) (by rw [hC4] <;> rfl) (by rw [hC4]; exact stCells_one ⟨rfl, rfl, rfl, rfl⟩) ?_
  have hY4 : Frm (fun _ => False) V4 (U4.setRow g4 C4) := hX4.trans (K' := fun q => q = g4) ((Frm.refl (fun q => q = g4) U4).setRow (.inl rfl) _) fun q hq => .inr (by omega)
  have hD4 : Blk (U4.setRow g4 C4) g4 33 C4 := hB4.setRow _
  generalize U4.setRow g4 C4 = W4 at *
  have hW4 : Frm (fun _ => False) w W4 := hV4.trans' hY4
  have hW4' : Frm (fun _ => False) W3 W4 := hV4'.trans' hY4
  have H4 := Lib.hid (And.intro hD4 (And.intro hW4 (And.intro hW4' (And.intro hC4 hg4))))
  clear hX4 hB4 hY4 hD4 hV4 hV4' hg4 hC4 hW4 hW4'
  go_wp2_with fail
  have h5 := parseL_any [([112, 105, 99, 107, 32, 45, 48] : By)] (some ⟨W4.heap.size, 0, none⟩) 1 1 _ ((Sl.blk W4 #[.string (ba ([112, 105, 99, 107, 32, 45, 48] : By))] 9 (n := 1) (xs := svb [([112, 105, 99, 107, 32, 45, 48] : By)]) rfl ⟨rfl, by decide⟩).mono fun q hq => by rw [hq]; unfold InW; rw [World.size_alloc]; omega) (by decide) (by decide +kernel) (hg.frm (H4.out.2.1.alloc _))
  have hA5 : Frm (fun _ => False) w _ := H4.out.2.1.alloc (.cells #[.string (ba ([112, 105, 99, 107, 32, 45, 48] : By))] 9)
  have hA5' : Frm (fun _ => False) W4 _ := (Frm.refl (fun _ => False) W4).alloc (.cells #[.string (ba ([112, 105, 99, 107, 32, 45, 48] : By))] 9)
  refine h5.mono ?_
  rintro e V5 ⟨hF, hP⟩
  rw [show parseB ([([112, 105, 99, 107, 32, 45, 48] : By)] : List By).flatten = .line 1 from by rw [parseF_eq]; decide +kernel] at hP
  have hP' : e = .returned (.tuple #[.agg zeroC, .int .i64 1, .int .i64 300]) := hP
  subst hP'
  obtain ⟨C5, hC5⟩ : ∃ C, C = zeroC := ⟨_, rfl⟩
  rw [← hC5]
  have hV5 : Frm (fun _ => False) w V5 := hA5.trans' hF
  have hV5' : Frm (fun _ => False) W4 V5 := hA5'.trans' hF
  clear hA5 hA5' hF h5 hP
  rename_i K hK
  refine hK _ _ ?_
  clear hK
  refine wpList_valT rfl (some 50) rfl (v := .tuple #[.agg C5, .int .i64 1, .int .i64 300]) (w' := V5) (by simp [go_sem, execOp]) ?_
  refine wpList_valT rfl (some 53) rfl (v := .agg C5) (w' := V5) (by simp [go_sem, execOp]) ?_
  refine wpList_valT rfl (some 54) rfl (v := .int .i64 1) (w' := V5) (by simp [go_sem, execOp]) ?_
  refine wpList_valT rfl (some 55) rfl (v := .int .i64 300) (w' := V5) (by simp [go_sem, execOp]) ?_
  refine wpList_valT rfl (some 13) rfl (v := .pointer (some ⟨V5.heap.size, 0, none⟩)) (w' := V5.alloc (.cells zeroC 33)) (by simp [go_sem, execOp, zeroC, stCells, zeroSt]) ?_
  have hB5 := Blk.new V5 33 zeroC
  have hX5 : Frm (fun _ => False) V5 (V5.alloc (.cells zeroC 33)) := (Frm.refl _ V5).alloc _
  obtain ⟨g5, hg5⟩ : ∃ g, g = V5.heap.size := ⟨_, rfl⟩
  rw [← hg5] at hB5 ⊢
  generalize V5.alloc (.cells zeroC 33) = U5 at *
  simp only [Act.put, List.setIfInBounds_toArray, List.set_cons_succ, List.set_cons_zero]
  refine wpList_store_rowT rfl 33 (.tmp 13) (.tmp 53) rfl rfl g5 C5 rfl rfl _ _ hB5 (by rw [hC5]; exact st_info) (by rw [hC5] <;> rfl) (by rw [hC5]; exact stCells_one ⟨rfl, rfl, rfl, rfl⟩) ?_
  have hY5 : Frm (fun _ => False) V5 (U5.setRow g5 C5) := hX5.trans (K' := fun q => q = g5) ((Frm.refl (fun q => q = g5) U5).setRow (.inl rfl) _) fun q hq => .inr (by omega)
  have hD5 : Blk (U5.setRow g5 C5) g5 33 C5 := hB5.setRow _
  generalize U5.setRow g5 C5 = W5 at *
  have hW5 : Frm (fun _ => False) w W5 := hV5.trans' hY5
  have hW5' : Frm (fun _ => False) W4 W5 := hV5'.trans' hY5
  have H5 := Lib.hid (And.intro hD5 (And.intro hW5 (And.intro hW5' (And.intro hC5 hg5))))
  clear hX5 hB5 hY5 hD5 hV5 hV5' hg5 hC5 hW5 hW5'
  go_wp2_with fail
  have h6 := parseL_any [] none 0 0 W5 (Sl.nil_ _ _) (by decide) (by decide) (hg.frm H5.out.2.1)
  have hA6 : Frm (fun _ => False) w _ := H5.out.2.1
  have hA6' : Frm (fun _ => False) W5 _ := Frm.refl _ _
  refine h6.mono ?_
  rintro e V6 ⟨hF, hP⟩
  rw [show parseB ([] : List By).flatten = .ok newSt from by rw [parseF_eq]; decide +kernel] at hP
  obtain ⟨wv6, rv6, av6, pv6, rfl, hL6⟩ := hP
  obtain ⟨C6, hC6⟩ : ∃ C, C = stCells newSt wv6 rv6 av6 pv6 := ⟨_, rfl⟩
  rw [← hC6]
  have hV6 : Frm (fun _ => False) w V6 := hA6.trans' hF
  have hV6' : Frm (fun _ => False) W5 V6 := hA6'.trans' hF
  clear hA6 hA6' hF h6
  rename_i K hK
  refine hK _ _ ?_
  clear hK
  refine wpList_valT rfl (some 56) rfl (v := .tuple #[.agg C6, .int .i64 0, .int .i64 0]) (w' := V6) (by simp [go_sem, execOp]) ?_
  refine wpList_valT rfl (some 58) rfl (v := .agg C6) (w' := V6) (by simp [go_sem, execOp]) ?_
  refine wpList_valT rfl (some 59) rfl (v := .int .i64 0) (w' := V6) (by simp [go_sem, execOp]) ?_
  refine wpList_valT rfl (some 60) rfl (v := .int .i64 0) (w' := V6) (by simp [go_sem, execOp]) ?_
  refine wpList_valT rfl (some 16) rfl (v := .pointer (some ⟨V6.heap.size, 0, none⟩)) (w' := V6.alloc (.cells zeroC 33)) (by simp [go_sem, execOp, zeroC, stCells, zeroSt]) ?_
  have hB6 := Blk.new V6 33 zeroC
  have hX6 : Frm (fun _ => False) V6 (V6.alloc (.cells zeroC 33)) := (Frm.refl _ V6).alloc _
  obtain ⟨g6, hg6⟩ : ∃ g, g = V6.heap.size := ⟨_, rfl⟩
  rw [← hg6] at hB6 ⊢
  generalize V6.alloc (.cells zeroC 33) = U6 at *
  simp only [Act.put, List.setIfInBounds_toArray, List.set_cons_succ, List.set_cons_zero]
  refine wpList_store_rowT rfl 33 (.tmp 16) (.tmp 58) rfl rfl g6 C6 rfl rfl _ _ hB6 (by rw [hC6]; exact st_info) (by rw [hC6] <;> rfl) (by rw [hC6]; exact hL6.one) ?_
  have hY6 : Frm (fun _ => False) V6 (U6.setRow g6 C6) := hX6.trans (K' := fun q => q = g6) ((Frm.refl (fun q => q = g6) U6).setRow (.inl rfl) _) fun q hq => .inr (by omega)
  have hD6 : Blk (U6.setRow g6 C6) g6 33 C6 := hB6.setRow _
  generalize U6.setRow g6 C6 = W6 at *
  have hW6 : Frm (fun _ => False) w W6 := hV6.trans' hY6
  have hW6' : Frm (fun _ => False) W5 W6 := hV6'.trans' hY6
  have H6 := Lib.hid (And.intro hD6 (And.intro hW6 (And.intro hW6' (And.intro hC6 (And.intro (hL6.keptF hY6) hg6)))))
  clear hX6 hB6 hY6 hD6 hV6 hV6' hg6 hC6 hW6 hW6' hL6
  go_upto_region 7 with fail
  have hb1 : Blk W6 g1 33 C1 := ((((H1.out.1.kept H2.out.2.2.1 id).kept H3.out.2.2.1 id).kept H4.out.2.2.1 id).kept H5.out.2.2.1 id).kept H6.out.2.2.1 id
  have hF16 : Frm (fun _ => False) W1 W6 := (((H2.out.2.2.1.trans' H3.out.2.2.1).trans' H4.out.2.2.1).trans' H5.out.2.2.1).trans' H6.out.2.2.1
  have hL1 := H1.out.2.2.2.2.1.keptF hF16
  have hp7 := print_any wkS wv1 rv1 av1 pv1 W6 (hL1.read fun _ _ h => h) wkS_ok (hg.frm H6.out.2.1)
  rw [← H1.out.2.2.2.1] at hp7
  have HB1 := Lib.hid (And.intro hb1 hL1)
  have hi1 : (Tryz.prog.info? 33).map (·.size) = some C1.size := by rw [H1.out.2.2.2.1]; exact st_info
  clear hb1 hF16 hL1
  go_wp2_with (refine wpList_loadT (by rfl) 33 (.tmp 1) (by rfl) g1 (by rfl) C1 _ _ HB1.out.1 Tryz.underlying33 (by rfl) hi1 ?_)
  refine hp7.mono ?_
  rintro e W7 ⟨hF7, hP⟩
  rw [wk7] at hP
  have hP' : e = .returned (.tuple #[.string (ba wkP), .int .i64 0]) := hP
  subst hP'
  have H7 := Lib.hid (And.intro (H6.out.2.1.trans' hF7) hF7)
  clear hF7 hP hp7
  obtain ⟨SP, hSP⟩ : ∃ SP, SP = ba wkP := ⟨_, rfl⟩
  rw [← hSP]
  have HSP := Lib.hid hSP
  clear hSP
  go_wp2_with fail
  have hp8 := print_any wkZ (.slice none 0 0) (.slice none 0 0) (.slice none 0 0) (.slice none 0 0) W7 (LsR.nil _ _ wkZ rfl rfl rfl rfl) wkZ_ok (hg.frm H7.out.1)
  refine hp8.mono ?_
  rintro e W8 ⟨hF8, hP⟩
  rw [wk8] at hP
  have hP' : e = .returned (.tuple #[.string { data := #[] }, .int .i64 2]) := hP
  subst hP'
  have H8 := Lib.hid (And.intro (H7.out.1.trans' hF8) hF8)
  clear hF8 hP hp8
  go_wp2_with fail
  have h9 := parseL_any [wkP] (some ⟨W8.heap.size, 0, none⟩) 1 1 _ ((Sl.blk W8 #[.string (ba wkP)] 9 (n := 1) (xs := svb [wkP]) rfl ⟨rfl, by decide⟩).mono fun q hq => by rw [hq]; unfold InW; rw [World.size_alloc]; omega) (by decide) (by decide +kernel) (hg.frm (H8.out.1.alloc _))
  have hA9 : Frm (fun _ => False) w _ := H8.out.1.alloc (.cells #[.string (ba wkP)] 9)
  have hA9' : Frm (fun _ => False) W8 _ := (Frm.refl (fun _ => False) W8).alloc (.cells #[.string (ba wkP)] 9)
  rw [← HSP.out] at h9 hA9 hA9'
  refine h9.mono ?_
  rintro e V9 ⟨hF, hP⟩
  rw [show parseB ([wkP] : List By).flatten = .ok wkS from by rw [parseF_eq]; decide +kernel] at hP
  obtain ⟨wv9, rv9, av9, pv9, rfl, hL9⟩ := hP
  obtain ⟨C9, hC9⟩ : ∃ C, C = stCells wkS wv9 rv9 av9 pv9 := ⟨_, rfl⟩
  rw [← hC9]
  have hV9 : Frm (fun _ => False) w V9 := hA9.trans' hF
  have hV9' : Frm (fun _ => False) W8 V9 := hA9'.trans' hF
  clear hA9 hA9' hF h9
  rename_i K hK
  refine hK _ _ ?_
  clear hK
  refine wpList_valT rfl (some 73) rfl (v := .tuple #[.agg C9, .int .i64 0, .int .i64 0]) (w' := V9) (by simp [go_sem, execOp]) ?_
  refine wpList_valT rfl (some 77) rfl (v := .agg C9) (w' := V9) (by simp [go_sem, execOp]) ?_
  refine wpList_valT rfl (some 78) rfl (v := .int .i64 0) (w' := V9) (by simp [go_sem, execOp]) ?_
  refine wpList_valT rfl (some 79) rfl (v := .int .i64 0) (w' := V9) (by simp [go_sem, execOp]) ?_
  refine wpList_valT rfl (some 23) rfl (v := .pointer (some ⟨V9.heap.size, 0, none⟩)) (w' := V9.alloc (.cells zeroC 33)) (by simp [go_sem, execOp, zeroC, stCells, zeroSt]) ?_
  have hB9 := Blk.new V9 33 zeroC
  have hX9 : Frm (fun _ => False) V9 (V9.alloc (.cells zeroC 33)) := (Frm.refl _ V9).alloc _
  obtain ⟨g9, hg9⟩ : ∃ g, g = V9.heap.size := ⟨_, rfl⟩
  rw [← hg9] at hB9 ⊢
  generalize V9.alloc (.cells zeroC 33) = U9 at *
  simp only [Act.put, List.setIfInBounds_toArray, List.set_cons_succ, List.set_cons_zero]
  refine wpList_store_rowT rfl 33 (.tmp 23) (.tmp 77) rfl rfl g9 C9 rfl rfl _ _ hB9 (by rw [hC9]; exact st_info) (by rw [hC9] <;> rfl) (by rw [hC9]; exact hL9.one) ?_
  have hY9 : Frm (fun _ => False) V9 (U9.setRow g9 C9) := hX9.trans (K' := fun q => q = g9) ((Frm.refl (fun q => q = g9) U9).setRow (.inl rfl) _) fun q hq => .inr (by omega)
  have hD9 : Blk (U9.setRow g9 C9) g9 33 C9 := hB9.setRow _
  generalize U9.setRow g9 C9 = W9 at *
  have hW9 : Frm (fun _ => False) w W9 := hV9.trans' hY9
  have hW9' : Frm (fun _ => False) W8 W9 := hV9'.trans' hY9
  have H9 := Lib.hid (And.intro hD9 (And.intro hW9 (And.intro hW9' (And.intro hC9 (And.intro (hL9.keptF hY9) hg9)))))
  clear hX9 hB9 hY9 hD9 hV9 hV9' hg9 hC9 hW9 hW9' hL9
  obtain ⟨A1, c1, e1⟩ := HB1.out.2.words.form
  obtain ⟨A4, c4, e4, -, -⟩ := own_form HB1.out.2.picks
  have hFz : Frm (fun _ => False) W6 W9 := (H7.out.2.trans' H8.out.2).trans' H9.out.2.2.1
  have hb1 := HB1.out.1.kept hFz id
  have hL1 := (HB1.out.2.keptF hFz).read (K := InW W9) fun _ _ h => h
  have hb6 := H6.out.1.kept hFz id
  have hL6 : LsR W9 (InW W9) newSt wv6 rv6 av6 pv6 := (H6.out.2.2.2.2.1.keptF hFz).read fun _ _ h => h
  have hL9 : LsR W9 (InW W9) wkS wv9 rv9 av9 pv9 := H9.out.2.2.2.2.1.read fun _ _ h => h
  have hs1 := same_any wkS wkS wv9 rv9 av9 pv9 wv1 rv1 av1 pv1 W9 hL9 hL1 rfl rfl
  have hs2 := fun W (hF : Frm (fun _ => False) W9 W) => same_any wkS newSt wv1 rv1 av1 pv1 wv6 rv6 av6 pv6 W (hL1.kept hF) (hL6.kept hF) rfl rfl
  rw [show decide (wkS = wkS) = true from by decide, ← H9.out.2.2.2.1, ← H1.out.2.2.2.1] at hs1
  rw [wk11, ← H1.out.2.2.2.1, ← H6.out.2.2.2.1] at hs2
  obtain ⟨u1, gw, ow, hA1, -, hcw, hu1⟩ := TxS.at_ (A := A1) (n := 1) (c := c1) (by have := hL1.words; rw [e1] at this; exact this) 0 (by decide)
  rw [Nat.add_zero] at hcw
  subst hA1
  obtain ⟨B1, m1, x1, e5, -⟩ := id hu1
  have hcv := run_conv (P := Tryz.prog) Tryz.underlying34 Tryz.underlying5 Tryz.underlying9 hu1
  rw [e5] at hcv hcw
  obtain ⟨gp, op, hA4, hcp⟩ : ∃ gp op, A4 = some ⟨gp, op, none⟩ ∧ W9.cell? ⟨gp, op + 1, none⟩ = some (.int .i64 (-2)) := by
    obtain ⟨A', n', c', e', h1, h2, h3, h4⟩ := hL1.picks
    rw [e4] at e'
    cases e'
    obtain ⟨g, o, rfl, -, hc⟩ := h4.resolve_left (by decide)
    exact ⟨g, o, rfl, hc 1 (by decide)⟩
  subst hA4
  have d0 : W9.cell? ⟨g1, 0, none⟩ = some (.bool true) := by rw [hb1.cell, H1.out.2.2.2.1]; rfl
  have d1 : W9.cell? ⟨g1, 1, none⟩ = some (.slice (some ⟨gw, ow, none⟩) 1 c1) := by rw [hb1.cell, H1.out.2.2.2.1, e1]; rfl
  have d12 : W9.cell? ⟨g1, 12, none⟩ = some (.slice (some ⟨gp, op, none⟩) 3 c4) := by rw [hb1.cell, H1.out.2.2.2.1, e4]; rfl
  have d13 : W9.cell? ⟨g1, 13, none⟩ = some (.int .u8 3) := by rw [hb1.cell, H1.out.2.2.2.1]; rfl
  have d14 : W9.cell? ⟨g1, 14, none⟩ = some (.int .u32 7) := by rw [hb1.cell, H1.out.2.2.2.1]; rfl
  have d15 : W9.cell? ⟨g1, 15, none⟩ = some (.int .i64 (-1)) := by rw [hb1.cell, H1.out.2.2.2.1]; rfl
  have d16 : W9.cell? ⟨g1, 16, none⟩ = some (.int .i64 (-1)) := by rw [hb1.cell, H1.out.2.2.2.1]; rfl
  have d17 : W9.cell? ⟨g1, 17, none⟩ = some (.int .i64 9) := by rw [hb1.cell, H1.out.2.2.2.1]; rfl
  have d6 : W9.cell? ⟨g6, 16, none⟩ = some (.int .i64 (-1)) := by rw [hb6.cell, H6.out.2.2.2.1]; rfl
  have hi9 : (Tryz.prog.info? 33).map (·.size) = some C9.size := by rw [H9.out.2.2.2.1]; exact st_info
  have hi6 : (Tryz.prog.info? 33).map (·.size) = some C6.size := by rw [H6.out.2.2.2.1]; exact st_info
  have HQ := Lib.hid (And.intro hs2 (And.intro hb1 hb6))
  have HI := Lib.hid (And.intro hi1 (And.intro hi6 hi9))
  clear hFz hb1 hL1 hb6 hL6 hL9 hs2 hu1 e1 e4 e5 hi9 hi6 hi1
  go_wp2_with (first | (refine wpList_loadT (by rfl) 33 (.tmp 23) (by rfl) g9 (by rfl) C9 _ _ H9.out.1 Tryz.underlying33 (by rfl) HI.out.2.2 ?_) | (refine wpList_loadT (by rfl) 33 (.tmp 1) (by rfl) g1 (by rfl) C1 _ _ HQ.out.2.1 Tryz.underlying33 (by rfl) HI.out.1 ?_))
  refine hs1.mono ?_
  rintro e W10 ⟨rfl, hF10⟩
  have hb1 := HQ.out.2.1.kept hF10 id
  have hb6 := HQ.out.2.2.kept hF10 id
  have hs2 := HQ.out.1 W10 hF10
  have HT := Lib.hid (And.intro hb1 (And.intro hb6 hF10))
  clear hs1 hb1 hb6 hF10 hcv hcw hcp d0 d1 d12 d13 d14 d15 d16 d17 d6
  go_wp2_with (first | (refine wpList_loadT (by rfl) 33 (.tmp 1) (by rfl) g1 (by rfl) C1 _ _ HT.out.1 Tryz.underlying33 (by rfl) HI.out.1 ?_) | (refine wpList_loadT (by rfl) 33 (.tmp 16) (by rfl) g6 (by rfl) C6 _ _ HT.out.2.1 Tryz.underlying33 (by rfl) HI.out.2.1 ?_))
  refine hs2.mono ?_
  rintro e W11 ⟨rfl, hF11⟩
  have hse : SP.toList = ([102, 111, 108, 100, 10, 119, 111, 114, 100, 32, 34, 97, 92, 48, 97, 92, 50, 50, 34, 10, 99, 111, 110, 102, 32, 48, 32, 48, 32, 48, 32, 48, 32, 48, 32, 48, 32, 48, 10, 112, 105, 99, 107, 32, 49, 32, 45, 50, 32, 51, 10, 112, 108, 97, 110, 32, 114, 111, 117, 110, 100, 32, 55, 32, 45, 49, 10, 99, 97, 110, 99, 101, 108, 32, 45, 49, 10, 109, 111, 115, 116, 32, 57, 10] : By) := by rw [HSP.out, ba_toList]; decide
  have HU := Lib.hid ((H9.out.2.1.trans' HT.out.2.2).trans' hF11)
  clear hs2 hF11
  have hcb : (convert 34 34 (.slice (some ⟨W11.heap.size, 0, none⟩) 2 2)).run Tryz.prog (W11.alloc (.cells #[.int .u8 127, .int .u8 126] 5)) = .ok (.slice (some ⟨W11.heap.size, 0, none⟩) 2 2) (W11.alloc (.cells #[.int .u8 127, .int .u8 126] 5 (2, 3))) := Lib.run_convert_bytes_const (P := Tryz.prog) W11 34 5 #[.int .u8 127, .int .u8 126] 2 2 Tryz.underlying34 Tryz.underlying5
  go_wp2_with fail
  have hsq : Sl (W11.alloc (.cells #[.int .u8 127, .int .u8 126] 5 (2, 3))) (InW (W11.alloc (.cells #[.int .u8 127, .int .u8 126] 5 (2, 3)))) (.slice (some ⟨W11.heap.size, 0, none⟩) 2 2) (bv [127, 126]) := ⟨_, _, _, rfl, rfl, Nat.le_refl _, by omega, .inr ⟨_, 0, rfl, by unfold InW; rw [World.size_alloc]; omega, fun i hi => by
    rw [cell_of_row _ _ _ #[.int .u8 127, .int .u8 126] 5 (2, 3) (heap_alloc_new W11 _)]
    match i, hi with
    | 0, _ => rfl
    | 1, _ => rfl⟩⟩
  have hq := quote_any (some ⟨W11.heap.size, 0, none⟩) 2 2 _ [127, 126] _ hsq (by decide) (fun _ h => h)
  rw [wk10, show ba [34, 92, 55, 102, 126, 34] = { data := #[34, 92, 55, 102, 126, 34] } from rfl] at hq
  refine hq.mono ?_
  rintro e W12 ⟨rfl, hF12⟩
  have HV := Lib.hid ((HU.out.alloc (.cells #[.int .u8 127, .int .u8 126] 5 (2, 3))).trans' hF12)
  clear hq hF12 hse hcb hsq
  go_wp2_with fail
  go_ret
  exact ⟨rfl, HV.out⟩
end Go.Proofs.YtpcdbkaeijhmfaaGreatDoor
