/- The walk of teaselref18.New. -/
import Derived.Test.YtkmammeaidfaaaaRf
import Derived.Deep.DeepCutAuto
import Derived.Deep.CutBlock
namespace Go.Proofs.Ytkmammeaidfaaaa
open Go.RowKit
/-- While New's loop runs: the three blocks, and the row of the call's own. -/
def RBeg (w : World) (b gu gd m size k : Nat) (wr : World) : Prop :=
  ∃ vr, Blk wr b 47 #[.int .i64 size, vr, .slice (some ⟨gu, 0, none⟩) m m, .slice (some ⟨gd, 0, none⟩) m m] ∧ Blk wr gu 4 (madeCells #[.bool false] m) ∧ Blk wr gd 32 (madeCells #[.slice none 0 0] m) ∧
    wr.ownsRow w.heap.size 3 1 vr k ((List.range k).map nv) ∧ (w.heap.size ≤ b ∧ w.heap.size ≤ gu ∧ w.heap.size ≤ gd) ∧ Frm (fun _ => False) w wr
theorem RBeg.done {w wr : World} {b gu gd m size : Nat} (h : RBeg w b gu gd m size m wr) (h1 : 1 ≤ m) (h2 : m ≤ 16) (h4 : size ≤ 288) : RAt wr (fun k => w.heap.size ≤ k ∧ k < wr.heap.size) b m size (List.range m) (List.replicate m false) (List.replicate m []) := by
  obtain ⟨vr, hb, hu, hd, ho, ⟨l1, l2, l3⟩, hF⟩ := h
  refine ⟨gu, gd, vr, List.replicate m (.slice none 0 0), hb, by rw [made_rep] at hu; simpa using hu, by rw [made_rep] at hd; exact hd, by simp, ?_, fun i v l hv hl => ?_, ⟨⟨l1, hb.lt⟩, ⟨l2, hu.lt⟩, ⟨l3, hd.lt⟩, fun k hk => hk.2⟩, h1, h2, h4, by simp, by simp⟩
  · exact (OSl.of_own (K := fun k => (w.heap.size ≤ k ∧ k < wr.heap.size) ∧ k ≠ b ∧ k ≠ gu ∧ k ≠ gd) (by simpa using ho) (fun g hg => ⟨ho.lt g hg, fun e => own_blk_ne ho hb (by decide) (e ▸ hg), fun e => own_blk_ne ho hu (by decide) (e ▸ hg), fun e => own_blk_ne ho hd (by decide) (e ▸ hg)⟩)).sl.mono fun k hk => hk.1
  · rw [List.getElem?_replicate] at hv hl
    split at hv
    · rename_i hi
      rw [if_pos hi] at hl
      cases hv; cases hl
      exact ⟨Sl.nil_ _ _, by simp⟩
    · cases hv
set_option maxHeartbeats 1000000 in
theorem rnew_ok (m size : Nat) (w : World) (h1 : 1 ≤ m) (h2 : m ≤ 16) (h3 : 1 ≤ size) (h4 : size ≤ 288) :
    Calls Try.prog 11 #[.int .i64 m, .int .i64 size] w fun e w' => ∃ b S, e = .returned (.pointer (some ⟨b, 0, none⟩)) ∧
      RAt w' S b m size (List.range m) (List.replicate m false) (List.replicate m []) ∧ (∀ k, S k → w.heap.size ≤ k) ∧ Frm (fun _ => False) w w' := by
  obtain ⟨i0, hi, hz0, hz1, hz2⟩ := info_parts infoBl
  obtain ⟨j0, hj, hy0, hy1, hy2⟩ := info_parts infoSl
  obtain ⟨k0, hk0, hx0, hx1, hx2⟩ := info_parts infoI
  have mkB : ∀ w : World, (Instr.makeSlice 44 (.int .i64 m) (.int .i64 m)).run Try.prog w = .ok (.slice (some ⟨w.heap.size, 0, none⟩) m m) (w.alloc (.cells (madeCells #[.bool false] m) 4)) := fun w => by
    have := run_makeSlice (P := Try.prog) w 44 4 i0 _ Try.underlying44 hi hz0 .i64 .i64 m m (by omega) (Int.le_refl _) (by rw [hz1]; simp; omega) (by rw [hz2]; omega) (by omega)
    rw [hz1] at this
    simpa [Value.cells] using this
  have mkS : ∀ w : World, (Instr.makeSlice 45 (.int .i64 m) (.int .i64 m)).run Try.prog w = .ok (.slice (some ⟨w.heap.size, 0, none⟩) m m) (w.alloc (.cells (madeCells #[.slice none 0 0] m) 32)) := fun w => by
    have := run_makeSlice (P := Try.prog) w 45 32 j0 _ Try.underlying45 hj hy0 .i64 .i64 m m (by omega) (Int.le_refl _) (by rw [hy1]; simp; omega) (by rw [hy2]; omega) (by omega)
    rw [hy1] at this
    simpa [Value.cells] using this
  clear hi hz0 hz1 hz2 hj hy0 hy1 hy2
  go_enter Try.func11, Try.ntmps11
  go_upto_region 1 with fail
  go_cut [5] (fun t wc => ∃ b gu gd, t = .pointer (some ⟨b, 0, none⟩) ∧ Hid (Blk wc b 47 #[.int .i64 size, .slice none 0 0, .slice (some ⟨gu, 0, none⟩) m m, .slice (some ⟨gd, 0, none⟩) m m] ∧ Blk wc gu 4 (madeCells #[.bool false] m) ∧ Blk wc gd 32 (madeCells #[.slice none 0 0] m) ∧ (w.heap.size ≤ b ∧ w.heap.size ≤ gu ∧ w.heap.size ≤ gd) ∧ Frm (fun _ => False) w wc))
  case first =>
    go_region
    all_goals
      go_wp2_with fail
      go_meet
      case rel =>
        first
        | (refine ⟨w.heap.size + 1 + 1, w.heap.size, w.heap.size + 1, rfl, Lib.hid ⟨?_, ?_, ?_, ⟨by omega, by omega, by omega⟩, ((((Frm.refl _ w).alloc _).alloc _).alloc _).drew⟩⟩
           · refine Blk.drew ?_
             have := Blk.new ((w.alloc (.cells (madeCells #[.bool false] m) 4)).alloc (.cells (madeCells #[.slice none 0 0] m) 32)) 47 #[.int .i64 size, .slice none 0 0, .slice (some ⟨w.heap.size, 0, none⟩) m m, .slice (some ⟨w.heap.size + 1, 0, none⟩) m m]
             simpa using this
           · exact Blk.drew (Blk.alloc (Blk.alloc (Blk.new w _ _) _) _)
           · (refine Blk.drew (Blk.alloc ?_ _); have := Blk.new (w.alloc (.cells (madeCells #[.bool false] m) 4)) 32 (madeCells #[.slice none 0 0] m); simpa using this))
        | (refine ⟨w.heap.size + 1 + 1, w.heap.size + 1, w.heap.size, rfl, Lib.hid ⟨?_, ?_, ?_, ⟨by omega, by omega, by omega⟩, ((((Frm.refl _ w).alloc _).alloc _).alloc _).drew⟩⟩
           · refine Blk.drew ?_
             have := Blk.new ((w.alloc (.cells (madeCells #[.slice none 0 0] m) 32)).alloc (.cells (madeCells #[.bool false] m) 4)) 47 #[.int .i64 size, .slice none 0 0, .slice (some ⟨w.heap.size + 1, 0, none⟩) m m, .slice (some ⟨w.heap.size, 0, none⟩) m m]
             simpa using this
           · (refine Blk.drew (Blk.alloc ?_ _); have := Blk.new (w.alloc (.cells (madeCells #[.slice none 0 0] m) 32)) 4 (madeCells #[.bool false] m); simpa using this)
           · exact Blk.drew (Blk.alloc (Blk.alloc (Blk.new w _ _) _) _))
  case rest =>
    obtain ⟨b, gu, gd, rfl, h0⟩ := hcut
    have HT : Hid (RBeg w b gu gd m size 0 wc) := Lib.hid (by
      obtain ⟨p1, p2, p3, p4, p5⟩ := h0.out
      exact ⟨_, p1, p2, p3, by simpa using World.ownsRow_nil _ _ _ _, p4, p5⟩)
    clear h0 mkB mkS
    go_wp2_with fail
    go_loopw [6] (fun i wr => ∃ k : Nat, k ≤ m ∧ i = .int .i64 k ∧ Hid (RBeg w b gu gd m size k wr)) (fun i _ => m - (intOf i).toNat)
    case atStart => exact ⟨0, Nat.zero_le _, rfl, HT⟩
    case round =>
      clear HT
      obtain ⟨k, hk, rfl, hrel⟩ := hrel
      by_cases hlt : k < m
      · obtain ⟨vr, hb, hu, hd, ho, hl, hF⟩ := hrel.out
        obtain ⟨Ar, cr, rfl, hcr1, hcr2⟩ := own_form ho
        have c1 : wr.cell? ⟨b, 1, none⟩ = some (.slice Ar k cr) := hb.cell 1
        have f1 := hb.frozen 1
        have hbl := hb.lt
        have H := Lib.hid (And.intro hb (And.intro hu (And.intro hd (And.intro ho (And.intro hl hF)))))
        clear hb hu hd ho hl hF hrel
        go_wp2_with (at_builtin; refine wpList_append_sl (by rfl) _ _ 41 (by rfl) w.heap.size 3 k0 (.int .i64 0) 8 Try.underlying41 hk0 hx0 hx1 hx2 (by rfl) _ k _ (by rfl) (by exact H.out.2.2.2.1.alloc _) (fun q => q = wr.heap.size) _ [.int .i64 k] (by rfl) (by exact Sl.blk1 wr _ _) (by simp [Value.oneCell']) (by unfold maxLen; simp; omega) (by simp; omega) (by have := H.out.2.2.2.2.2.size; simp; omega) ?_; intro A3 N3 c3' w3 HN3 hNc3 hc3 hown3 hg3 hat3; have hF3 : Frm (fun q => (Value.slice Ar k cr).ownBlock = some q) wr w3 := ((Frm.refl _ wr).alloc _).grown hg3 (fun q hq => .inl hq); have e1 := hF3.cell c1 (by exact own_blk_ne H.out.2.2.2.1 H.out.1 (by decide)); have g1 := (hF3.frozen (a := ⟨b, 1, none⟩) hbl (by exact own_blk_ne H.out.2.2.2.1 H.out.1 (by decide))).trans f1; have H3 := Lib.hid (And.intro hown3 hF3); clear hown3 hg3 hat3 hF3)
        go_roundw
        case rel => exact ⟨k + 1, by omega, by go_num, Lib.hid (by
          obtain ⟨hb, hu, hd, ho, hl, hF⟩ := H.out
          obtain ⟨hown3, hF3⟩ := H3.out
          have hN : N3 = k + 1 := by have := HN3.out; simpa using this
          subst hN
          have hb3 := hb.kept hF3 (own_blk_ne ho hb (by decide))
          have hu3 := hu.kept hF3 (own_blk_ne ho hu (by decide))
          have hd3 := hd.kept hF3 (own_blk_ne ho hd (by decide))
          refine ⟨.slice A3 (k + 1) c3', by simpa using hb3.set_ 1 (.slice A3 (k + 1) c3'), hu3.far (hu3.ne_ hb3 (by decide)) _, hd3.far (hd3.ne_ hb3 (by decide)) _, ?_, hl, ?_⟩
          · rw [List.range_succ, List.map_append]
            exact ((Frm.refl (fun q => q = b) w3).setCell ⟨b, 1, none⟩ (.inl rfl) _).own hown3 (fun q hq e => by subst e; exact own_blk_ne hown3 hb3 (by decide) hq)
          · exact (hF.trans hF3 (fun q hq => .inr (ho.lt q hq).1)).setCell ⟨b, 1, none⟩ (.inr hl.1) _)⟩
        case measure => simp [intOf]; omega
      · obtain rfl : k = m := by omega
        go_wp2_with fail
        go_ret
        exact ⟨b, _, rfl, hrel.out.done h1 h2 h4, fun q hq => hq.1, hrel.out.choose_spec.2.2.2.2.2⟩
end Go.Proofs.Ytkmammeaidfaaaa
