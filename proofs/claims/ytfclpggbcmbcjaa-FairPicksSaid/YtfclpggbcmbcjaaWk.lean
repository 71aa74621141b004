/- The walk of teasellaw25.wakes. -/
import Derived.Test.YtfclpggbcmbcjaaFc
import Derived.Test.YtfclpggbcmbcjaaFe
import Derived.Test.YtfclpggbcmbcjaaIn
namespace Go.Proofs.Ytfclpggbcmbcjaa
open Go.RowKit
theorem TAt.kept {w w' : World} {A : Option Addr} {m c : Nat} {ts : List (Value × List Int × Int)} (h : TAt w A m c ts) (hF : Frm (fun _ => False) w w') : TAt w' A m c ts := by
  obtain ⟨h1, h2, h3, h4⟩ := h
  refine ⟨h1, h2, h3, fun i hi => ?_⟩
  obtain ⟨g, o, e, hg, d0, d1, hs, hw, hl⟩ := h4 i hi
  exact ⟨g, o, e, Nat.lt_of_lt_of_le hg hF.size, hF.cell d0 id, hF.cell d1 id, hs.keptTo fun q hq => ⟨hF.block q hq id, Nat.lt_of_lt_of_le hq hF.size⟩, hw, hl⟩
theorem TAt.nil (w : World) : TAt w none 0 0 [] := ⟨rfl, Nat.le_refl _, by omega, fun _ h => by cases h⟩
/-- A row of numbers that was just made. -/
theorem sl_new (w : World) (t : TypeId) (cs : Array Value) (l : List Int) (h : cs.toList = l.map iv) (hl : l.length ≤ 1000000) : Sl (w.alloc (.cells cs t)) (fun q => q < (w.alloc (.cells cs t)).heap.size) (.slice (some ⟨w.heap.size, 0, none⟩) l.length l.length) (l.map iv) :=
  (Sl.blk w cs t h ⟨by simp, by omega⟩).mono fun q hq => by have : q = w.heap.size := hq; simp; omega
theorem pick_new (x : Int) (l : List Int) (cs : Array Value) (h : cs.toList = l.map iv) (hl : l ≠ [] ∧ l.length ≤ 1000) (n : Nat) (hn : n = l.length) (r : Int) (hr : pickN x l = r) (w : World) (g : Nat) (hg : w.heap.size = g) :
    Calls Try.prog 12 #[.int .i64 x, .slice (some ⟨g, 0, none⟩) n n] (w.alloc (.cells cs 3)) fun e w' => e = .returned (.tuple #[.int .i64 r, .bool true]) ∧ Frm (fun _ => False) w w' := by
  subst hn hg
  refine (pickn_any x _ _ l _ (sl_new w 3 cs l h (by omega)) (by omega)).mono ?_
  rintro e w' ⟨he, rfl⟩
  rw [if_neg hl.1, hr] at he
  exact ⟨he, (Frm.refl _ w).alloc _⟩
theorem next_new (k s z : Int) (l : List Int) (cs : Array Value) (h : cs.toList = l.map iv) (hl : l.length ≤ 1000) (n : Nat) (hn : n = l.length) (x s' : Int) (hr : pickK k s z l = some (x, s')) (w : World) (g : Nat) (hg : w.heap.size = g) :
    Calls Try.prog 13 #[.agg #[.int .u8 k, .int .u32 s, .int .i64 z], .slice (some ⟨g, 0, none⟩) n n] (w.alloc (.cells cs 3)) fun e w' => e = .returned (.tuple #[.agg #[.int .u8 k, .int .u32 s', .int .i64 x], .int .i64 x, .bool true]) ∧ Frm (fun _ => False) w w' := by
  subst hn hg
  refine (next_any k s z _ _ l _ (sl_new w 3 cs l h (by omega)) (by omega) (fun _ h => h)).mono ?_
  rintro e w' ⟨he, hF⟩
  rw [hr] at he
  exact ⟨he, ((Frm.refl _ w).alloc _).trans hF fun _ h => h.elim⟩
theorem next_new0 (k s z : Int) (l : List Int) (cs : Array Value) (h : cs.toList = l.map iv) (hl : l.length ≤ 1000) (n : Nat) (hn : n = l.length) (hr : pickK k s z l = none) (w : World) (g : Nat) (hg : w.heap.size = g) :
    Calls Try.prog 13 #[.agg #[.int .u8 k, .int .u32 s, .int .i64 z], .slice (some ⟨g, 0, none⟩) n n] (w.alloc (.cells cs 3)) fun e w' => e = .returned (.tuple #[.agg #[.int .u8 k, .int .u32 s, .int .i64 z], .int .i64 0, .bool false]) ∧ Frm (fun _ => False) w w' := by
  subst hn hg
  refine (next_any k s z _ _ l _ (sl_new w 3 cs l h (by omega)) (by omega) (fun _ h => h)).mono ?_
  rintro e w' ⟨he, hF⟩
  rw [hr] at he
  exact ⟨he, ((Frm.refl _ w).alloc _).trans hF fun _ h => h.elim⟩
def ts3 (g : Nat) : List (Value × List Int × Int) :=
  [(.slice (some ⟨g, 0, none⟩) 3 3, [0, 1, 2], 0), (.slice (some ⟨g + 1, 0, none⟩) 2 2, [1, 2], 2), (.slice (some ⟨g + 2, 0, none⟩) 1 1, [1], 1)]
theorem sl_at {w w' : World} {g n : Nat} {t : TypeId} {cs : Array Value} {l : List Int} (h : Blk w g t cs) (hF : Frm (fun _ => False) w w') (hc : cs.toList = l.map iv) (hn : n = l.length) (hl : l.length ≤ 1000000) : Sl w' (fun q => q < w'.heap.size) (.slice (some ⟨g, 0, none⟩) n n) (l.map iv) := by
  subst hn
  refine ⟨_, _, _, rfl, by simp, Nat.le_refl _, by omega, .inr ⟨g, 0, rfl, Nat.lt_of_lt_of_le h.lt hF.size, fun i hi => ?_⟩⟩
  refine hF.cell (h.cell (0 + i) |>.trans ?_) id
  rw [Nat.zero_add, ← Array.getElem?_toList, hc]
  exact List.getElem?_eq_getElem hi
theorem turns_new (w : World) (g : Nat) (hg : w.heap.size = g) (W : World)
    (hW : W = ((((w.alloc (.cells #[.int .i64 0, .int .i64 1, .int .i64 2] 3)).alloc (.cells #[.int .i64 1, .int .i64 2] 3)).alloc (.cells #[.int .i64 1] 3)).alloc
      (.cells #[.slice (some ⟨g, 0, none⟩) 3 3, .int .i64 0, .slice (some ⟨g + 1, 0, none⟩) 2 2, .int .i64 2, .slice (some ⟨g + 1 + 1, 0, none⟩) 1 1, .int .i64 1] 34))) :
    TAt W (some ⟨g + 1 + 1 + 1, 0, none⟩) 3 3 (ts3 g) ∧ Frm (fun _ => False) w W := by
  subst hW hg
  have r0 := Blk.new w 3 #[.int .i64 0, .int .i64 1, .int .i64 2]
  have f0 : Frm (fun _ => False) w (w.alloc (.cells #[.int .i64 0, .int .i64 1, .int .i64 2] 3)) := (Frm.refl _ w).alloc _
  have z0 : (w.alloc (.cells #[.int .i64 0, .int .i64 1, .int .i64 2] 3)).heap.size = w.heap.size + 1 := by simp
  generalize w.alloc (.cells #[.int .i64 0, .int .i64 1, .int .i64 2] 3) = w1 at *
  have r1 := Blk.new w1 3 #[.int .i64 1, .int .i64 2]
  have f1 : Frm (fun _ => False) w1 (w1.alloc (.cells #[.int .i64 1, .int .i64 2] 3)) := (Frm.refl _ w1).alloc _
  have z1 : (w1.alloc (.cells #[.int .i64 1, .int .i64 2] 3)).heap.size = w1.heap.size + 1 := by simp
  generalize w1.alloc (.cells #[.int .i64 1, .int .i64 2] 3) = w2 at *
  have r2 := Blk.new w2 3 #[.int .i64 1]
  have f2 : Frm (fun _ => False) w2 (w2.alloc (.cells #[.int .i64 1] 3)) := (Frm.refl _ w2).alloc _
  have z2 : (w2.alloc (.cells #[.int .i64 1] 3)).heap.size = w2.heap.size + 1 := by simp
  generalize w2.alloc (.cells #[.int .i64 1] 3) = w3 at *
  rw [z0] at r1 z1
  rw [z1] at r2 z2
  obtain ⟨cs, hcs⟩ : ∃ cs, cs = #[Value.slice (some ⟨w.heap.size, 0, none⟩) 3 3, .int .i64 0, .slice (some ⟨w.heap.size + 1, 0, none⟩) 2 2, .int .i64 2, .slice (some ⟨w.heap.size + 1 + 1, 0, none⟩) 1 1, .int .i64 1] := ⟨_, rfl⟩
  rw [← hcs]
  have r3 := Blk.new w3 34 cs
  have f3 : Frm (fun _ => False) w3 (w3.alloc (.cells cs 34)) := (Frm.refl _ w3).alloc _
  generalize w3.alloc (.cells cs 34) = w4 at *
  rw [z2] at r3
  subst hcs
  have g2 : Frm (fun _ => False) w2 w4 := f2.trans f3 fun _ h => h.elim
  have g1 : Frm (fun _ => False) w1 w4 := f1.trans g2 fun _ h => h.elim
  refine ⟨⟨rfl, Nat.le_refl _, by omega, fun i hi => ?_⟩, f0.trans g1 fun _ h => h.elim⟩
  have wf : ∀ x : Int, x = 0 ∨ x = 1 ∨ x = 2 → Wf x := by rintro x (rfl | rfl | rfl) <;> rfl
  match i, hi with
  | 0, _ => exact ⟨_, 0, rfl, r3.lt, r3.cell 0, r3.cell 1, sl_at r0 g1 rfl rfl (by simp [ts3]), fun x hx => wf x (by simpa [ts3] using hx), by simp [ts3]⟩
  | 1, _ => exact ⟨_, 0, rfl, r3.lt, r3.cell 2, r3.cell 3, sl_at r1 g2 rfl rfl (by simp [ts3]), fun x hx => wf x (by have : x = 1 ∨ x = 2 := (by simpa [ts3] using hx); omega), by simp [ts3]⟩
  | 2, _ => exact ⟨_, 0, rfl, r3.lt, r3.cell 4, r3.cell 5, sl_at r2 f3 rfl rfl (by simp [ts3]), fun x hx => wf x (by have : x = 1 := (by simpa [ts3] using hx); omega), by simp [ts3]⟩
def ls3 (g : Nat) : List (Value × List Int) := [(.slice (some ⟨g, 0, none⟩) 1 1, [3]), (.slice none 0 0, []), (.slice (some ⟨g + 1, 0, none⟩) 2 2, [2, 1])]
theorem lists_new (w : World) (g : Nat) (hg : w.heap.size = g) (W : World)
    (hW : W = (((w.alloc (.cells #[.int .i64 3] 3)).alloc (.cells #[.int .i64 2, .int .i64 1] 3)).alloc (.cells #[.slice (some ⟨g, 0, none⟩) 1 1, .slice none 0 0, .slice (some ⟨g + 1, 0, none⟩) 2 2] 25))) :
    LAt W W.heap.size (some ⟨g + 1 + 1, 0, none⟩) 3 3 (ls3 g) ∧ Frm (fun _ => False) w W := by
  subst hW hg
  have r0 := Blk.new w 3 #[.int .i64 3]
  have f0 : Frm (fun _ => False) w (w.alloc (.cells #[.int .i64 3] 3)) := (Frm.refl _ w).alloc _
  have z0 : (w.alloc (.cells #[.int .i64 3] 3)).heap.size = w.heap.size + 1 := by simp
  generalize w.alloc (.cells #[.int .i64 3] 3) = w1 at *
  have r1 := Blk.new w1 3 #[.int .i64 2, .int .i64 1]
  have f1 : Frm (fun _ => False) w1 (w1.alloc (.cells #[.int .i64 2, .int .i64 1] 3)) := (Frm.refl _ w1).alloc _
  have z1 : (w1.alloc (.cells #[.int .i64 2, .int .i64 1] 3)).heap.size = w1.heap.size + 1 := by simp
  generalize w1.alloc (.cells #[.int .i64 2, .int .i64 1] 3) = w2 at *
  rw [z0] at r1 z1
  obtain ⟨cs, hcs⟩ : ∃ cs, cs = #[Value.slice (some ⟨w.heap.size, 0, none⟩) 1 1, .slice none 0 0, .slice (some ⟨w.heap.size + 1, 0, none⟩) 2 2] := ⟨_, rfl⟩
  rw [← hcs]
  have r3 := Blk.new w2 25 cs
  have f3 : Frm (fun _ => False) w2 (w2.alloc (.cells cs 25)) := (Frm.refl _ w2).alloc _
  generalize w2.alloc (.cells cs 25) = w4 at *
  rw [z1] at r3
  subst hcs
  have g1 : Frm (fun _ => False) w1 w4 := f1.trans f3 fun _ h => h.elim
  refine ⟨⟨rfl, Nat.le_refl _, by omega, fun i hi => ?_⟩, f0.trans g1 fun _ h => h.elim⟩
  match i, hi with
  | 0, _ => exact ⟨_, 0, rfl, r3.lt, r3.cell 0, sl_at r0 g1 rfl rfl (by simp [ls3]), by simp [ls3]⟩
  | 1, _ => exact ⟨_, 0, rfl, r3.lt, r3.cell 1, Sl.nil_ _ _, by simp [ls3]⟩
  | 2, _ => exact ⟨_, 0, rfl, r3.lt, r3.cell 2, sl_at r1 f3 rfl rfl (by simp [ls3]), by simp [ls3]⟩
theorem e9 (g : Nat) : playL 1 0 0 (Lists (ls3 g)) = [([3], 3), ([2, 1], 1)] := by kernel_rfl
theorem e8 (g : Nat) : (waitL (Turns (ts3 g))).2 = (2, 1) := by rfl
theorem e1 : pickN 5 [2, 4, 7] = 7 := by kernel_rfl
theorem e2 : pickN (-1) [2, 4, 7] = 7 := by kernel_rfl
theorem e3 : pickK 3 0 4 [2, 4, 7] = some (7, 0) := by kernel_rfl
theorem e4 : pickK 3 0 7 [4, 2, 7] = some (2, 0) := by kernel_rfl
theorem e5 : pickK 2 0 0 [4, 7, 2] = some (7, 0) := by kernel_rfl
theorem e6 : pickK 4 0 0 [4, 7, 2] = some (2, 1013904223) := by kernel_rfl
theorem e7 : pickK 0 0 0 [1] = none := by kernel_rfl
set_option maxRecDepth 100000 in
set_option maxHeartbeats 4000000 in
theorem wakes_any (w : World) : Calls Try.prog 6 #[] w fun e w' => e = .returned (.bool true) ∧ Frm (fun _ => False) w w' := by
  have HF : Hid (Frm (fun _ => False) w w) := Lib.hid (Frm.refl _ w)
  go_enter Try.func6, Try.ntmps6
  go_wp2_with fail
  refine (pick_new 5 [2, 4, 7] _ rfl (by decide) 3 rfl 7 e1 w _ rfl).mono ?_
  rintro e w1 ⟨rfl, hF⟩
  have HF := Lib.hid (HF.out.trans hF fun _ h => h.elim)
  clear hF
  go_wp2_with fail
  refine (pick_new (-1) [2, 4, 7] _ rfl (by decide) 3 rfl 7 e2 w1 _ rfl).mono ?_
  rintro e w2 ⟨rfl, hF⟩
  have HF := Lib.hid (HF.out.trans hF fun _ h => h.elim)
  clear hF
  go_wp2_with fail
  refine (pickn_any 5 _ (fun _ => False) [] w2 (Sl.nil_ _ _) (by decide)).mono ?_
  rintro e w' ⟨rfl, rfl⟩
  rw [if_pos rfl]
  go_wp2_with fail
  refine (next_new 3 0 4 [2, 4, 7] _ rfl (by decide) 3 rfl 7 0 e3 w2 _ rfl).mono ?_
  rintro e w3 ⟨rfl, hF⟩
  have HF := Lib.hid (HF.out.trans hF fun _ h => h.elim)
  clear hF
  go_wp2_with fail
  refine (next_new 3 0 7 [4, 2, 7] _ rfl (by decide) 3 rfl 2 0 e4 _ _ (by simp)).mono ?_
  rintro e w4 ⟨rfl, hF⟩
  have HF := Lib.hid ((show Frm (fun _ => False) w _ by repeat' first | exact HF.out | refine Frm.alloc ?_ _).trans hF fun _ h => h.elim)
  clear hF
  go_wp2_with fail
  refine (next_new 2 0 0 [4, 7, 2] _ rfl (by decide) 3 rfl 7 0 e5 _ _ (by simp)).mono ?_
  rintro e w5 ⟨rfl, hF⟩
  have HQ := Lib.hid ((Blk.new w4 31 #[.int .u8 3, .int .u32 0, .int .i64 2]).kept hF id)
  have HF := Lib.hid ((show Frm (fun _ => False) w _ by repeat' first | exact HF.out | refine Frm.alloc ?_ _).trans hF fun _ h => h.elim)
  clear hF
  generalize w4.heap.size = q0 at *
  go_wp2_with fail
  refine (next_new 4 0 0 [4, 7, 2] _ rfl (by decide) 3 rfl 2 1013904223 e6 _ _ (by simp)).mono ?_
  rintro e w6 ⟨rfl, hF⟩
  have HQ := Lib.hid ((HQ.out.alloc _).kept hF id)
  have HF := Lib.hid ((show Frm (fun _ => False) w _ by repeat' first | exact HF.out | refine Frm.alloc ?_ _).trans hF fun _ h => h.elim)
  clear hF
  go_wp2_with fail
  refine (next_new0 0 0 0 [1] _ rfl (by decide) 1 rfl e7 _ _ (by simp)).mono ?_
  rintro e w7 ⟨rfl, hF⟩
  have HQ := Lib.hid ((HQ.out.alloc _).kept hF id)
  have HF := Lib.hid ((show Frm (fun _ => False) w _ by repeat' first | exact HF.out | refine Frm.alloc ?_ _).trans hF fun _ h => h.elim)
  clear hF
  go_wp2_with fail
  obtain ⟨hT, hFT⟩ := turns_new (w7.alloc (.cells #[.int .u8 0, .int .u32 0, .int .i64 0] 31)) (w7.heap.size + 1) (by simp) _ rfl
  have HQ := Lib.hid ((HQ.out.alloc _).kept hFT id)
  have HF := Lib.hid ((show Frm (fun _ => False) w _ by repeat' first | exact HF.out | refine Frm.alloc ?_ _).trans hFT fun _ h => h.elim)
  clear hFT
  generalize w7.heap.size + 1 = g at *
  generalize ((((w7.alloc (.cells #[.int .u8 0, .int .u32 0, .int .i64 0] 31)).alloc (.cells #[.int .i64 0, .int .i64 1, .int .i64 2] 3)).alloc (.cells #[.int .i64 1, .int .i64 2] 3)).alloc (.cells #[.int .i64 1] 3)).alloc
      (.cells #[.slice (some ⟨g, 0, none⟩) 3 3, .int .i64 0, .slice (some ⟨g + 1, 0, none⟩) 2 2, .int .i64 2, .slice (some ⟨g + 1 + 1, 0, none⟩) 1 1, .int .i64 1] 34) = w8 at *
  have HT := Lib.hid hT
  refine (wait_any _ 3 3 (ts3 g) w8 HT.out (by omega)).mono ?_
  clear hT
  rintro e w9 ⟨rfl, hF⟩
  have h1 : (waitL (Turns (ts3 g))).2.1 = 2 := by rw [e8]
  have h2 : (waitL (Turns (ts3 g))).2.2 = 1 := by rw [e8]
  rw [h1, h2]
  have cq := (HQ.out.kept hF id).cell 2
  have HT := Lib.hid (HT.out.kept hF)
  have HF := Lib.hid (HF.out.trans hF fun _ h => h.elim)
  clear hF h1 h2
  simp only [List.getElem?_toArray] at cq
  go_wp2_with fail
  refine (window_any _ 3 3 (ts3 g) w9 HT.out (by omega)).mono ?_
  rintro e w10 ⟨rfl, hF⟩
  have h1 : (waitL (Turns (ts3 g))).2.1 = 2 := by rw [e8]
  rw [h1]
  have HF := Lib.hid (HF.out.trans hF fun _ h => h.elim)
  clear hF h1 HT HQ cq
  go_wp2_with fail
  refine (window_any none 0 0 [] w10 (TAt.nil w10) (by omega)).mono ?_
  rintro e w11 ⟨rfl, hF⟩
  have h1 : (waitL (Turns [])).2.1 = 0 := rfl
  rw [h1]
  have HF := Lib.hid (HF.out.trans hF fun _ h => h.elim)
  clear hF h1
  go_wp2_with fail
  obtain ⟨hL, hFL⟩ := lists_new w11 w11.heap.size rfl _ rfl
  have HF := Lib.hid (HF.out.trans hFL fun _ h => h.elim)
  clear hFL
  generalize ((w11.alloc (.cells #[.int .i64 3] 3)).alloc (.cells #[.int .i64 2, .int .i64 1] 3)).alloc (.cells #[.slice (some ⟨w11.heap.size, 0, none⟩) 1 1, .slice none 0 0, .slice (some ⟨w11.heap.size + 1, 0, none⟩) 2 2] 25) = w12 at *
  refine (play_any 1 0 0 _ 3 3 (ls3 w11.heap.size) w12 hL (by omega)).mono ?_
  clear hL
  rintro e w13 ⟨v, ys, rfl, hS, ho, -, hF⟩
  have hy : ys.length = 2 := by have := congrArg List.length hS; rw [e9] at this; simpa using this
  rw [hy] at ho
  obtain ⟨Av, cv, rfl, -, -⟩ := own_form ho
  have HF := Lib.hid (HF.out.trans hF fun _ h => h.elim)
  clear hF ho hS hy
  go_wp2_with fail
  go_ret
  exact ⟨rfl, HF.out⟩
end Go.Proofs.Ytfclpggbcmbcjaa
