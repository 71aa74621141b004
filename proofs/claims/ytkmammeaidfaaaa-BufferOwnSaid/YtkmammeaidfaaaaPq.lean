/- The walks of package buffer: Data, Live, New. -/
import Derived.Test.YtkmammeaidfaaaaPp
import Derived.Test.YtkmammeaidfaaaaCo
import Derived.Test.YtkmammeaidfaaaaClb
import Derived.Laws.MakeOwn
import Derived.Deep.DeepCutAuto
import Derived.Deep.CutBlock
namespace Go.Proofs.Ytkmammeaidfaaaa
open Go.RowKit Go.Shelf
def DataPost (l : List UInt8) (w : World) (e : Ending) (w' : World) : Prop := ∃ v, e = .returned v ∧ w'.ownsRow w.heap.size 5 1 v l.length (bv l) ∧ Frm (fun _ => False) w w'
theorem data_no (p : Option Addr) (n : Int) (w : World) (h : Calls Try.prog 26 #[.pointer p, .int .i64 n] w fun e w' => e = .returned (.bool false) ∧ w = w') :
    Calls Try.prog 22 #[.pointer p, .int .i64 n] w (DataPost [] w) := by
  have H := Lib.hid h
  clear h
  go_enter Try.func22, Try.ntmps22
  go_wp2_with fail
  refine H.out.mono ?_
  rintro e w' ⟨rfl, rfl⟩
  go_wp2_with fail
  go_ret
  exact ⟨_, rfl, World.ownsRow_nil _ _ _ _, Frm.refl _ _⟩
theorem data_ok (S : Nat → Prop) (b m size n : Nat) (fr : List Nat) (us : List Bool) (dt : List (List UInt8)) (l : List UInt8) (w : World) (h : PAt w S b m size fr us dt) (hu : us[n]? = some true) (hdl : dt[n]? = some l) :
    Calls Try.prog 22 #[.pointer (some ⟨b, 0, none⟩), .int .i64 n] w (DataPost l w) := by
  have hhas := has_any S b m size fr us dt n w h
  have e : inUse us (n : Int) = true := by simp [inUse, List.getD, hu]
  rw [e] at hhas
  have hnm : n < m := by have := (List.getElem?_eq_some_iff.1 hu).1; have := h.sz.2.1; omega
  have hm16 := h.sz.1.2.1
  have hs288 := h.sz.1.2.2.1
  obtain ⟨gu, gd, vf, vs, h1⟩ := h
  obtain ⟨c0, c1, c2, c3⟩ := h1.cells
  obtain ⟨A', c', l', hl', he, cr, ho, hc1, hc2, hs⟩ := h1.row n hnm
  rw [hdl] at hl'
  cases hl'
  have hcl := clone_b (fun k => k < w.heap.size) (.slice A' l.length c') (bv l) l.length w (SlZ.of_own ho fun g hg => (ho.lt g hg).2) (by simp) (fun _ hk => hk) (bv_one l) (by omega)
  have Hh := Lib.hid hhas
  have Hc := Lib.hid hcl
  clear h1 c0 c1 c2 hhas e hu hdl ho hs he hcl
  generalize hq : l.length = q at *
  have Hq := Lib.hid hq
  clear hq
  go_enter Try.func22, Try.ntmps22
  go_wp2_with fail
  refine Hh.out.mono ?_
  rintro e w' ⟨rfl, rfl⟩
  clear Hh
  go_wp2_with fail
  refine Hc.out.mono ?_
  rintro e w' ⟨v, rfl, ho, hF⟩
  have H := Lib.hid (And.intro ho hF)
  clear ho hF
  go_wp2_with fail
  go_ret
  refine ⟨v, rfl, ?_, H.out.2⟩
  rw [Hq.out]
  exact H.out.1
/-- The numbers of the first k that are in use. -/
def liveTo (us : List Bool) (k : Nat) : List Int := (List.range k).filterMap fun i => if us.getD i false then some (i : Int) else none
theorem liveTo_yes {us : List Bool} {k : Nat} (h : us.getD k false = true) : liveTo us (k + 1) = liveTo us k ++ [(k : Int)] := by
  simp only [liveTo, List.range_succ, List.filterMap_append, List.filterMap_cons, List.filterMap_nil, h, if_true]
theorem liveTo_no {us : List Bool} {k : Nat} (h : us.getD k false = false) : liveTo us (k + 1) = liveTo us k := by
  simp only [liveTo, List.range_succ, List.filterMap_append, List.filterMap_cons, List.filterMap_nil, h]
  simp
theorem liveTo_pre {us : List Bool} {m : Nat} : ∀ {k : Nat}, k ≤ m → liveTo us k <+: liveTo us m := by
  induction m with
  | zero => intro k h; obtain rfl : k = 0 := by omega
            exact List.prefix_refl _
  | succ m ih =>
    intro k h
    by_cases hk : k = m + 1
    · subst hk; exact List.prefix_refl _
    · refine (ih (by omega)).trans ?_
      cases hs : us.getD m false with
      | true => rw [liveTo_yes hs]; exact List.prefix_append _ _
      | false => rw [liveTo_no hs]; exact List.prefix_refl _
theorem liveTo_len (us : List Bool) (k : Nat) : (liveTo us k).length ≤ k := by
  induction k with
  | zero => simp [liveTo]
  | succ k ih =>
    cases hs : us.getD k false with
    | true => rw [liveTo_yes hs]; simp; omega
    | false => rw [liveTo_no hs]; omega
set_option maxRecDepth 100000 in
set_option maxHeartbeats 2000000 in
theorem live1_in (n : Nat) (hn : 1 ≤ n) (l Bc n₀ b gu m : Nat) (us : List Bool) (hus : us.length = m) (hm16 : m ≤ 16) (J Jx : List Int → World → Prop)
    (hY : ∀ pre x W, J pre W → pre.length < (liveTo us m).length → YieldAt Fence.wide (n - 1) Try.prog l #[iv x] W fun e W' =>
      (e = .returned (.bool true) ∧ J (pre ++ [x]) W' ∧ Below n₀ W W') ∨ (e = .returned (.bool false) ∧ Jx (pre ++ [x]) W'))
    (W : World) (hBc : W.cell? ⟨Bc, 0, none⟩ = some (.pointer (some ⟨b, 0, none⟩))) (hc2 : W.cell? ⟨b, 2, none⟩ = some (.slice (some ⟨gu, 0, none⟩) m m)) (hU : Blk W gu 4 (us.map Value.bool).toArray) (hlt : Bc < n₀ ∧ b < n₀ ∧ gu < n₀) (h0 : J [] W) :
    CallsIn Fence.wide n Try.prog 33 #[.func (.yield l) #[] #[], .pointer (some ⟨Bc, 0, none⟩)] W fun e W' => (∃ v, e = .returned v) ∧
      ((∃ ys, ys = liveTo us m ∧ J ys W') ∨ (∃ pre, pre <+: liveTo us m ∧ Jx pre W')) := by
  obtain ⟨hl1, hl2, hl3⟩ := hlt
  refine callsIn_of_wp Try.func33 rfl trivial ?_ rfl
  simp only [Try.ntmps33, List.size_toArray, List.length_cons, List.length_nil, Nat.reduceAdd, Nat.reduceSub, Array.replicate_succ, Array.replicate_zero, List.push_toArray, List.append_toArray, List.nil_append, List.cons_append]
  have HU := Lib.hid (And.intro hU hus)
  clear hU hus
  gi_wp2
  gi_loopw [10] (fun i wr => ∃ k : Nat, k ≤ m ∧ i = .int .i64 k ∧ J (liveTo us k) wr ∧ Below n₀ W wr) (fun i _ => m - (intOf i).toNat)
  case atStart => exact ⟨0, Nat.zero_le _, rfl, h0, Below.refl _ _⟩
  case round =>
    obtain ⟨k, hk, rfl, hJs, hnx⟩ := hrel
    by_cases hlt : k < m
    · have hUr : Blk wr gu 4 (us.map Value.bool).toArray := (hnx.block _ hl3).trans HU.out.1
      have hkl : k < us.length := by have := HU.out.2; omega
      have cu : wr.cell? ⟨gu, k, none⟩ = some (.bool (us.getD k false)) := by rw [hUr.cell]; simp [hkl, List.getD]
      clear hUr hkl hBc hc2
      cases hs : us.getD k false with
      | true =>
        rw [hs] at cu
        have hY1 := hY _ (k : Int) wr hJs (by
          have h1 := (liveTo_pre (us := us) (show k + 1 ≤ m by omega)).length_le
          rw [liveTo_yes hs] at h1
          simp at h1; omega)
        have Hy := Lib.hid (liveTo_yes hs)
        obtain ⟨fn, tmps, assign, body, hy, hRd⟩ := hY1
        simp only [iv] at hy
        clear hs hJs
        gi_wp2
        refine hRd.mono ?_
        rintro e W3 (⟨rfl, hJ3, hk3⟩ | ⟨rfl, hJx3⟩)
        · gi_wp2
          go_roundw
          case rel => exact ⟨k + 1, by omega, by go_num, by rw [Hy.out]; exact hJ3, hnx.trans hk3⟩
          case measure => simp [intOf]; omega
        · gi_wp2
          refine bodyPost_ret (results_none rfl _ _ _) rfl ?_
          exact ⟨⟨_, rfl⟩, .inr ⟨_, by rw [← Hy.out]; exact liveTo_pre (by omega), hJx3⟩⟩
      | false =>
        rw [hs] at cu
        have Hy := Lib.hid (liveTo_no hs)
        clear hs
        gi_wp2
        all_goals
          refine ⟨fun _ h => (by cases h), ?_⟩
          gi_wp2
          go_roundw
          case rel => exact ⟨k + 1, by omega, by go_num, by rw [Hy.out]; exact hJs, hnx⟩
          case measure => simp [intOf]; omega
    · obtain rfl : k = m := by omega
      gi_wp2
      go_end0
      exact ⟨⟨_, rfl⟩, .inl ⟨_, rfl, hJs⟩⟩
theorem live_stops (n : Nat) (hn : 1 ≤ n) (Bc n₀ b gu m : Nat) (us : List Bool) (hus : us.length = m) (hm16 : m ≤ 16) (w : World)
    (hBc : w.cell? ⟨Bc, 0, none⟩ = some (.pointer (some ⟨b, 0, none⟩))) (hc2 : w.cell? ⟨b, 2, none⟩ = some (.slice (some ⟨gu, 0, none⟩) m m)) (hU : Blk w gu 4 (us.map Value.bool).toArray) (hlt : Bc < n₀ ∧ b < n₀ ∧ gu < n₀) (hn0 : n₀ ≤ w.heap.size) :
    SeqStopsK Fence.wide n Try.prog 33 #[.pointer (some ⟨Bc, 0, none⟩)] (fun x : Int => #[iv x]) (Below n₀) (fun ys => ys = liveTo us m) (fun pre => pre <+: liveTo us m) (liveTo us m).length w := fun l J Jx W hW hJ _ hY h0 =>
  live1_in n hn l Bc n₀ b gu m us hus hm16 J Jx hY W
    ((hW.cell (p := ⟨Bc, 0, none⟩) (by simp; omega)).trans hBc) ((hW.cell (p := ⟨b, 2, none⟩) (by simp; omega)).trans hc2) ((hW.block _ (by omega)).trans hU) hlt h0
theorem livef_any (p : Option Addr) (w : World) :
    Calls Try.prog 29 #[.pointer p] w fun e w' => e = .returned (.func (.func 33) #[] #[.pointer (some ⟨w.heap.size, 0, none⟩)]) ∧
      w' = w.alloc (.cells #[.pointer p] 25) := by
  go_enter Try.func29, Try.ntmps29
  go_wp2
  go_ret
  exact ⟨rfl, rfl⟩
def LivePost (us : List Bool) (m : Nat) (w : World) (e : Ending) (w' : World) : Prop :=
  ∃ v, e = .returned v ∧ w'.ownsRow w.heap.size 3 1 v (liveTo us m).length ((liveTo us m).map iv) ∧ Frm (fun _ => False) w w'
theorem coll_any (S : Nat → Prop) (b m size : Nat) (fr : List Nat) (us : List Bool) (dt : List (List UInt8)) (w : World) (h : PAt w S b m size fr us dt) :
    Calls Try.prog 28 #[.func (.func 33) #[] #[.pointer (some ⟨w.heap.size, 0, none⟩)]]
      (w.alloc (.cells #[.pointer (some ⟨b, 0, none⟩)] 25)) (LivePost us m w) := by
  have e1 := Blk.new w 25 #[.pointer (some ⟨b, 0, none⟩)]
  have hF : Frm (fun _ => False) w (w.alloc (.cells #[.pointer (some ⟨b, 0, none⟩)] 25)) := (Frm.refl _ _).alloc _
  have hsz : (w.alloc (.cells #[.pointer (some ⟨b, 0, none⟩)] 25)).heap.size = w.heap.size + 1 := by simp
  obtain ⟨gu, gd, vf, vs, h1⟩ := h
  have h2 := h1.keptF hF
  generalize w.alloc (.cells #[.pointer (some ⟨b, 0, none⟩)] 25) = w1 at *
  have hlen := liveTo_len us m
  have hb := h1.lie.2.2.2.2.2 _ h1.lie.1
  have hu := h1.lie.2.2.2.2.2 _ h1.lie.2.1
  have hm := h1.siz.2.1
  refine (collect_calls _ _ (enters_of Try.func33 (by kernel_rfl) rfl) (liveTo us m) (by omega) w1
    (live_stops 6 (by omega) w.heap.size w1.heap.size b gu m us h1.len.1 hm w1 (e1.cell 0) h2.cells.2.2.1 h2.hu ⟨by omega, by omega, by omega⟩ (Nat.le_refl _))).mono ?_
  rintro e w' ⟨v, rfl, hr, _, hB⟩
  refine ⟨v, rfl, ?_, hF.trans (Frm.of_below hB) (fun _ h => h.elim)⟩
  refine ⟨hr.1, hr.2.imp id ?_⟩
  rintro ⟨g, cap, cur, hv, hb', rest⟩
  exact ⟨g, cap, cur, hv, by omega, rest⟩
theorem live_nil (w : World) : Calls Try.prog 19 #[.pointer none] w fun e w' => e = .returned (.slice none 0 0) ∧ w = w' := by
  go_enter Try.func19, Try.ntmps19
  go_wp2
  go_ret
  exact ⟨rfl, rfl⟩
theorem live_any (S : Nat → Prop) (b m size : Nat) (fr : List Nat) (us : List Bool) (dt : List (List UInt8)) (w : World) (h : PAt w S b m size fr us dt) :
    Calls Try.prog 19 #[.pointer (some ⟨b, 0, none⟩)] w (LivePost us m w) := by
  have H := Lib.hid h
  clear h
  go_enter Try.func19, Try.ntmps19
  go_wp2_with fail
  refine (livef_any (some ⟨b, 0, none⟩) w).mono ?_
  rintro e w' ⟨rfl, rfl⟩
  go_wp2_with fail
  refine (coll_any S b m size fr us dt w H.out).mono ?_
  rintro e w1 ⟨v, rfl, hv, hF⟩
  go_wp2_with fail
  go_ret
  exact ⟨_, rfl, hv, hF⟩
/-- Which pools may be. -/
def mayB (many size : Int) : Bool := decide (1 ≤ many ∧ many ≤ 16 ∧ 1 ≤ size ∧ size ≤ 288)
theorem new_no (many size : Int) (w : World) (h : mayB many size = false) : Calls Try.prog 9 #[.int .i64 many, .int .i64 size] w fun e w' => e = .returned (.tuple #[.pointer none, .int .i64 2]) ∧ w = w' := by
  have h' : ¬ (1 ≤ many ∧ many ≤ 16 ∧ 1 ≤ size ∧ size ≤ 288) := by simpa [mayB] using h
  clear h
  by_cases h1 : many < 1
  · clear h'
    go_enter Try.func9, Try.ntmps9
    go_wp2
    go_ret2
    exact ⟨rfl, rfl⟩
  by_cases h2 : 16 < many
  · clear h'
    go_enter Try.func9, Try.ntmps9
    go_wp2
    go_ret2
    exact ⟨rfl, rfl⟩
  by_cases h3 : size < 1
  · clear h'
    go_enter Try.func9, Try.ntmps9
    go_wp2
    go_ret2
    exact ⟨rfl, rfl⟩
  · have h4 : 288 < size := by omega
    clear h'
    go_enter Try.func9, Try.ntmps9
    go_wp2
    go_ret2
    exact ⟨rfl, rfl⟩
theorem infoBl : (Try.prog.info? 4).map (fun i => (i.zero, i.size, i.bytes)) = some (some (.bool false), 1, 1) := by kernel_rfl
theorem infoSl : (Try.prog.info? 32).map (fun i => (i.zero, i.size, i.bytes)) = some (some (.slice none 0 0), 1, 24) := by kernel_rfl
theorem made_rep (a : Value) (n : Nat) : madeCells #[a] n = (List.replicate n a).toArray := by
  apply Array.ext
  · simp [madeCells]
  · intro i h1 h2; simp [madeCells, Nat.mod_one]
theorem PAx.fresh {w w3 : World} {b gu gd m size : Nat} (hb : Blk w3 b 56 #[.slice none 0 0, .int .i64 size, .slice (some ⟨gu, 0, none⟩) m m, .slice (some ⟨gd, 0, none⟩) m m]) (hu : Blk w3 gu 4 (madeCells #[.bool false] m)) (hd : Blk w3 gd 32 (madeCells #[.slice none 0 0] m))
    (hlt : w.heap.size ≤ b ∧ w.heap.size ≤ gu ∧ w.heap.size ≤ gd) (h1 : 1 ≤ m) (h2 : m ≤ 16) (h4 : size ≤ 288) : PAx w3 (fun k => w.heap.size ≤ k ∧ k < w3.heap.size) b gu gd m size (.slice none 0 0) (List.replicate m (.slice none 0 0)) [] (List.replicate m false) (List.replicate m []) := by
  refine ⟨hb, by rw [made_rep] at hu; simpa using hu, by rw [made_rep] at hd; exact hd, by simp, World.ownsRow_nil _ _ _ _, ⟨fun i v l hv hl => ?_, fun i j v u k hv hu h => ?_⟩, ⟨⟨hlt.1, hb.lt⟩, ⟨hlt.2.1, hu.lt⟩, ⟨hlt.2.2, hd.lt⟩, fun k hk => (by cases hk), fun v hv k hk => ?_, fun k hk => hk.2⟩, h1, h2, h4, by simp, by simp⟩
  · rw [List.getElem?_replicate] at hv hl
    split at hv
    · rename_i hi
      rw [if_pos hi] at hl
      cases hv; cases hl
      exact ⟨World.ownsRow_nil _ _ _ _, by simp⟩
    · cases hv
  · rw [List.getElem?_replicate] at hv
    split at hv
    · cases hv; cases h
    · cases hv
  · rw [List.eq_of_mem_replicate hv] at hk; cases hk
set_option maxHeartbeats 1000000 in
theorem new_ok (m size : Nat) (w : World) (h1 : 1 ≤ m) (h2 : m ≤ 16) (h3 : 1 ≤ size) (h4 : size ≤ 288) :
    Calls Try.prog 9 #[.int .i64 m, .int .i64 size] w fun e w' => ∃ b S, e = .returned (.tuple #[.pointer (some ⟨b, 0, none⟩), .int .i64 0]) ∧
      PAt w' S b m size ((List.range m).map (m - 1 - ·)) (List.replicate m false) (List.replicate m []) ∧ (∀ k, S k → w.heap.size ≤ k) ∧ Frm (fun _ => False) w w' := by
  obtain ⟨i0, hi, hz0, hz1, hz2⟩ := info_parts infoBl
  obtain ⟨j0, hj, hy0, hy1, hy2⟩ := info_parts infoSl
  obtain ⟨k0, hk, hx0, hx1, hx2⟩ := info_parts infoB
  have mkB : ∀ w : World, (Instr.makeSlice 44 (.int .i64 m) (.int .i64 m)).run Try.prog w = .ok (.slice (some ⟨w.heap.size, 0, none⟩) m m) (w.alloc (.cells (madeCells #[.bool false] m) 4)) := fun w => by
    have := run_makeSlice (P := Try.prog) w 44 4 i0 _ Try.underlying44 hi hz0 .i64 .i64 m m (by omega) (Int.le_refl _) (by rw [hz1]; simp; omega) (by rw [hz2]; omega) (by omega)
    rw [hz1] at this
    simpa [Value.cells] using this
  have mkS : ∀ w : World, (Instr.makeSlice 45 (.int .i64 m) (.int .i64 m)).run Try.prog w = .ok (.slice (some ⟨w.heap.size, 0, none⟩) m m) (w.alloc (.cells (madeCells #[.slice none 0 0] m) 32)) := fun w => by
    have := run_makeSlice (P := Try.prog) w 45 32 j0 _ Try.underlying45 hj hy0 .i64 .i64 m m (by omega) (Int.le_refl _) (by rw [hy1]; simp; omega) (by rw [hy2]; omega) (by omega)
    rw [hy1] at this
    simpa [Value.cells] using this
  have mkU : ∀ w : World, (Instr.makeSlice 32 (.int .i64 0) (.int .i64 size)).run Try.prog w = .ok (.slice (some ⟨w.heap.size, 0, none⟩) 0 size) (w.alloc (.cells (madeCells #[.int .u8 0] size) 5)) := fun w => by
    have := run_makeSlice (P := Try.prog) w 32 5 k0 _ Try.underlying32 hk hx0 .i64 .i64 0 size (by omega) (by omega) (by rw [hx1]; simp; omega) (by rw [hx2]; omega) (by omega)
    rw [hx1] at this
    simpa [Value.cells] using this
  clear hi hz0 hz1 hz2 hj hy0 hy1 hy2 hk hx0 hx1 hx2
  have hd1 : ¬ (m : Int) < 1 := by omega
  have hd2 : ¬ (16 : Int) < (m : Int) := by omega
  have hd3 : ¬ (size : Int) < 1 := by omega
  have hd4 : ¬ (288 : Int) < (size : Int) := by omega
  go_enter Try.func9, Try.ntmps9
  go_upto_region 3 with fail
  go_cut [6] (fun t wc => ∃ b gu gd, t = .pointer (some ⟨b, 0, none⟩) ∧ Hid (PAx wc (fun k => w.heap.size ≤ k ∧ k < wc.heap.size) b gu gd m size (.slice none 0 0) (List.replicate m (.slice none 0 0)) [] (List.replicate m false) (List.replicate m []) ∧ Frm (fun _ => False) w wc))
  case first =>
    go_region
    all_goals
      go_wp2_with fail
      go_meet
      case rel =>
        first
        | (refine ⟨w.heap.size + 1 + 1, w.heap.size, w.heap.size + 1, rfl, Lib.hid ⟨PAx.fresh ?_ ?_ ?_ ⟨by omega, by omega, by omega⟩ h1 h2 h4, ((((Frm.refl _ w).alloc _).alloc _).alloc _).drew⟩⟩
           · refine Blk.drew ?_
             have := Blk.new ((w.alloc (.cells (madeCells #[.bool false] m) 4)).alloc (.cells (madeCells #[.slice none 0 0] m) 32)) 56 #[.slice none 0 0, .int .i64 size, .slice (some ⟨w.heap.size, 0, none⟩) m m, .slice (some ⟨w.heap.size + 1, 0, none⟩) m m]
             simpa using this
           · exact Blk.drew (Blk.alloc (Blk.alloc (Blk.new w _ _) _) _)
           · (refine Blk.drew (Blk.alloc ?_ _); have := Blk.new (w.alloc (.cells (madeCells #[.bool false] m) 4)) 32 (madeCells #[.slice none 0 0] m); simpa using this))
        | (refine ⟨w.heap.size + 1 + 1, w.heap.size + 1, w.heap.size, rfl, Lib.hid ⟨PAx.fresh ?_ ?_ ?_ ⟨by omega, by omega, by omega⟩ h1 h2 h4, ((((Frm.refl _ w).alloc _).alloc _).alloc _).drew⟩⟩
           · refine Blk.drew ?_
             have := Blk.new ((w.alloc (.cells (madeCells #[.slice none 0 0] m) 32)).alloc (.cells (madeCells #[.bool false] m) 4)) 56 #[.slice none 0 0, .int .i64 size, .slice (some ⟨w.heap.size + 1, 0, none⟩) m m, .slice (some ⟨w.heap.size, 0, none⟩) m m]
             simpa using this
           · (refine Blk.drew (Blk.alloc ?_ _); have := Blk.new (w.alloc (.cells (madeCells #[.slice none 0 0] m) 32)) 4 (madeCells #[.bool false] m); simpa using this)
           · exact Blk.drew (Blk.alloc (Blk.alloc (Blk.new w _ _) _) _))
  case rest =>
    obtain ⟨b, gu, gd, rfl, h0⟩ := hcut
    have HT : Hid (∃ S, PAt wc S b m size ((List.range 0).map (m - 1 - ·)) (List.replicate m false) (List.replicate m []) ∧ (∀ k, S k → w.heap.size ≤ k) ∧ Frm (fun _ => False) w wc) :=
      Lib.hid ⟨fun k => w.heap.size ≤ k ∧ k < wc.heap.size, ⟨_, _, _, _, by simpa using h0.out.1⟩, fun k hk => hk.1, h0.out.2⟩
    clear h0
    go_wp2_with fail
    go_loopw [30] (fun i wr => ∃ k : Nat, k ≤ m ∧ i = .int .i64 k ∧ Hid (∃ S, PAt wr S b m size ((List.range k).map (m - 1 - ·)) (List.replicate m false) (List.replicate m []) ∧ (∀ k, S k → w.heap.size ≤ k) ∧ Frm (fun _ => False) w wr)) (fun i _ => m - (intOf i).toNat)
    case atStart => exact ⟨0, Nat.zero_le _, rfl, HT⟩
    case round =>
      clear HT
      obtain ⟨k, hk, rfl, hrel⟩ := hrel
      by_cases hlt : k < m
      · obtain ⟨S, ⟨gu, gd, vf, vs, hP⟩, hS, hF⟩ := hrel.out
        obtain ⟨c0, c1, c2, c3⟩ := hP.cells
        obtain ⟨A, c, l, hl, he, cr, ho, hc1, hc2, hs⟩ := hP.row k hlt
        have fd := hP.hd.frozen k
        have hl1 := hP.hd.lt
        have hl2 := hP.hb.lt
        have hsub1 : IntKind.i64.wrap ((m : Int) - 1) = (m : Int) - 1 := IntWalk.i64_in _ (by omega)
        have hle : l = [] := by rw [List.getElem?_replicate, if_pos hlt] at hl; exact (Option.some.inj hl).symm
        have HP := Lib.hid (And.intro hP (And.intro he (And.intro hS hF)))
        clear hP he hS hF c0 c1 c2 ho hl hrel
        subst hle
        have hnum : (m : Int) - 1 - (k : Int) = ((m - 1 - k : Nat) : Int) := by omega
        have hpush : ∀ q, Calls Try.prog 24 #[.pointer (some ⟨b, 0, none⟩), .int .i64 ((m - 1 - k : Nat) : Int)] (((wr.setCell ⟨gd, k, none⟩ (.slice (some ⟨wr.heap.size, 0, none⟩) 0 size)).alloc (.cells (madeCells #[.int .u8 0] size) 5)).drewN q) fun e w' => (∃ v, e = .returned v) ∧
            ∃ S, PAt w' S b m size ((List.range (k + 1)).map (m - 1 - ·)) (List.replicate m false) (List.replicate m []) ∧ (∀ k, S k → w.heap.size ≤ k) ∧ Frm (fun _ => False) w w' := fun q => by
          rw [← World.setCell_alloc_past _ gd k _ hl1]
          obtain ⟨hP, ⟨hkv, he⟩, hS, hF⟩ := HP.out
          have hd := hP.data hkv ((Frm.refl (fun _ => False) wr).alloc (.cells (madeCells #[.int .u8 0] size) 5)) (fun _ h => h.elim) (v' := .slice (some ⟨wr.heap.size, 0, none⟩) 0 size) (l' := []) (World.ownsRow_made _ _ _ (Nat.zero_le _) (by unfold maxLen; omega) (by simp [madeCells])) (fun k hk => .inr (by cases hk; exact Nat.le_refl _)) (by simp)
          obtain ⟨S1, q1, q2, q3⟩ := hd
          refine (push_any S1 b m size (m - 1 - k) _ _ _ _ (q1.drewN q) (by omega) (by simp; omega)).mono ?_
          rintro e w' ⟨hv, S2, p1, p2, p3⟩
          refine ⟨hv, S2, ?_, ?_, ?_⟩
          · have e1 : (List.replicate m ([] : List UInt8)).set k [] = List.replicate m [] := by
              apply List.ext_getElem
              · simp
              · intro i h1 h2; simp [List.getElem_set]
            rw [e1] at p1
            rw [List.range_succ, List.map_append]
            exact p1
          · intro j hj
            have hsz := hF.size
            have hsz2 := q3.size
            rcases p2 j hj with h | h
            · rcases q2 j h with h | h
              · exact hS j h
              · omega
            · simp at h; omega
          · exact (hF.trans (q3.drewN q) (fun j hj => .inr (hS j hj))).trans p3 (fun j hj => .inr (by
              have hsz := hF.size
              rcases q2 j hj with h | h
              · exact hS j h
              · omega))
        have Hpush := Lib.hid hpush
        clear hpush
        go_upto_region 7 with fail
        go_region
        all_goals
          go_wp2_with fail
          refine (Hpush.out 1).mono ?_
          rintro e w' ⟨⟨v, rfl⟩, hL⟩
          have HL := Lib.hid hL
          clear hL
          go_wp2_with fail
          go_roundw
          case rel => exact ⟨k + 1, by omega, by go_num, HL⟩
          case measure => simp [intOf]; omega
      · obtain rfl : k = m := by omega
        go_wp2_with fail
        go_ret2
        obtain ⟨S, hP, hS, hF⟩ := hrel.out
        exact ⟨b, S, rfl, hP, hS, hF⟩
end Go.Proofs.Ytkmammeaidfaaaa
