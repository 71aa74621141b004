/- The walks of package ring at string: Numbers, Clear, New. -/
import Derived.Test.YtcdhdpocnjmkmaaRs
import Derived.Laws.MakeOwn
namespace Go.Proofs.Ytcdhdpocnjmkmaa
open Go.RowKit Go.Shelf
namespace RS
theorem nums_stops (n : Nat) (hn : 1 ≤ n) (Bc Bf n₀ b g m next : Nat) (win : Nat → Option ByteArray) (w : World)
    (hBc : w.cell? ⟨Bc, 0, none⟩ = some (.pointer (some ⟨b, 0, none⟩))) (hBf : w.cell? ⟨Bf, 0, none⟩ = some (.int .i64 next)) (hR : RAt w b g m next win) (hlt : Bc < n₀ ∧ Bf < n₀ ∧ b < n₀ ∧ g < n₀) (hn0 : n₀ ≤ w.heap.size) :
    SeqStopsK Fence.wide n Try.prog 37 #[.pointer (some ⟨Bc, 0, none⟩), .pointer (some ⟨Bf, 0, none⟩)] (fun x : Int => #[iv x]) (Below n₀) (fun ys => ys = numsTo next win m) (fun pre => pre <+: numsTo next win m) (numsTo next win m).length w := fun l J Jx W hW hJ _ hY h0 =>
  nums1_in n hn l Bc Bf n₀ b g m next win J Jx (fun s A k hs => hJ s A _ none hs ⟨rfl, rfl, rfl, Nat.le_refl _, fun _ _ _ => rfl⟩ (fun r hr => by cases hr)) hY W
    ((hW.cell (p := ⟨Bc, 0, none⟩) (by simp; omega)).trans hBc) ((hW.cell (p := ⟨Bf, 0, none⟩) (by simp; omega)).trans hBf) (hR.kept (hW.block _ (by omega)) (hW.block _ (by omega))) hlt h0
theorem numbers_any (p : Option Addr) (n : Int) (w : World) :
    Calls Try.prog 34 #[.pointer p, .int .i64 n] w fun e w' => e = .returned (.func (.func 37) #[] #[.pointer (some ⟨w.heap.size, 0, none⟩), .pointer (some ⟨w.heap.size + 1, 0, none⟩)]) ∧
      w' = (w.alloc (.cells #[.pointer p] 78)).alloc (.cells #[.int .i64 n] 3) := by
  go_enter Try.func34, Try.ntmps34
  go_wp2
  go_ret
  exact ⟨rfl, rfl⟩
def NumsPost (xs : List Int) (w : World) (e : Ending) (w' : World) : Prop :=
  ∃ v, e = .returned v ∧ OSl w' (fun k => w.heap.size ≤ k) 3 v (xs.map iv) ∧ Frm (fun _ => False) w w'
/-- Collect over the numbers, behind the iterator's making. -/
theorem coll_any (b g m next : Nat) (win : Nat → Option ByteArray) (w : World) (h : RAt w b g m next win) :
    Calls Try.prog 30 #[.func (.func 37) #[] #[.pointer (some ⟨w.heap.size, 0, none⟩), .pointer (some ⟨w.heap.size + 1, 0, none⟩)]]
      ((w.alloc (.cells #[.pointer (some ⟨b, 0, none⟩)] 78)).alloc (.cells #[.int .i64 next] 3)).drew (NumsPost (numsTo next win m) w) := by
  obtain ⟨hl1, hl2⟩ := h.lt
  have e1 := Blk.new w 78 #[.pointer (some ⟨b, 0, none⟩)]
  have e2 := Blk.new (w.alloc (.cells #[.pointer (some ⟨b, 0, none⟩)] 78)) 3 #[.int .i64 next]
  have e3 := e1.alloc (.cells #[.int .i64 next] 3)
  have hF : Frm (fun _ => False) w ((w.alloc (.cells #[.pointer (some ⟨b, 0, none⟩)] 78)).alloc (.cells #[.int .i64 next] 3)) := ((Frm.refl _ _).alloc _).alloc _
  have hsz : ((w.alloc (.cells #[.pointer (some ⟨b, 0, none⟩)] 78)).alloc (.cells #[.int .i64 next] 3)).heap.size = w.heap.size + 2 := by simp
  rw [show (w.alloc (.cells #[.pointer (some ⟨b, 0, none⟩)] 78)).heap.size = w.heap.size + 1 from by simp] at e2
  replace e3 := e3.drew
  replace e2 := e2.drew
  replace hF := hF.drew
  replace hsz : ((w.alloc (.cells #[.pointer (some ⟨b, 0, none⟩)] 78)).alloc (.cells #[.int .i64 next] 3)).drew.heap.size = w.heap.size + 2 := hsz
  generalize ((w.alloc (.cells #[.pointer (some ⟨b, 0, none⟩)] 78)).alloc (.cells #[.int .i64 next] 3)).drew = w1 at *
  obtain ⟨_, hm2, _⟩ := h.room
  have hlen := numsTo_len next win m
  refine (collect_calls _ _ (enters_of Try.func37 (by kernel_rfl) rfl) (numsTo next win m) (by omega) w1
    (nums_stops 6 (by omega) w.heap.size (w.heap.size + 1) w1.heap.size b g m next win w1 (e3.cell 0) (e2.cell 0) (h.kept (hF.block _ hl1 id) (hF.block _ hl2 id)) ⟨by omega, by omega, by omega, by omega⟩ (Nat.le_refl _))).mono ?_
  rintro e w' ⟨v, rfl, hr, _, hB⟩
  exact ⟨v, rfl, OSl.of_own hr fun k hk => by have := (hr.lt k hk).1; omega, hF.trans (Frm.of_below hB) (fun _ h => h.elim)⟩
theorem nums_nil (w : World) : Calls Try.prog 24 #[.pointer none] w fun e w' => e = .returned (.slice none 0 0) ∧ w = w' := by
  go_enter Try.func24, Try.ntmps24
  go_wp2
  go_ret
  exact ⟨rfl, rfl⟩
set_option maxHeartbeats 400000 in
theorem nums_any (b g m next : Nat) (win : Nat → Option ByteArray) (w : World) (h : RAt w b g m next win) :
    Calls Try.prog 24 #[.pointer (some ⟨b, 0, none⟩)] w (NumsPost (numsTo next win m) w) := by
  have hc1 := h.cell1
  have H := Lib.hid h
  clear h
  go_enter Try.func24, Try.ntmps24
  go_wp2_with fail
  go_region_law (first
    | (refine step_call (by rfl) (numbers_any (some ⟨b, 0, none⟩) next _) _ _ (by rfl) (args2 (by rfl) (by rfl)) (Try.call34 _ _) ?_; rintro e w1 ⟨rfl, rfl⟩; refine ⟨_, rfl, ?_⟩)
    | (refine step_call (by rfl) (coll_any b g m next win w H.out) _ _ (by rfl) (args1 (by rfl)) (Try.call30 _ _) ?_; rintro e w1 ⟨v, rfl, hv, hF⟩; refine ⟨_, rfl, ?_⟩))
  all_goals
    go_wp2_with fail
    go_ret
    exact ⟨_, rfl, hv, hF⟩
theorem clear_nil (w : World) : Calls Try.prog 27 #[.pointer none] w fun e w' => e = .returned (.int .i64 0) ∧ w = w' := by
  go_enter Try.func27, Try.ntmps27
  go_wp2
  go_ret
  exact ⟨rfl, rfl⟩
def ClearPost (b g m next : Nat) (n : Nat) (w : World) (e : Ending) (w' : World) : Prop :=
  e = .returned (.int .i64 n) ∧ RAt w' b g m next (fun _ => none) ∧ Frm (fun k => w.heap.size ≤ k ∨ k = g) w w'
theorem place_zero : ∀ w, (zeroValue 73).run Try.prog w = .ok (.agg #[.string ByteArray.empty, .bool false]) w := fun w => Try.zeroValue73 w
theorem zc_even (a c : Value) (n i : Nat) (h : i < n) : (Builtin.zeroCells #[a, c] n)[i * 2]? = some a := by
  rw [Array.getElem?_eq_getElem (by simp [Builtin.zeroCells]; omega)]
  simp [Builtin.zeroCells]
theorem zc_odd (a c : Value) (n i : Nat) (h : i < n) : (Builtin.zeroCells #[a, c] n)[i * 2 + 1]? = some c := by
  rw [Array.getElem?_eq_getElem (by simp [Builtin.zeroCells]; omega)]
  simp [Builtin.zeroCells, Nat.add_mod]
theorem RAt.cleared {w : World} {b g m next : Nat} {win : Nat → Option ByteArray} (h : RAt w b g m next win) : RAt (w.setRow g (Builtin.zeroCells #[.string ByteArray.empty, .bool false] m)) b g m next (fun _ => none) := by
  have hne := h.ne_
  obtain ⟨cs, h1, h2, h3, hm1, hm2, hm3, h4⟩ := h
  refine ⟨_, (heap_setRow _ _ _ _ hne).trans h1, h2.setRow _, by simp [Builtin.zeroCells], hm1, hm2, hm3, fun i hi => ⟨?_, ByteArray.empty, ?_, fun y hy => by cases hy⟩⟩
  · exact zc_odd _ _ _ _ (Nat.mod_lt _ (by omega))
  · exact zc_even _ _ _ _ (Nat.mod_lt _ (by omega))
set_option maxHeartbeats 400000 in
theorem clear_any (b g m next : Nat) (win : Nat → Option ByteArray) (w : World) (h : RAt w b g m next win) :
    Calls Try.prog 27 #[.pointer (some ⟨b, 0, none⟩)] w (ClearPost b g m next (numsTo next win m).length w) := by
  have hN := nums_any b g m next win w h
  have H := Lib.hid h
  obtain ⟨hl1, hl2⟩ := h.lt
  clear h
  go_enter Try.func27, Try.ntmps27
  go_wp2_with fail
  refine hN.mono ?_
  rintro e w1 ⟨v, rfl, ⟨A, n, c, rfl, hn, hc, hm, _⟩, hF⟩
  clear hN
  have hR1 := H.out.kept (hF.block _ hl1 id) (hF.block _ hl2 id)
  have hc0 := hR1.cell0
  have hcl : ∀ ty, (Builtin.clear_ #[67] ty #[.slice (some ⟨g, 0, none⟩) m m]).run Try.prog w1 = .ok (.tuple #[]) (w1.setRow g (Builtin.zeroCells #[.string ByteArray.empty, .bool false] m)) := fun ty => by
    obtain ⟨cs, h1, h2, h3, hm1, _⟩ := id hR1
    exact run_clear_row w1 _ _ ty _ Try.underlying67 place_zero g m m _ cs h2 (by omega) (by simp [Value.cells]; omega) (by simp [Value.cells, Value.oneCell'])
  have hlen := numsTo_len next win m
  have hm2 := hR1.room.2.1
  rw [List.length_map] at hn
  subst hn
  have Hc := Lib.hid (And.intro hR1 hF)
  clear hR1 hF
  go_wp2_with fail
  go_ret
  obtain ⟨hR1, hF⟩ := Hc.out
  exact ⟨rfl, hR1.cleared, (hF.mono (K' := fun k => w.heap.size ≤ k ∨ k = g) (fun _ h => h.elim)).setRow (.inl (.inr rfl)) _⟩
def NewPost (m : Nat) (w : World) (e : Ending) (w' : World) : Prop :=
  e = .returned (.tuple #[.pointer (some ⟨w.heap.size + 1, 0, none⟩), .int .i64 0]) ∧ RAt w' (w.heap.size + 1) w.heap.size m 0 (fun _ => none) ∧ Frm (fun _ => False) w w'
theorem new_no (n : Int) (w : World) (h : n < 1 ∨ 16 < n) : Calls Try.prog 21 #[.int .i64 n] w fun e w' => e = .returned (.tuple #[.pointer none, .int .i64 2]) ∧ w = w' := by
  rcases h with h | h
  · go_enter Try.func21, Try.ntmps21
    go_wp2
    go_ret2
    exact ⟨rfl, rfl⟩
  · have h1 : ¬ n < 1 := by omega
    go_enter Try.func21, Try.ntmps21
    go_wp2
    go_ret2
    exact ⟨rfl, rfl⟩
theorem info_place : (Try.prog.info? 73).map (fun i => (i.zero, i.size)) = some (some (.agg #[.string ByteArray.empty, .bool false]), 2) := by kernel_rfl
theorem bytes_place : (Try.prog.info? 73).map (fun i => i.bytes) = some 24 := by kernel_rfl
theorem md_even (a c : Value) (n i : Nat) (h : i < n) : (madeCells #[a, c] (n * 2))[i * 2]? = some a := by
  rw [Array.getElem?_eq_getElem (by simp [madeCells]; omega)]
  simp [madeCells]
theorem md_odd (a c : Value) (n i : Nat) (h : i < n) : (madeCells #[a, c] (n * 2))[i * 2 + 1]? = some c := by
  rw [Array.getElem?_eq_getElem (by simp [madeCells]; omega)]
  simp [madeCells, Nat.add_mod]
theorem new_ok (m : Nat) (w : World) (h1 : 1 ≤ m) (h2 : m ≤ 16) : Calls Try.prog 21 #[.int .i64 m] w (NewPost m w) := by
  obtain ⟨i0, hi, hz0, hz1⟩ : ∃ i, Try.prog.info? 73 = some i ∧ i.zero = some (.agg #[.string ByteArray.empty, .bool false]) ∧ i.size = 2 := by
    have := info_place
    cases hh : Try.prog.info? 73 with
    | none => rw [hh] at this; cases this
    | some i => rw [hh] at this; simp at this; exact ⟨i, rfl, this.1, this.2⟩
  have hz2 : i0.bytes = 24 := by have := bytes_place; rw [hi] at this; simpa using this
  have hmk : (Instr.makeSlice 67 (.int .i64 m) (.int .i64 m)).run Try.prog w = .ok (.slice (some ⟨w.heap.size, 0, none⟩) m m) (w.alloc (.cells (madeCells #[.string ByteArray.empty, .bool false] (m * 2)) 73)) := by
    have := run_makeSlice (P := Try.prog) w 67 73 i0 _ Try.underlying67 hi hz0 .i64 .i64 m m (by omega) (Int.le_refl _) (by rw [hz1]; simp; omega) (by rw [hz2]; omega) (by omega)
    rw [hz1] at this
    simpa [Value.cells] using this
  have Hmk := Lib.hid hmk
  have hd1 : ¬ (m : Int) < 1 := by omega
  have hd2 : ¬ (16 : Int) < (m : Int) := by omega
  clear hi hz0 hz1 hz2
  go_enter Try.func21, Try.ntmps21
  go_wp2
  go_ret2
  refine ⟨rfl, ⟨madeCells #[.string ByteArray.empty, .bool false] (m * 2), ?_, ?_, ?_, h1, h2, by omega, fun i hi => ⟨?_, ByteArray.empty, ?_, fun y hy => by cases hy⟩⟩, ((Frm.refl _ _).alloc _).alloc _⟩
  · have := Blk.new (w.alloc (.cells (madeCells #[.string ByteArray.empty, .bool false] (m * 2)) 73)) 71 #[.slice (some ⟨w.heap.size, 0, none⟩) m m, .int .i64 0]
    simpa using this
  · exact (Blk.new w _ _).alloc _
  · simp [madeCells]
  · exact md_odd _ _ _ _ (Nat.mod_lt _ (by omega))
  · exact md_even _ _ _ _ (Nat.mod_lt _ (by omega))
theorem put_ok' (b g m next : Nat) (win : Nat → Option ByteArray) (i : Nat) (n : Int) (x : ByteArray) (w : World) (h : RAt w b g m next win) (hn : n = ((next + i : Nat) : Int)) (hi : i < m) (hy : win i = none) :
    Calls Try.prog 23 #[.pointer (some ⟨b, 0, none⟩), .int .i64 n, .string x] w (PutPost b g m next win i x w) := hn ▸ put_ok b g m next win i x w h hi hy
theorem put_full' (b g m next : Nat) (win : Nat → Option ByteArray) (i : Nat) (n : Int) (x y : ByteArray) (w : World) (h : RAt w b g m next win) (hn : n = ((next + i : Nat) : Int)) (hi : i < m) (hy : win i = some y) :
    Calls Try.prog 23 #[.pointer (some ⟨b, 0, none⟩), .int .i64 n, .string x] w (QPost (.bool false) w) := hn ▸ put_full b g m next win i x y w h hi hy
theorem put_no' (b g m next : Nat) (win : Nat → Option ByteArray) (n : Int) (x : ByteArray) (w : World) (h : RAt w b g m next win) (hn : n ≤ 9223372036854775807) (ha : Admit m next n = false) :
    Calls Try.prog 23 #[.pointer (some ⟨b, 0, none⟩), .int .i64 n, .string x] w (QPost (.bool false) w) := put_no b g m next win n x w h hn ha
theorem put_nil' (n : Int) (x : ByteArray) (w : World) : Calls Try.prog 23 #[.pointer none, .int .i64 n, .string x] w (QPost (.bool false) w) := put_nil n x w
theorem admits_eq (b g m next : Nat) (win : Nat → Option ByteArray) (n : Int) (w : World) (h : RAt w b g m next win) (hn : n ≤ 9223372036854775807) {t : Bool} (ht : Admit m next n = t) :
    Calls Try.prog 22 #[.pointer (some ⟨b, 0, none⟩), .int .i64 n] w (QPost (.bool t) w) := ht ▸ admits_any b g m next win n w h hn
theorem nums_eq (b g m next : Nat) (win : Nat → Option ByteArray) (w : World) (h : RAt w b g m next win) {xs : List Int} (hx : numsTo next win m = xs) :
    Calls Try.prog 24 #[.pointer (some ⟨b, 0, none⟩)] w (NumsPost xs w) := hx ▸ nums_any b g m next win w h
theorem new_ok' (m : Nat) (n : Int) (w : World) (hn : n = m) (h1 : 1 ≤ m) (h2 : m ≤ 16) : Calls Try.prog 21 #[.int .i64 n] w (NewPost m w) := hn ▸ new_ok m w h1 h2
theorem clear_eq (b g m next : Nat) (win : Nat → Option ByteArray) (n : Nat) (w : World) (h : RAt w b g m next win) (hn : (numsTo next win m).length = n) :
    Calls Try.prog 27 #[.pointer (some ⟨b, 0, none⟩)] w (ClearPost b g m next n w) := hn ▸ clear_any b g m next win w h
end RS
end Go.Proofs.Ytcdhdpocnjmkmaa
