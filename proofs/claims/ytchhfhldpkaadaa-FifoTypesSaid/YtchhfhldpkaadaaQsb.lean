/- The walks of package fifo at string: Get, Close, Closed, Len, Free, All, Clear, New. -/
import Derived.Test.YtchhfhldpkaadaaQs
import Derived.Test.YtchhfhldpkaadaaCs
import Derived.Laws.MakeOwn
namespace Go.Proofs.Ytchhfhldpkaadaa
open Go.RowKit Go.Shelf
namespace QS
theorem get_nil (w : World) : Calls Try.prog 26 #[.pointer none] w (QPost (.tuple #[.string ByteArray.empty, .bool false]) w) := by
  go_enter Try.func26, Try.ntmps26
  go_wp2
  go_ret2
  exact ⟨rfl, 0, rfl⟩
theorem get_no (b g m f : Nat) (cl : Bool) (w : World) (h : QAt w b g m f [] cl) :
    Calls Try.prog 26 #[.pointer (some ⟨b, 0, none⟩)] w (QPost (.tuple #[.string ByteArray.empty, .bool false]) w) := by
  obtain ⟨c0, c1, c2, c3⟩ := h.cells
  simp only [List.length_nil] at c2
  clear h
  go_enter Try.func26, Try.ntmps26
  go_wp2
  go_ret2
  exact ⟨rfl, 0, rfl⟩
def GetPost (b g m f : Nat) (x : ByteArray) (xs : List ByteArray) (cl : Bool) (w : World) (e : Ending) (w' : World) : Prop :=
  e = .returned (.tuple #[ev x, .bool true]) ∧ QAt w' b g m ((f + 1) % m) xs cl ∧ Frm (fun k => k = b ∨ k = g) w w'
theorem get_ok (b g m f : Nat) (x : ByteArray) (xs : List ByteArray) (cl : Bool) (w : World) (h : QAt w b g m f (x :: xs) cl) :
    Calls Try.prog 26 #[.pointer (some ⟨b, 0, none⟩)] w (GetPost b g m f x xs cl w) := by
  obtain ⟨c0, c1, c2, c3⟩ := h.cells
  have h4 := h.room.2.2.2
  have hm2 := h.room.2.1
  rw [List.length_cons] at c2 h4
  have hz : (((xs.length + 1 : Nat) : Int) == 0) = false := by simp; omega
  have H := Lib.hid h
  clear h
  generalize xs.length = n at *
  go_enter Try.func26, Try.ntmps26
  go_wp2_with fail
  refine (pop_any b g m f x xs cl _ H.out).mono ?_
  rintro e w1 ⟨rfl, hQ, hF⟩
  go_wp2_with fail
  go_ret2
  exact ⟨rfl, hQ, hF⟩
theorem close_nil (w : World) : Calls Try.prog 27 #[.pointer none] w fun e w' => e = .returned (.bool false) ∧ w = w' := by
  go_enter Try.func27, Try.ntmps27
  go_wp2
  go_ret
  exact ⟨rfl, rfl⟩
theorem QAt.close {w : World} {b g m f : Nat} {xs : List ByteArray} {cl : Bool} (h : QAt w b g m f xs cl) : QAt (w.setCell ⟨b, 3, none⟩ (.bool true)) b g m f xs true := by
  have hne := h.ne_
  obtain ⟨cs, h1, h2, rest⟩ := h
  exact ⟨cs, by simpa using h1.set_ 3 (.bool true), h2.far hne.symm _, rest⟩
def ClosePost (b g m f : Nat) (xs : List ByteArray) (cl : Bool) (w : World) (e : Ending) (w' : World) : Prop :=
  e = .returned (.bool !cl) ∧ QAt w' b g m f xs true ∧ Frm (fun k => k = b ∨ k = g) w w'
theorem close_any (b g m f : Nat) (xs : List ByteArray) (cl : Bool) (w : World) (h : QAt w b g m f xs cl) :
    Calls Try.prog 27 #[.pointer (some ⟨b, 0, none⟩)] w (ClosePost b g m f xs cl w) := by
  obtain ⟨c0, c1, c2, c3⟩ := h.cells
  have f3 := h.froz.1 3
  have H := Lib.hid h
  clear h c0 c1 c2
  cases cl with
  | true =>
    go_enter Try.func27, Try.ntmps27
    go_wp2
    go_ret
    exact ⟨rfl, H.out, Frm.refl _ _⟩
  | false =>
    go_enter Try.func27, Try.ntmps27
    go_wp2
    go_ret
    exact ⟨rfl, H.out.close, (Frm.refl (fun k => k = b ∨ k = g) w).setCell ⟨b, 3, none⟩ (.inl (.inl rfl)) _⟩
theorem closed_nil (w : World) : Calls Try.prog 32 #[.pointer none] w (QPost (.bool false) w) := by
  go_enter Try.func32, Try.ntmps32
  go_wp2
  go_ret
  exact ⟨rfl, 0, rfl⟩
theorem closed_any (b g m f : Nat) (xs : List ByteArray) (cl : Bool) (w : World) (h : QAt w b g m f xs cl) :
    Calls Try.prog 32 #[.pointer (some ⟨b, 0, none⟩)] w (QPost (.bool cl) w) := by
  obtain ⟨c0, c1, c2, c3⟩ := h.cells
  clear h c0 c1 c2
  go_enter Try.func32, Try.ntmps32
  go_wp2
  go_ret
  exact ⟨rfl, 0, rfl⟩
theorem len_nil (w : World) : Calls Try.prog 30 #[.pointer none] w fun e w' => e = .returned (.int .i64 0) ∧ w = w' := by
  go_enter Try.func30, Try.ntmps30
  go_wp2
  go_ret
  exact ⟨rfl, rfl⟩
theorem len_any (b g m f : Nat) (xs : List ByteArray) (cl : Bool) (w : World) (h : QAt w b g m f xs cl) :
    Calls Try.prog 30 #[.pointer (some ⟨b, 0, none⟩)] w fun e w' => e = .returned (.int .i64 xs.length) ∧ w = w' := by
  obtain ⟨c0, c1, c2, c3⟩ := h.cells
  clear h c0 c1 c3
  generalize xs.length = n at *
  go_enter Try.func30, Try.ntmps30
  go_wp2
  go_ret
  exact ⟨rfl, rfl⟩
theorem free_nil (w : World) : Calls Try.prog 31 #[.pointer none] w (QPost (.int .i64 0) w) := by
  go_enter Try.func31, Try.ntmps31
  go_wp2
  go_ret
  exact ⟨rfl, 0, rfl⟩
theorem free_any (b g m f : Nat) (xs : List ByteArray) (cl : Bool) (w : World) (h : QAt w b g m f xs cl) :
    Calls Try.prog 31 #[.pointer (some ⟨b, 0, none⟩)] w (QPost (.int .i64 ((m : Int) - (xs.length : Int))) w) := by
  have hl := left_any b g m f xs cl w h
  have Hl := Lib.hid hl
  clear h hl
  generalize (m : Int) - (xs.length : Int) = D at *
  go_enter Try.func31, Try.ntmps31
  go_wp2_with fail
  refine Hl.out.mono ?_
  rintro e w1 ⟨rfl, k, rfl⟩
  go_wp2_with fail
  go_ret
  exact ⟨rfl, k, rfl⟩
def ClearPost (b g m : Nat) (n : Nat) (cl : Bool) (w : World) (e : Ending) (w' : World) : Prop :=
  e = .returned (.int .i64 n) ∧ QAt w' b g m 0 [] cl ∧ Frm (fun k => k = b ∨ k = g) w w'
theorem zero_elem : ∀ w, (zeroValue 9).run Try.prog w = .ok (.string ByteArray.empty) w := fun w => Try.zeroValue9 w
theorem zc_at (a : Value) (n i : Nat) (h : i < n) : (Builtin.zeroCells #[a] n)[i]? = some a := by
  rw [Array.getElem?_eq_getElem (by simp [Builtin.zeroCells]; omega)]
  simp [Builtin.zeroCells, Nat.mod_one]
theorem QAt.cleared {w : World} {b g m f : Nat} {xs : List ByteArray} {cl : Bool} (h : QAt w b g m f xs cl) : QAt (((w.setRow g (Builtin.zeroCells #[.string ByteArray.empty] m)).setCell ⟨b, 1, none⟩ (.int .i64 0)).setCell ⟨b, 2, none⟩ (.int .i64 0)) b g m 0 [] cl := by
  have hne := h.ne_
  obtain ⟨cs, h1, h2, h3, hm1, hm2, hf, hl, h4, h5⟩ := h
  have hb : Blk (w.setRow g (Builtin.zeroCells #[.string ByteArray.empty] m)) b _ _ := (heap_setRow _ _ _ _ hne).trans h1
  refine ⟨_, by simpa using (hb.set_ 1 (.int .i64 0)).set_ 2 (.int .i64 0), ((h2.setRow _).far hne.symm _).far hne.symm _, by simp [Builtin.zeroCells], hm1, hm2, by omega, by simp, fun i hi => ⟨ByteArray.empty, zc_at _ _ _ hi⟩, fun i hi => by simp at hi⟩
theorem clear_nil (w : World) : Calls Try.prog 28 #[.pointer none] w fun e w' => e = .returned (.int .i64 0) ∧ w = w' := by
  go_enter Try.func28, Try.ntmps28
  go_wp2
  go_ret
  exact ⟨rfl, rfl⟩
theorem clear_any (b g m f : Nat) (xs : List ByteArray) (cl : Bool) (w : World) (h : QAt w b g m f xs cl) :
    Calls Try.prog 28 #[.pointer (some ⟨b, 0, none⟩)] w (ClearPost b g m xs.length cl w) := by
  obtain ⟨c0, c1, c2, c3⟩ := h.cells
  have f1 := h.froz.1 1
  have f2 := h.froz.1 2
  have hcl : ∀ ty, (Builtin.clear_ #[48] ty #[.slice (some ⟨g, 0, none⟩) m m]).run Try.prog w = .ok (.tuple #[]) (w.setRow g (Builtin.zeroCells #[.string ByteArray.empty] m)) := fun ty => by
    obtain ⟨cs, h1, h2, h3, hm1, _⟩ := id h
    exact run_clear_row w _ _ ty _ Try.underlying48 zero_elem g m m _ cs h2 (by omega) (by simp [Value.cells]; omega) (by simp [Value.cells, Value.oneCell'])
  have hne := h.ne_
  have hbk : (w.setRow g (Builtin.zeroCells #[.string ByteArray.empty] m)).frozen? ⟨b, 1, none⟩ = false ∧ (w.setRow g (Builtin.zeroCells #[.string ByteArray.empty] m)).frozen? ⟨b, 2, none⟩ = false ∧ (w.setRow g (Builtin.zeroCells #[.string ByteArray.empty] m)).cell? ⟨b, 1, none⟩ = some (.int .i64 f) ∧ (w.setRow g (Builtin.zeroCells #[.string ByteArray.empty] m)).cell? ⟨b, 2, none⟩ = some (.int .i64 xs.length) := by
    obtain ⟨cs, h1, _⟩ := id h
    have hb : Blk (w.setRow g (Builtin.zeroCells #[.string ByteArray.empty] m)) b _ _ := (heap_setRow _ _ _ _ hne).trans h1
    exact ⟨hb.frozen 1, hb.frozen 2, hb.cell 1, hb.cell 2⟩
  obtain ⟨k1, k2, k3, k4⟩ := hbk
  have H := Lib.hid h
  clear h
  generalize hn : xs.length = n at *
  have Hn := Lib.hid hn
  clear hn f1 f2
  go_enter Try.func28, Try.ntmps28
  go_wp2
  go_ret
  exact ⟨rfl, H.out.cleared, (((Frm.refl (fun k => k = b ∨ k = g) w).setRow (.inl (.inr rfl)) _).setCell ⟨b, 1, none⟩ (.inl (.inl rfl)) _).setCell ⟨b, 2, none⟩ (.inl (.inl rfl)) _⟩
def NewPost (m : Nat) (w : World) (e : Ending) (w' : World) : Prop :=
  ∃ b g, e = .returned (.tuple #[.pointer (some ⟨b, 0, none⟩), .int .i64 0]) ∧ QAt w' b g m 0 [] false ∧ Frm (fun _ => False) w w' ∧ w.heap.size ≤ b ∧ w.heap.size ≤ g
theorem new_no (n : Int) (w : World) (h : n < 1 ∨ 16 < n) : Calls Try.prog 24 #[.int .i64 n] w fun e w' => e = .returned (.tuple #[.pointer none, .int .i64 2]) ∧ w = w' := by
  rcases h with h | h
  · go_enter Try.func24, Try.ntmps24
    go_wp2
    go_ret2
    exact ⟨rfl, rfl⟩
  · have h1 : ¬ n < 1 := by omega
    go_enter Try.func24, Try.ntmps24
    go_wp2
    go_ret2
    exact ⟨rfl, rfl⟩
theorem md_at (a : Value) (n i : Nat) (h : i < n) : (madeCells #[a] n)[i]? = some a := by
  rw [Array.getElem?_eq_getElem (by simp [madeCells]; omega)]
  simp [madeCells, Nat.mod_one]
theorem new_ok (m : Nat) (w : World) (h1 : 1 ≤ m) (h2 : m ≤ 16) : Calls Try.prog 24 #[.int .i64 m] w (NewPost m w) := by
  obtain ⟨i0, hi, hz0, hz1, hz2⟩ := info_parts CS.infoI
  have hmk : (Instr.makeSlice 48 (.int .i64 m) (.int .i64 m)).run Try.prog w = .ok (.slice (some ⟨w.heap.size, 0, none⟩) m m) (w.alloc (.cells (madeCells #[.string ByteArray.empty] m) 9)) := by
    have := run_makeSlice (P := Try.prog) w 48 9 i0 _ Try.underlying48 hi hz0 .i64 .i64 m m (by omega) (Int.le_refl _) (by rw [hz1]; simp; omega) (by rw [hz2]; omega) (by omega)
    rw [hz1] at this
    simpa [Value.cells] using this
  have Hmk := Lib.hid hmk
  have hd1 : ¬ (m : Int) < 1 := by omega
  have hd2 : ¬ (16 : Int) < (m : Int) := by omega
  clear hi hz0 hz1 hz2
  go_enter Try.func24, Try.ntmps24
  go_wp2
  go_ret2
  refine ⟨w.heap.size + 1, w.heap.size, rfl, ⟨madeCells #[.string ByteArray.empty] m, ?_, ?_, ?_, h1, h2, by omega, by simp, fun i hi => ⟨ByteArray.empty, md_at _ _ _ hi⟩, fun i hi => by simp at hi⟩, ((Frm.refl _ _).alloc _).alloc _, by omega, by omega⟩
  · have := Blk.new (w.alloc (.cells (madeCells #[.string ByteArray.empty] m) 9)) 66 #[.slice (some ⟨w.heap.size, 0, none⟩) m m, .int .i64 0, .int .i64 0, .bool false]
    simpa using this
  · exact (Blk.new w _ _).alloc _
  · simp [madeCells]
end QS
end Go.Proofs.Ytchhfhldpkaadaa
