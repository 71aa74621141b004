/- The walks of package ring at string. -/
import Derived.Test.YtcdhdpocnjmkmaaCo
namespace Go.Proofs.Ytcdhdpocnjmkmaa
open Go.RowKit Go.Shelf
namespace RS
def ev (x : ByteArray) : Value := .string x
/-- A ring: its block b, its places' block g, room m, the next number, the window from it on. -/
def RAt (w : World) (b g m next : Nat) (win : Nat → Option ByteArray) : Prop :=
  ∃ cs, Blk w b 71 #[.slice (some ⟨g, 0, none⟩) m m, .int .i64 next] ∧ Blk w g 73 cs ∧ cs.size = m * 2 ∧ 1 ≤ m ∧ m ≤ 16 ∧ next ≤ 1000000 ∧
    ∀ i, i < m → cs[(next + i) % m * 2 + 1]? = some (.bool (win i).isSome) ∧ ∃ x, cs[(next + i) % m * 2]? = some (ev x) ∧ ∀ y, win i = some y → y = x
section
variable {w w' : World} {b g m next : Nat} {win : Nat → Option ByteArray}
theorem RAt.kept (h : RAt w b g m next win) (hb : w'.heap[b]? = w.heap[b]?) (hg : w'.heap[g]? = w.heap[g]?) : RAt w' b g m next win := by
  obtain ⟨cs, h1, h2, rest⟩ := h
  exact ⟨cs, hb.trans h1, hg.trans h2, rest⟩
theorem RAt.drewN (h : RAt w b g m next win) (n : Nat) : RAt (w.drewN n) b g m next win := h.kept rfl rfl
theorem RAt.lt (h : RAt w b g m next win) : b < w.heap.size ∧ g < w.heap.size := by
  obtain ⟨cs, h1, h2, _⟩ := h
  exact ⟨h1.lt, h2.lt⟩
theorem RAt.cell0 (h : RAt w b g m next win) : w.cell? ⟨b, 0, none⟩ = some (.slice (some ⟨g, 0, none⟩) m m) := by obtain ⟨cs, h1, _⟩ := h; exact h1.cell 0
theorem RAt.cell1 (h : RAt w b g m next win) : w.cell? ⟨b, 1, none⟩ = some (.int .i64 next) := by obtain ⟨cs, h1, _⟩ := h; exact h1.cell 1
theorem RAt.room (h : RAt w b g m next win) : 1 ≤ m ∧ m ≤ 16 ∧ next ≤ 1000000 := by obtain ⟨cs, _, _, _, h1, h2, h3, _⟩ := h; exact ⟨h1, h2, h3⟩
theorem RAt.ne_ (h : RAt w b g m next win) : b ≠ g := by obtain ⟨cs, h1, h2, _⟩ := h; exact h1.ne_ h2 (by decide)
theorem RAt.there (h : RAt w b g m next win) (i : Nat) (hi : i < m) : w.cell? ⟨g, (next + i) % m * 2 + 1, none⟩ = some (.bool (win i).isSome) := by
  obtain ⟨cs, _, h2, _, _, _, _, h3⟩ := h
  exact (h2.cell _).trans (h3 i hi).1
theorem RAt.thing (h : RAt w b g m next win) (i : Nat) (hi : i < m) (x : ByteArray) (hx : win i = some x) : w.cell? ⟨g, (next + i) % m * 2, none⟩ = some (ev x) := by
  obtain ⟨cs, _, h2, _, _, _, _, h3⟩ := h
  obtain ⟨_, y, hy, he⟩ := h3 i hi
  rw [he x hx]
  exact (h2.cell _).trans hy
end
theorem mod_inj {next i j m : Nat} (hi : i < m) (hj : j < m) (h : (next + i) % m = (next + j) % m) : i = j := by
  have h1 := Nat.div_add_mod (next + i) m
  have h2 := Nat.div_add_mod (next + j) m
  rw [h] at h1
  rcases Nat.lt_trichotomy ((next + i) / m) ((next + j) / m) with hq | hq | hq
  · have := Nat.mul_le_mul_left m hq
    rw [Nat.mul_succ] at this
    omega
  · rw [hq] at h1; omega
  · have := Nat.mul_le_mul_left m hq
    rw [Nat.mul_succ] at this
    omega
/-- A window with x put at place j. -/
def putW (win : Nat → Option ByteArray) (j : Nat) (x : ByteArray) : Nat → Option ByteArray := fun i => if i = j then some x else win i
theorem RAt.put {w : World} {b g m next : Nat} {win : Nat → Option ByteArray} (h : RAt w b g m next win) {i : Nat} (hi : i < m) (x : ByteArray) :
    RAt ((w.setCell ⟨g, (next + i) % m * 2, none⟩ (ev x)).setCell ⟨g, (next + i) % m * 2 + 1, none⟩ (.bool true)) b g m next (putW win i x) := by
  have hne := h.ne_
  obtain ⟨cs, h1, h2, h3, hm1, hm2, hm3, h4⟩ := h
  have hlt : (next + i) % m < m := Nat.mod_lt _ (by omega)
  refine ⟨_, (h1.far hne _).far hne _, (h2.set_ _ _).set_ _ _, by simp only [Array.size_setIfInBounds]; exact h3, hm1, hm2, hm3, fun j hj => ?_⟩
  have hltj : (next + j) % m < m := Nat.mod_lt _ (by omega)
  by_cases hij : j = i
  · subst hij
    simp only [putW, if_pos, Option.isSome_some]
    refine ⟨?_, x, ?_, fun y hy => by cases hy; rfl⟩
    · rw [Array.getElem?_setIfInBounds, if_pos rfl, if_pos (by simp only [Array.size_setIfInBounds]; omega)]
    · rw [Array.getElem?_setIfInBounds, if_neg (by omega), Array.getElem?_setIfInBounds, if_pos rfl, if_pos (by omega)]
  · have hd : (next + j) % m ≠ (next + i) % m := fun e => hij (mod_inj hj hi e)
    obtain ⟨q1, y, q2, q3⟩ := h4 j hj
    simp only [putW, if_neg hij]
    refine ⟨?_, y, ?_, q3⟩
    · rw [Array.getElem?_setIfInBounds, if_neg (by omega), Array.getElem?_setIfInBounds, if_neg (by omega)]; exact q1
    · rw [Array.getElem?_setIfInBounds, if_neg (by omega), Array.getElem?_setIfInBounds, if_neg (by omega)]; exact q2
/-- The window behind the next number. -/
def takeW (m : Nat) (win : Nat → Option ByteArray) : Nat → Option ByteArray := fun i => if i + 1 < m then win (i + 1) else none
theorem RAt.take {w : World} {b g m next : Nat} {win : Nat → Option ByteArray} (h : RAt w b g m next win) (hnx : next < 1000000) :
    RAt (((w.setCell ⟨g, next % m * 2, none⟩ (.string ByteArray.empty)).setCell ⟨g, next % m * 2 + 1, none⟩ (.bool false)).setCell ⟨b, 1, none⟩ (.int .i64 ((next : Int) + 1))) b g m (next + 1) (takeW m win) := by
  have hne := h.ne_
  obtain ⟨cs, h1, h2, h3, hm1, hm2, hm3, h4⟩ := h
  have hlt : next % m < m := Nat.mod_lt _ (by omega)
  refine ⟨_, ((h1.far hne _).far hne _).set_ 1 _, ((h2.set_ _ _).set_ _ _).far hne.symm _, by simp only [Array.size_setIfInBounds]; exact h3, hm1, hm2, by omega, fun j hj => ?_⟩
  by_cases hij : j + 1 < m
  · obtain ⟨q1, y, q2, q3⟩ := h4 (j + 1) hij
    have hd : (next + (j + 1)) % m ≠ next % m := fun e => absurd (mod_inj (next := next) (i := j + 1) (j := 0) hij (by omega) (by rw [e]; rfl)) (by omega)
    rw [show next + 1 + j = next + (j + 1) from by omega]
    simp only [takeW, if_pos hij]
    refine ⟨?_, y, ?_, q3⟩
    · rw [Array.getElem?_setIfInBounds, if_neg (by omega), Array.getElem?_setIfInBounds, if_neg (by omega)]; exact q1
    · rw [Array.getElem?_setIfInBounds, if_neg (by omega), Array.getElem?_setIfInBounds, if_neg (by omega)]; exact q2
  · obtain rfl : m = j + 1 := by omega
    rw [show (next + 1 + j) = next + (j + 1) from by omega, Nat.add_mod_right]
    simp only [takeW, if_neg hij, Option.isSome_none]
    refine ⟨?_, ByteArray.empty, ?_, fun y hy => by cases hy⟩
    · rw [Array.getElem?_setIfInBounds, if_pos rfl, if_pos (by simp only [Array.size_setIfInBounds]; omega)]
    · rw [Array.getElem?_setIfInBounds, if_neg (by omega), Array.getElem?_setIfInBounds, if_pos rfl, if_pos (by omega)]; rfl
theorem room_any (b g m : Nat) (w : World) (h : w.cell? ⟨b, 0, none⟩ = some (.slice (some ⟨g, 0, none⟩) m m)) :
    Calls Try.prog 32 #[.pointer (some ⟨b, 0, none⟩)] w fun e w' => e = .returned (.int .i64 m) ∧ w = w' := by
  go_enter Try.func32, Try.ntmps32
  go_wp2
  go_ret
  exact ⟨rfl, rfl⟩
def AtPost (g m : Nat) (n : Int) (w : World) (e : Ending) (w' : World) : Prop := e = .returned (.pointer (some ⟨g, n.toNat % m * 2, none⟩)) ∧ ∃ k, w' = w.drewN k
theorem at_any (b g m : Nat) (n : Int) (w : World) (h : w.cell? ⟨b, 0, none⟩ = some (.slice (some ⟨g, 0, none⟩) m m)) (hm : 1 ≤ m) (hm2 : m ≤ 16) (h0 : 0 ≤ n) (h1 : n ≤ 1000000000) :
    Calls Try.prog 33 #[.pointer (some ⟨b, 0, none⟩), .int .i64 n] w (AtPost g m n w) := by
  obtain ⟨n, rfl⟩ := Int.eq_ofNat_of_zero_le h0
  have hlt : n % m < m := Nat.mod_lt _ (by omega)
  have hmz : ((m : Int) == 0) = false := by simp; omega
  go_enter Try.func33, Try.ntmps33
  go_wp2
  go_quiet (fail)
  go_wp2
  go_ret
  exact ⟨rfl, nq, rfl⟩
theorem at_nat (b g m n : Nat) (w : World) (h : w.cell? ⟨b, 0, none⟩ = some (.slice (some ⟨g, 0, none⟩) m m)) (hm : 1 ≤ m) (hm2 : m ≤ 16) (h1 : n ≤ 1000000000) :
    Calls Try.prog 33 #[.pointer (some ⟨b, 0, none⟩), .int .i64 n] w fun e w' => e = .returned (.pointer (some ⟨g, n % m * 2, none⟩)) ∧ ∃ k, w' = w.drewN k :=
  at_any b g m n w h hm hm2 (by omega) (by omega)
theorem at_add (b g m n i : Nat) (w : World) (h : w.cell? ⟨b, 0, none⟩ = some (.slice (some ⟨g, 0, none⟩) m m)) (hm : 1 ≤ m) (hm2 : m ≤ 16) (h1 : n + i ≤ 1000000000) :
    Calls Try.prog 33 #[.pointer (some ⟨b, 0, none⟩), .int .i64 ((n : Int) + (i : Int))] w fun e w' => e = .returned (.pointer (some ⟨g, (n + i) % m * 2, none⟩)) ∧ ∃ k, w' = w.drewN k := by
  rw [← Int.natCast_add]
  exact at_any b g m (n + i : Nat) w h hm hm2 (by omega) (by omega)
def Admit (m next : Nat) (n : Int) : Bool := decide ((next : Int) ≤ n ∧ n < next + m)
def QPost (v : Value) (w : World) (e : Ending) (w' : World) : Prop := e = .returned v ∧ ∃ k, w' = w.drewN k
theorem admits_nil (n : Int) (w : World) : Calls Try.prog 22 #[.pointer none, .int .i64 n] w (QPost (.bool false) w) := by
  go_enter Try.func22, Try.ntmps22
  go_wp2
  go_quiet (fail)
  go_wp2
  go_ret
  exact ⟨rfl, nq, rfl⟩
theorem admits_any (b g m next : Nat) (win : Nat → Option ByteArray) (n : Int) (w : World) (h : RAt w b g m next win) (hn : n ≤ 9223372036854775807) :
    Calls Try.prog 22 #[.pointer (some ⟨b, 0, none⟩), .int .i64 n] w (QPost (.bool (Admit m next n)) w) := by
  have hc0 := h.cell0
  have hc1 := h.cell1
  obtain ⟨hm1, hm2, hm3⟩ := h.room
  clear h
  by_cases h1 : n < next
  · have hd : decide ((next : Int) ≤ n) = false := by simp; omega
    have hA : Admit m next n = false := by unfold Admit; simp; omega
    rw [hA]
    clear hA
    go_enter Try.func22, Try.ntmps22
    go_wp2
    go_quiet (fail)
    go_wp2
    go_ret
    exact ⟨rfl, nq, rfl⟩
  · have hd : decide ((next : Int) ≤ n) = true := by simp; omega
    have hA : Admit m next n = decide (n - (next : Int) < (m : Int)) := by unfold Admit; rw [decide_eq_decide]; omega
    rw [hA]
    clear hA
    go_enter Try.func22, Try.ntmps22
    go_wp2
    go_quiet ((go_at_call 32; exact quiet_left (room_any b g m _ hc0)))
    go_wp2
    go_ret
    exact ⟨rfl, nq, rfl⟩
theorem next_nil (w : World) : Calls Try.prog 26 #[.pointer none] w fun e w' => e = .returned (.int .i64 0) ∧ w = w' := by
  go_enter Try.func26, Try.ntmps26
  go_wp2
  go_ret
  exact ⟨rfl, rfl⟩
theorem next_any (b g m next : Nat) (win : Nat → Option ByteArray) (w : World) (h : RAt w b g m next win) :
    Calls Try.prog 26 #[.pointer (some ⟨b, 0, none⟩)] w fun e w' => e = .returned (.int .i64 next) ∧ w = w' := by
  have hc1 := h.cell1
  clear h
  go_enter Try.func26, Try.ntmps26
  go_wp2
  go_ret
  exact ⟨rfl, rfl⟩
theorem put_nil (n : Int) (x : ByteArray) (w : World) : Calls Try.prog 23 #[.pointer none, .int .i64 n, ev x] w (QPost (.bool false) w) := by
  unfold ev
  go_enter Try.func23, Try.ntmps23
  go_wp2_with fail
  refine (admits_nil n w).mono ?_
  rintro e w' ⟨rfl, k, rfl⟩
  go_wp2_with fail
  go_ret
  exact ⟨rfl, k, rfl⟩
theorem put_no (b g m next : Nat) (win : Nat → Option ByteArray) (n : Int) (x : ByteArray) (w : World) (h : RAt w b g m next win) (hn : n ≤ 9223372036854775807) (ha : Admit m next n = false) :
    Calls Try.prog 23 #[.pointer (some ⟨b, 0, none⟩), .int .i64 n, ev x] w (QPost (.bool false) w) := by
  have hA := admits_any b g m next win n w h hn
  rw [ha] at hA
  have HA := Lib.hid hA
  clear h hA ha
  unfold ev
  go_enter Try.func23, Try.ntmps23
  go_wp2_with fail
  refine HA.out.mono ?_
  rintro e w' ⟨rfl, k, rfl⟩
  go_wp2_with fail
  go_ret
  exact ⟨rfl, k, rfl⟩
theorem put_full (b g m next : Nat) (win : Nat → Option ByteArray) (i : Nat) (x y : ByteArray) (w : World) (h : RAt w b g m next win) (hi : i < m) (hy : win i = some y) :
    Calls Try.prog 23 #[.pointer (some ⟨b, 0, none⟩), .int .i64 ((next + i : Nat) : Int), ev x] w (QPost (.bool false) w) := by
  obtain ⟨hm1, hm2, hm3⟩ := h.room
  have hA := admits_any b g m next win ((next + i : Nat) : Int) w h (by omega)
  rw [show Admit m next ((next + i : Nat) : Int) = true from by unfold Admit; simp; omega] at hA
  have HA := Lib.hid hA
  have ht := h.there i hi
  rw [hy] at ht
  simp only [Option.isSome_some] at ht
  have hc0 := h.cell0
  have HT := Lib.hid fun k => at_nat b g m (next + i) (w.drewN k) hc0 hm1 hm2 (by omega)
  clear hA h hy
  unfold ev
  generalize next + i = n at *
  go_enter Try.func23, Try.ntmps23
  go_wp2_with fail
  refine HA.out.mono ?_
  rintro e w' ⟨rfl, k, rfl⟩
  go_wp2_with fail
  refine (HT.out k).mono ?_
  rintro e w' ⟨rfl, k2, rfl⟩
  go_wp2_with fail
  go_ret
  exact ⟨rfl, k + k2, rfl⟩
def PutPost (b g m next : Nat) (win : Nat → Option ByteArray) (i : Nat) (x : ByteArray) (w : World) (e : Ending) (w' : World) : Prop :=
  e = .returned (.bool true) ∧ RAt w' b g m next (putW win i x) ∧ Frm (fun k => k = b ∨ k = g) w w'
theorem put_ok (b g m next : Nat) (win : Nat → Option ByteArray) (i : Nat) (x : ByteArray) (w : World) (h : RAt w b g m next win) (hi : i < m) (hy : win i = none) :
    Calls Try.prog 23 #[.pointer (some ⟨b, 0, none⟩), .int .i64 ((next + i : Nat) : Int), ev x] w (PutPost b g m next win i x w) := by
  obtain ⟨hm1, hm2, hm3⟩ := h.room
  have hA := admits_any b g m next win ((next + i : Nat) : Int) w h (by omega)
  rw [show Admit m next ((next + i : Nat) : Int) = true from by unfold Admit; simp; omega] at hA
  have HA := Lib.hid hA
  have ht := h.there i hi
  rw [hy] at ht
  simp only [Option.isSome_none] at ht
  have hc0 := h.cell0
  have HT := Lib.hid fun k => at_nat b g m (next + i) (w.drewN k) hc0 hm1 hm2 (by omega)
  have HH := Lib.hid (And.intro h hy)
  obtain ⟨cs, h1, h2, h3, _⟩ := h
  have hlt : (next + i) % m < m := Nat.mod_lt _ (by omega)
  have hf0 := h2.frozen ((next + i) % m * 2)
  have hf1 := h2.frozen ((next + i) % m * 2 + 1)
  have hct : ∃ v, w.cell? ⟨g, (next + i) % m * 2, none⟩ = some v := ⟨_, (h2.cell _).trans (Array.getElem?_eq_getElem (by omega))⟩
  obtain ⟨v, hct⟩ := hct
  clear hA hy h1 h2 h3
  unfold ev
  generalize hnn : next + i = n at *
  have Hnn := Lib.hid hnn
  clear hnn
  go_enter Try.func23, Try.ntmps23
  go_wp2_with fail
  refine HA.out.mono ?_
  rintro e w' ⟨rfl, k, rfl⟩
  go_wp2_with fail
  refine (HT.out k).mono ?_
  rintro e w' ⟨rfl, k2, rfl⟩
  go_wp2_with fail
  refine (HT.out (k + k2)).mono ?_
  rintro e w' ⟨rfl, k3, rfl⟩
  go_wp2_with fail
  go_ret
  obtain ⟨h, hy⟩ := HH.out
  refine ⟨rfl, ?_, ?_⟩
  · have := Hnn.out
    subst this
    exact (h.put hi x).kept rfl rfl
  · exact (((Frm.refl _ w).setCell ⟨g, n % m * 2, none⟩ (.inl (.inr rfl)) (.string x)).setCell ⟨g, n % m * 2 + 1, none⟩ (.inl (.inr rfl)) (.bool true)).drewN _
def TakePost (b g m next : Nat) (win : Nat → Option ByteArray) (x : ByteArray) (w : World) (e : Ending) (w' : World) : Prop :=
  e = .returned (.tuple #[ev x, .bool true]) ∧ RAt w' b g m (next + 1) (takeW m win) ∧ Frm (fun k => k = b ∨ k = g) w w'
theorem take_nil (w : World) : Calls Try.prog 25 #[.pointer none] w (QPost (.tuple #[.string ByteArray.empty, .bool false]) w) := by
  go_enter Try.func25, Try.ntmps25
  go_wp2_with fail
  go_quiet (fail)
  go_wp2_with fail
  go_ret2
  exact ⟨rfl, nq, rfl⟩
theorem take_no (b g m next : Nat) (win : Nat → Option ByteArray) (w : World) (h : RAt w b g m next win) (hy : win 0 = none) :
    Calls Try.prog 25 #[.pointer (some ⟨b, 0, none⟩)] w (QPost (.tuple #[.string ByteArray.empty, .bool false]) w) := by
  obtain ⟨hm1, hm2, hm3⟩ := h.room
  have ht := h.there 0 (by omega)
  rw [hy] at ht
  simp only [Option.isSome_none, Nat.add_zero] at ht
  have hc0 := h.cell0
  have hc1 := h.cell1
  have hmz : ((m : Int) == 0) = false := by simp; omega
  have HT := Lib.hid fun k => at_nat b g m next (w.drewN k) hc0 hm1 hm2 (by omega)
  clear h hy
  go_enter Try.func25, Try.ntmps25
  go_wp2_with fail
  go_quiet (first
    | (go_at_call 32; exact quiet_left (room_any b g m _ hc0))
    | (go_at_call 33; exact Calls.quiet_of (HT.out _)))
  go_wp2_with fail
  go_ret2
  exact ⟨rfl, nq, rfl⟩
theorem take_ok (b g m next : Nat) (win : Nat → Option ByteArray) (x : ByteArray) (w : World) (h : RAt w b g m next win) (hy : win 0 = some x) (hnx : next < 1000000) :
    Calls Try.prog 25 #[.pointer (some ⟨b, 0, none⟩)] w (TakePost b g m next win x w) := by
  obtain ⟨hm1, hm2, hm3⟩ := h.room
  have ht := h.there 0 (by omega)
  have hx := h.thing 0 (by omega) x hy
  rw [hy] at ht
  simp only [Option.isSome_some, Nat.add_zero] at ht hx
  have hc0 := h.cell0
  have hc1 := h.cell1
  have hne := h.ne_
  have hne' := hne.symm
  have hmz : ((m : Int) == 0) = false := by simp; omega
  have HT := Lib.hid fun k => at_nat b g m next (w.drewN k) hc0 hm1 hm2 (by omega)
  have HH := Lib.hid h
  obtain ⟨cs, h1, h2, h3, _⟩ := h
  have hlt : next % m < m := Nat.mod_lt _ (by omega)
  have hf0 := h2.frozen (next % m * 2)
  have hf1 := h2.frozen (next % m * 2 + 1)
  have hfb := h1.frozen 1
  have Hy := Lib.hid hy
  clear hy h1 h2 h3
  unfold ev at hx
  go_enter Try.func25, Try.ntmps25
  go_wp2_with fail
  go_quiet (first
    | (go_at_call 32; exact quiet_left (room_any b g m _ hc0))
    | (go_at_call 33; exact Calls.quiet_of (HT.out _)))
  rename_i n1
  go_wp2_with fail
  go_quiet ((go_at_call 33; exact quiet_add (at_nat b g m next _ hc0 hm1 hm2 (by omega))))
  rename_i n2
  go_wp2_with fail
  go_region_law (refine step_call (by rfl) (at_nat b g m next _ hc0 hm1 hm2 (by omega)) _ _ (by rfl) (args2 (by rfl) (by rfl)) (Try.call33 _ _) ?_; rintro e w1 ⟨rfl, k1, rfl⟩; refine ⟨_, rfl, ?_⟩)
  go_wp2_with fail
  go_ret2
  refine ⟨rfl, (HH.out.take hnx).kept rfl rfl, ?_⟩
  exact ((((Frm.refl _ w).setCell ⟨g, next % m * 2, none⟩ (.inl (.inr rfl)) (.string ByteArray.empty)).setCell ⟨g, next % m * 2 + 1, none⟩ (.inl (.inr rfl)) (.bool false)).setCell ⟨b, 1, none⟩ (.inl (.inl rfl)) (.int .i64 ((next : Int) + 1))).drewN _
/-- The numbers at which something is, of the window's first k places. -/
def numsTo (next : Nat) (win : Nat → Option ByteArray) (k : Nat) : List Int := (List.range k).filterMap fun i => if (win i).isSome then some ((next + i : Nat) : Int) else none
theorem numsTo_yes {next k : Nat} {win : Nat → Option ByteArray} (h : (win k).isSome = true) : numsTo next win (k + 1) = numsTo next win k ++ [((next + k : Nat) : Int)] := by
  simp [numsTo, List.range_succ, List.filterMap_append, h]
theorem numsTo_no {next k : Nat} {win : Nat → Option ByteArray} (h : (win k).isSome = false) : numsTo next win (k + 1) = numsTo next win k := by
  simp [numsTo, List.range_succ, List.filterMap_append, h]
theorem numsTo_pre {next m : Nat} {win : Nat → Option ByteArray} : ∀ {k : Nat}, k ≤ m → numsTo next win k <+: numsTo next win m := by
  induction m with
  | zero => intro k h; obtain rfl : k = 0 := by omega
            exact List.prefix_refl _
  | succ m ih =>
    intro k h
    by_cases hk : k = m + 1
    · subst hk; exact List.prefix_refl _
    · refine (ih (by omega)).trans ?_
      cases hs : (win m).isSome with
      | true => rw [numsTo_yes hs]; exact List.prefix_append _ _
      | false => rw [numsTo_no hs]; exact List.prefix_refl _
theorem numsTo_len (next : Nat) (win : Nat → Option ByteArray) (k : Nat) : (numsTo next win k).length ≤ k := by
  induction k with
  | zero => simp [numsTo]
  | succ k ih =>
    cases hs : (win k).isSome with
    | true => rw [numsTo_yes hs]; simp; omega
    | false => rw [numsTo_no hs]; omega
set_option maxRecDepth 100000 in
set_option maxHeartbeats 2000000 in
theorem nums1_in (n : Nat) (hn : 1 ≤ n) (l Bc Bf n₀ b g m next : Nat) (win : Nat → Option ByteArray) (J Jx : List Int → World → Prop) (hJ : ∀ s A k, J s A → J s (A.drewN k))
    (hY : ∀ pre x W, J pre W → pre.length < (numsTo next win m).length → YieldAt Fence.wide (n - 1) Try.prog l #[iv x] W fun e W' =>
      (e = .returned (.bool true) ∧ J (pre ++ [x]) W' ∧ Below n₀ W W') ∨ (e = .returned (.bool false) ∧ Jx (pre ++ [x]) W'))
    (W : World) (hBc : W.cell? ⟨Bc, 0, none⟩ = some (.pointer (some ⟨b, 0, none⟩))) (hBf : W.cell? ⟨Bf, 0, none⟩ = some (.int .i64 next)) (hR : RAt W b g m next win) (hlt : Bc < n₀ ∧ Bf < n₀ ∧ b < n₀ ∧ g < n₀) (h0 : J [] W) :
    CallsIn Fence.wide n Try.prog 37 #[.func (.yield l) #[] #[], .pointer (some ⟨Bc, 0, none⟩), .pointer (some ⟨Bf, 0, none⟩)] W fun e W' => (∃ v, e = .returned v) ∧
      ((∃ ys, ys = numsTo next win m ∧ J ys W') ∨ (∃ pre, pre <+: numsTo next win m ∧ Jx pre W')) := by
  obtain ⟨hl1, hl2, hl3, hl4⟩ := hlt
  obtain ⟨hm1, hm2, hm3⟩ := hR.room
  have hc0 := hR.cell0
  refine callsIn_of_wp Try.func37 rfl trivial ?_ rfl
  simp only [Try.ntmps37, List.size_toArray, List.length_cons, List.length_nil, Nat.reduceAdd, Nat.reduceSub, Array.replicate_succ, Array.replicate_zero, List.push_toArray, List.append_toArray, List.nil_append, List.cons_append]
  have HR := Lib.hid hR
  clear hR
  gi_wp2
  gi_loopw [10] (fun i wr => ∃ k : Nat, k ≤ m ∧ i = .int .i64 k ∧ J (numsTo next win k) wr ∧ Below n₀ W wr) (fun i _ => m - (intOf i).toNat)
  case atStart => exact ⟨0, Nat.zero_le _, rfl, h0, Below.refl _ _⟩
  case round =>
    obtain ⟨k, hk, rfl, hJs, hnx⟩ := hrel
    by_cases hlt : k < m
    · have hRr : RAt wr b g m next win := HR.out.kept (hnx.block _ hl3) (hnx.block _ hl4)
      have hc0r := hRr.cell0
      have htr := hRr.there k hlt
      have hBcr : wr.cell? ⟨Bc, 0, none⟩ = some (.pointer (some ⟨b, 0, none⟩)) := (hnx.cell (p := ⟨Bc, 0, none⟩) hl1).trans hBc
      have hBfr : wr.cell? ⟨Bf, 0, none⟩ = some (.int .i64 next) := (hnx.cell (p := ⟨Bf, 0, none⟩) hl2).trans hBf
      have hsum : ((next : Int) + (k : Int)) = ((next + k : Nat) : Int) := by omega
      have Hs := Lib.hid hsum
      clear hc0 hRr hBc hBf hsum
      gi_wp2_with fail
      refine ⟨trivial, ?_⟩
      refine (callsIn_wide.2 (at_add b g m next k _ hc0r hm1 hm2 (by omega))).mono ?_
      rintro e w1 ⟨rfl, k1, rfl⟩
      have hJk := hJ _ _ k1 hJs
      have hnk : Below n₀ W (wr.drewN k1) := ⟨hnx.os, hnx.tape, hnx.output, hnx.size, hnx.block⟩
      have htr' : (wr.drewN k1).cell? ⟨g, (next + k) % m * 2 + 1, none⟩ = some (.bool (win k).isSome) := htr
      have hBf' : (wr.drewN k1).cell? ⟨Bf, 0, none⟩ = some (.int .i64 next) := hBfr
      clear hJs hnx htr hBfr hBcr hc0r
      generalize wr.drewN k1 = wq at *
      cases hs : (win k).isSome with
      | true =>
        rw [hs] at htr'
        have hY1 := hY _ ((next + k : Nat) : Int) wq hJk (by
          have h1 := (numsTo_pre (next := next) (win := win) (show k + 1 ≤ m by omega)).length_le
          rw [numsTo_yes hs] at h1
          simp at h1; omega)
        have Hy := Lib.hid (numsTo_yes (next := next) hs)
        obtain ⟨fn, tmps, assign, body, hy, hRd⟩ := hY1
        simp only [iv] at hy
        rw [← Hs.out] at hy
        have hsn : (next : Int) + (k : Int) ≤ 2000000 := by omega
        clear hs
        gi_wp2
        refine hRd.mono ?_
        rintro e W3 (⟨rfl, hJ3, hk3⟩ | ⟨rfl, hJx3⟩)
        · gi_wp2
          go_roundw
          case rel => exact ⟨k + 1, by omega, by go_num, by rw [Hy.out]; exact hJ3, hnk.trans hk3⟩
          case measure => simp [intOf]; omega
        · gi_wp2
          refine bodyPost_ret (results_none rfl _ _ _) rfl ?_
          exact ⟨⟨_, rfl⟩, .inr ⟨_, by rw [← Hy.out]; exact numsTo_pre (by omega), hJx3⟩⟩
      | false =>
        rw [hs] at htr'
        have Hy := Lib.hid (numsTo_no (next := next) hs)
        clear hs
        gi_wp2
        all_goals
          refine ⟨fun _ h => (by cases h), ?_⟩
          gi_wp2
          go_roundw
          case rel => exact ⟨k + 1, by omega, by go_num, by rw [Hy.out]; exact hJk, hnk⟩
          case measure => simp [intOf]; omega
    · obtain rfl : k = m := by omega
      gi_wp2
      go_end0
      exact ⟨⟨_, rfl⟩, .inl ⟨_, rfl, hJs⟩⟩
end RS
end Go.Proofs.Ytcdhdpocnjmkmaa
