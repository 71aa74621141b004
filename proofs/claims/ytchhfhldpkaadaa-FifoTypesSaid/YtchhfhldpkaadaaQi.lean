/- The walks of package fifo at int. -/
import Derived.Test.YtchhfhldpkaadaaLib
import Derived.BigRegion
namespace Go.Proofs.Ytchhfhldpkaadaa
open Go.RowKit
namespace QI
def ev (x : Int) : Value := .int .i64 x
/-- A queue: its block b, its places' block g, room m, the first's place f, what is in it, whether it is closed. -/
def QAt (w : World) (b g m f : Nat) (xs : List Int) (cl : Bool) : Prop :=
  ∃ cs, Blk w b 57 #[.slice (some ⟨g, 0, none⟩) m m, .int .i64 f, .int .i64 xs.length, .bool cl] ∧ Blk w g 3 cs ∧ cs.size = m ∧ 1 ≤ m ∧ m ≤ 16 ∧ f < m ∧ xs.length ≤ m ∧ (∀ i, i < m → ∃ x, cs[i]? = some (ev x)) ∧
    ∀ i (h : i < xs.length), cs[(f + i) % m]? = some (ev xs[i])
section
variable {w w' : World} {b g m f : Nat} {xs : List Int} {cl : Bool}
theorem QAt.kept (h : QAt w b g m f xs cl) (hb : w'.heap[b]? = w.heap[b]?) (hg : w'.heap[g]? = w.heap[g]?) : QAt w' b g m f xs cl := by
  obtain ⟨cs, h1, h2, rest⟩ := h
  exact ⟨cs, hb.trans h1, hg.trans h2, rest⟩
theorem QAt.drewN (h : QAt w b g m f xs cl) (n : Nat) : QAt (w.drewN n) b g m f xs cl := h.kept rfl rfl
theorem QAt.lt (h : QAt w b g m f xs cl) : b < w.heap.size ∧ g < w.heap.size := by
  obtain ⟨cs, h1, h2, _⟩ := h
  exact ⟨h1.lt, h2.lt⟩
theorem QAt.ne_ (h : QAt w b g m f xs cl) : b ≠ g := by obtain ⟨cs, h1, h2, _⟩ := h; exact h1.ne_ h2 (by decide)
theorem QAt.keptF (h : QAt w b g m f xs cl) (hF : Frm (fun _ => False) w w') : QAt w' b g m f xs cl := h.kept (hF.block _ h.lt.1 id) (hF.block _ h.lt.2 id)
theorem QAt.cells (h : QAt w b g m f xs cl) : w.cell? ⟨b, 0, none⟩ = some (.slice (some ⟨g, 0, none⟩) m m) ∧ w.cell? ⟨b, 1, none⟩ = some (.int .i64 f) ∧ w.cell? ⟨b, 2, none⟩ = some (.int .i64 xs.length) ∧ w.cell? ⟨b, 3, none⟩ = some (.bool cl) := by
  obtain ⟨cs, h1, _⟩ := h
  exact ⟨h1.cell 0, h1.cell 1, h1.cell 2, h1.cell 3⟩
theorem QAt.froz (h : QAt w b g m f xs cl) : (∀ i, w.frozen? ⟨b, i, none⟩ = false) ∧ ∀ i, w.frozen? ⟨g, i, none⟩ = false := by
  obtain ⟨cs, h1, h2, _⟩ := h
  exact ⟨h1.frozen, h2.frozen⟩
theorem QAt.room (h : QAt w b g m f xs cl) : 1 ≤ m ∧ m ≤ 16 ∧ f < m ∧ xs.length ≤ m := by obtain ⟨cs, _, _, _, h1, h2, h3, h4, _⟩ := h; exact ⟨h1, h2, h3, h4⟩
theorem QAt.place (h : QAt w b g m f xs cl) (i : Nat) (hi : i < m) : ∃ x, w.cell? ⟨g, i, none⟩ = some (ev x) := by
  obtain ⟨cs, _, h2, _, _, _, _, _, h3, _⟩ := h
  obtain ⟨x, hx⟩ := h3 i hi
  exact ⟨x, (h2.cell _).trans hx⟩
theorem QAt.thing (h : QAt w b g m f xs cl) (i : Nat) (hi : i < xs.length) : w.cell? ⟨g, (f + i) % m, none⟩ = some (ev xs[i]) := by
  obtain ⟨cs, _, h2, _, _, _, _, _, _, h3⟩ := h
  exact (h2.cell _).trans (h3 i hi)
end
theorem mod_inj {f i j m : Nat} (hi : i < m) (hj : j < m) (h : (f + i) % m = (f + j) % m) : i = j := by
  have h1 := Nat.div_add_mod (f + i) m
  have h2 := Nat.div_add_mod (f + j) m
  rw [h] at h1
  rcases Nat.lt_trichotomy ((f + i) / m) ((f + j) / m) with hq | hq | hq
  · have := Nat.mul_le_mul_left m hq
    rw [Nat.mul_succ] at this
    omega
  · rw [hq] at h1; omega
  · have := Nat.mul_le_mul_left m hq
    rw [Nat.mul_succ] at this
    omega
theorem QAt.push {w : World} {b g m f : Nat} {xs : List Int} {cl : Bool} (h : QAt w b g m f xs cl) (hl : xs.length < m) (x : Int) {v : Value} (hv : v = .int .i64 ((xs.length + 1 : Nat) : Int)) :
    QAt ((w.setCell ⟨g, (f + xs.length) % m, none⟩ (ev x)).setCell ⟨b, 2, none⟩ v) b g m f (xs ++ [x]) cl := by
  subst hv
  have hne := h.ne_
  obtain ⟨cs, h1, h2, h3, hm1, hm2, hf, _, h4, h5⟩ := h
  have hlt : (f + xs.length) % m < m := Nat.mod_lt _ (by omega)
  refine ⟨_, by simpa using (h1.far hne _).set_ 2 _, (h2.set_ _ _).far hne.symm _, by rw [Array.size_setIfInBounds]; exact h3, hm1, hm2, hf, by simp; omega, fun i hi => ?_, fun i hi => ?_⟩
  · rw [Array.getElem?_setIfInBounds]
    split
    · subst_vars; exact ⟨x, by rw [if_pos hlt]⟩
    · exact h4 i hi
  · simp at hi
    by_cases hix : i = xs.length
    · subst hix
      rw [Array.getElem?_setIfInBounds, if_pos rfl, if_pos (by omega)]; simp
    · rw [Array.getElem?_setIfInBounds, if_neg (fun e => hix (mod_inj (by omega) hl e.symm))]
      rw [h5 i (by omega), List.getElem_append_left (by omega)]
theorem QAt.pop {w : World} {b g m f : Nat} {x : Int} {xs : List Int} {cl : Bool} (h : QAt w b g m f (x :: xs) cl) {v u : Value} (hv : v = .int .i64 (((f + 1) % m : Nat) : Int)) (hu : u = .int .i64 (xs.length : Int)) :
    QAt (((w.setCell ⟨g, f, none⟩ (.int .i64 0)).setCell ⟨b, 1, none⟩ v).setCell ⟨b, 2, none⟩ u) b g m ((f + 1) % m) xs cl := by
  subst hv hu
  have hne := h.ne_
  obtain ⟨cs, h1, h2, h3, hm1, hm2, hf, hl, h4, h5⟩ := h
  refine ⟨_, by simpa using ((h1.far hne _).set_ 1 _).set_ 2 _, ((h2.set_ _ _).far hne.symm _).far hne.symm _, by rw [Array.size_setIfInBounds]; exact h3, hm1, hm2, Nat.mod_lt _ (by omega), by simp at hl; omega, fun i hi => ?_, fun i hi => ?_⟩
  · rw [Array.getElem?_setIfInBounds]
    split
    · subst_vars; exact ⟨0, by rw [if_pos hf]; rfl⟩
    · exact h4 i hi
  · simp at hl
    have h6 := h5 (i + 1) (by simp; omega)
    have e : ((f + 1) % m + i) % m = (f + (i + 1)) % m := by rw [Nat.mod_add_mod]; congr 1; omega
    rw [e, Array.getElem?_setIfInBounds, if_neg (fun e' => by
      have := mod_inj (f := f) (m := m) (i := 0) (j := i + 1) (by omega) (by omega) (by rw [Nat.add_zero, Nat.mod_eq_of_lt hf]; exact e')
      omega)]
    simpa using h6
def QPost (v : Value) (w : World) (e : Ending) (w' : World) : Prop := e = .returned v ∧ ∃ k, w' = w.drewN k
theorem left_any (b g m f : Nat) (xs : List Int) (cl : Bool) (w : World) (h : QAt w b g m f xs cl) :
    Calls Try.prog 33 #[.pointer (some ⟨b, 0, none⟩)] w (QPost (.int .i64 ((m : Int) - (xs.length : Int))) w) := by
  obtain ⟨c0, c1, c2, c3⟩ := h.cells
  obtain ⟨h1, h2, h3, h4⟩ := h.room
  clear h
  generalize xs.length = n at *
  go_enter Try.func33, Try.ntmps33
  go_wp2
  go_quiet (fail)
  go_wp2
  go_ret
  exact ⟨rfl, nq, rfl⟩
def PushPost (b g m f : Nat) (xs : List Int) (cl : Bool) (x : Int) (w : World) (e : Ending) (w' : World) : Prop :=
  (∃ v, e = .returned v) ∧ QAt w' b g m f (xs ++ [x]) cl ∧ Frm (fun k => k = b ∨ k = g) w w'
theorem push_any (b g m f : Nat) (xs : List Int) (cl : Bool) (x : Int) (w : World) (h : QAt w b g m f xs cl) (hl : xs.length < m) :
    Calls Try.prog 34 #[.pointer (some ⟨b, 0, none⟩), ev x] w (PushPost b g m f xs cl x w) := by
  obtain ⟨c0, c1, c2, c3⟩ := h.cells
  obtain ⟨h1, h2, h3, h4⟩ := h.room
  obtain ⟨fb, fg⟩ := h.froz
  have hlt : (f + xs.length) % m < m := Nat.mod_lt _ (by omega)
  obtain ⟨y, hy⟩ := h.place _ hlt
  have hmz : ((m : Int) == 0) = false := by simp; omega
  have hne := h.ne_
  have f2 := fb 2
  have f3 := fg ((f + xs.length) % m)
  have H := Lib.hid h
  clear h fb fg
  unfold ev at *
  generalize hn : xs.length = n at *
  have Hn := Lib.hid hn
  clear hn
  have hidx : ((f : Int) + (n : Int)) % (m : Int) = (((f + n) % m : Nat) : Int) := by simp
  generalize hp : (f + n) % m = p at *
  have Hp := Lib.hid hp
  clear hp
  go_enter Try.func34, Try.ntmps34
  go_wp2
  go_region
  all_goals
    go_wp2
    go_end0
    have hn := Hn.out
    have hp := Hp.out
    subst hn hp
    have h0 : QAt w.drew b g m f xs cl := H.out.kept rfl rfl
    exact ⟨⟨_, rfl⟩, h0.push hl x (by congr 1), (((Frm.refl (fun k => k = b ∨ k = g) w).drew).setCell ⟨g, _, none⟩ (.inl (.inr rfl)) _).setCell ⟨b, 2, none⟩ (.inl (.inl rfl)) _⟩
def PopPost (b g m f : Nat) (x : Int) (xs : List Int) (cl : Bool) (w : World) (e : Ending) (w' : World) : Prop :=
  e = .returned (ev x) ∧ QAt w' b g m ((f + 1) % m) xs cl ∧ Frm (fun k => k = b ∨ k = g) w w'
theorem pop_any (b g m f : Nat) (x : Int) (xs : List Int) (cl : Bool) (w : World) (h : QAt w b g m f (x :: xs) cl) :
    Calls Try.prog 35 #[.pointer (some ⟨b, 0, none⟩)] w (PopPost b g m f x xs cl w) := by
  obtain ⟨c0, c1, c2, c3⟩ := h.cells
  obtain ⟨h1, h2, h3, h4⟩ := h.room
  obtain ⟨fb, fg⟩ := h.froz
  have hy : w.cell? ⟨g, f, none⟩ = some (ev x) := by have := h.thing 0 (by simp); rwa [Nat.add_zero, Nat.mod_eq_of_lt h3] at this
  have hmz : ((m : Int) == 0) = false := by simp; omega
  have hne := h.ne_
  have f1 := fb 1
  have f2 := fb 2
  have f3 := fg f
  have H := Lib.hid h
  clear h fb fg
  unfold ev at *
  rw [List.length_cons] at c2 h4
  generalize hn : xs.length = n at *
  have Hn := Lib.hid hn
  clear hn
  have hidx : ((f : Int) + 1) % (m : Int) = (((f + 1) % m : Nat) : Int) := by simp
  generalize hp : (f + 1) % m = p at *
  have Hp := Lib.hid hp
  clear hp
  go_enter Try.func35, Try.ntmps35
  go_wp2
  go_quiet (fail)
  go_wp2
  go_region
  all_goals
    go_wp2
    go_region
    all_goals
      go_wp2
      go_ret
      have hn := Hn.out
      have hp := Hp.out
      subst hn hp
      refine ⟨rfl, (H.out.drewN _).pop rfl (by first | rfl | (congr 1)), (((((Frm.refl (fun k => k = b ∨ k = g) w).drewN _).setCell ⟨g, f, none⟩ (.inl (.inr rfl)) _).setCell ⟨b, 1, none⟩ (.inl (.inl rfl)) _).setCell ⟨b, 2, none⟩ (.inl (.inl rfl)) _).drew⟩
theorem put_nil (A : Option Addr) (n c : Nat) (w : World) : Calls Try.prog 11 #[.pointer none, .slice A n c] w fun e w' => e = .returned (.bool false) ∧ w = w' := by
  go_enter Try.func11, Try.ntmps11
  go_wp2
  go_ret
  exact ⟨rfl, rfl⟩
theorem put_no (b g m f : Nat) (xs : List Int) (cl : Bool) (A : Option Addr) (n c : Nat) (w : World) (h : QAt w b g m f xs cl) (hc : cl = true ∨ m < xs.length + n) :
    Calls Try.prog 11 #[.pointer (some ⟨b, 0, none⟩), .slice A n c] w (QPost (.bool false) w) := by
  obtain ⟨c0, c1, c2, c3⟩ := h.cells
  have hl := left_any b g m f xs cl w h
  obtain ⟨h1, h2, h3, h4⟩ := h.room
  have Hl := Lib.hid hl
  clear h hl c0 c1 c2
  generalize xs.length = k at *
  cases cl with
  | true =>
    clear hc
    go_enter Try.func11, Try.ntmps11
    go_wp2_with fail
    go_ret
    exact ⟨rfl, 0, rfl⟩
  | false =>
    have hd : (m : Int) - (k : Int) < (n : Int) := by rcases hc with h | h; cases h; omega
    clear hc
    go_enter Try.func11, Try.ntmps11
    go_wp2_with fail
    refine Hl.out.mono ?_
    rintro e w' ⟨rfl, q, rfl⟩
    go_wp2_with fail
    go_ret
    exact ⟨rfl, q, rfl⟩
def PutPost (b g m f : Nat) (xs l : List Int) (w : World) (e : Ending) (w' : World) : Prop :=
  e = .returned (.bool true) ∧ QAt w' b g m f (xs ++ l) false ∧ Frm (fun k => k = b ∨ k = g) w w'
set_option maxHeartbeats 1000000 in
theorem put_ok (K : Nat → Prop) (b g m f : Nat) (xs l : List Int) (v : Value) (w : World) (h : QAt w b g m f xs false) (hv : Sl w K v (l.map ev)) (hK : ∀ k, K k → k ≠ b ∧ k ≠ g ∧ k < w.heap.size) (hc : xs.length + l.length ≤ m) :
    Calls Try.prog 11 #[.pointer (some ⟨b, 0, none⟩), v] w (PutPost b g m f xs l w) := by
  obtain ⟨A, n, c, rfl, hn, hnc, hcm, hx⟩ := hv
  rw [List.length_map] at hn
  obtain ⟨c0, c1, c2, c3⟩ := h.cells
  have hl := left_any b g m f xs false w h
  obtain ⟨h1, h2, h3, h4⟩ := h.room
  have hd : (n : Int) ≤ (m : Int) - (xs.length : Int) := by omega
  have hd2 : (m : Int) - (xs.length : Int) ≤ 16 := by omega
  have H := Lib.hid (And.intro hl (And.intro h (And.intro hn (And.intro hx (And.intro hK hc)))))
  clear h hl c0 c1 c2 hn hx hK hc
  generalize hD : (m : Int) - (xs.length : Int) = D at *
  have HD := Lib.hid hD
  clear hD
  go_enter Try.func11, Try.ntmps11
  go_wp2_with fail
  refine H.out.1.mono ?_
  rintro e w' ⟨rfl, q, rfl⟩
  have Hb : Hid (QAt (w.drewN q) b g m f xs false ∧ Frm (fun k => k = b ∨ k = g) w (w.drewN q)) := Lib.hid ⟨H.out.2.1.drewN q, (Frm.refl _ w).drewN q⟩
  generalize w.drewN q = w1 at *
  go_wp2_with fail
  go_loopw [26] (fun i wr => ∃ k : Nat, k ≤ n ∧ i = .int .i64 k ∧ Hid (QAt wr b g m f (xs ++ l.take k) false ∧ Frm (fun k => k = b ∨ k = g) w wr)) (fun i _ => n - (intOf i).toNat)
  case atStart => exact ⟨0, Nat.zero_le _, rfl, by simpa using Hb⟩
  case round =>
    obtain ⟨k, hk, rfl, hrel⟩ := hrel
    by_cases hlt : k < n
    · obtain ⟨_, h, hn, hx, hK, hc⟩ := H.out
      obtain ⟨ga, o, rfl, hga, hcs⟩ := hx.resolve_left (by omega)
      have hkl : k < l.length := by omega
      have cx : w.cell? ⟨ga, o + k, none⟩ = some (ev l[k]) := by rw [hcs k (by simpa using hkl)]; simp
      have cr := hrel.out.2.cell cx (by have := hK ga hga; simp; omega)
      have hpu := push_any b g m f _ false l[k] wr hrel.out.1 (by simp; omega)
      have hts : l.take (k + 1) = l.take k ++ [l[k]] := List.take_succ_eq_append_getElem hkl
      unfold PushPost at hpu
      rw [List.append_assoc, ← hts] at hpu
      have Hpu := Lib.hid hpu
      clear hcs hx hK hc hn h hts hpu cx
      unfold ev at *
      generalize l[k] = x at *
      go_wp2_with fail
      refine Hpu.out.mono ?_
      rintro e w2 ⟨⟨v2, rfl⟩, hQ, hF⟩
      have H2 := Lib.hid (And.intro hQ (hrel.out.2.trans' hF))
      clear hQ hF Hpu
      go_wp2_with fail
      go_roundw
      case rel => exact ⟨k + 1, by omega, by go_num, H2⟩
      case measure => simp [intOf]; omega
    · obtain rfl : k = n := by omega
      have hr := hrel.out
      rw [List.take_of_length_le (by have := H.out.2.2.1; omega)] at hr
      have Hr := Lib.hid hr
      clear hr
      go_wp2_with fail
      go_ret
      exact ⟨rfl, Hr.out.1, Hr.out.2⟩
end QI
end Go.Proofs.Ytchhfhldpkaadaa
