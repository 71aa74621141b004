/- Window; is a number among others; turns that are too many. -/
import Derived.Test.YtfclpggbcmbcjaaWait
namespace Go.Proofs.Ytfclpggbcmbcjaa
open Go.RowKit
theorem bnd_turn (k : Nat) (st : WS) (t : List Int × Int) (ih : Bnd k st) : Bnd (k + 1) (wturn st t) := by
  unfold wturn
  have h0 : Bnd (k + 1) ((fun _ => 0), st.2.1, st.2.2) := ⟨fun _ => ⟨Int.le_refl _, by show (0 : Int) ≤ ((k + 1 : Nat) : Int); omega⟩, ih.2.1, by show st.2.1 ≤ ((k + 1 : Nat) : Int); have := ih.2.2; omega⟩
  generalize (((fun _ => 0), st.2.1, st.2.2) : WS) = s0 at *
  generalize t.2 = p
  generalize t.1 = l
  induction l generalizing s0 with
  | nil => exact h0
  | cons x l ih2 => exact ih2 _ (h0.step ih.1)
theorem bnd_turns (ts : List (List Int × Int)) : ∀ (k : Nat) (st : WS), Bnd k st → Bnd (k + ts.length) (ts.foldl wturn st) := by
  induction ts with
  | nil => intro k st h; exact h
  | cons t ts ih =>
    intro k st h
    have := ih (k + 1) _ (bnd_turn k st t h)
    rw [List.length_cons, Nat.add_comm ts.length, ← Nat.add_assoc]
    exact this
theorem wait_bnd (ts : List (List Int × Int)) : Bnd ts.length (waitL ts) := by
  have := bnd_turns ts 0 wstart ⟨fun _ => ⟨Int.le_refl _, Int.le_refl _⟩, Int.le_refl _, Int.le_refl _⟩
  rwa [Nat.zero_add] at this
def WinPost (ts : List (Value × List Int × Int)) (w : World) (e : Ending) (w' : World) : Prop :=
  e = .returned (.int .i64 ((waitL (Turns ts)).2.1 + 1)) ∧ Frm (fun _ => False) w w'
theorem window_any (A : Option Addr) (m c : Nat) (ts : List (Value × List Int × Int)) (w : World) (h : TAt w A m c ts) (hm : m ≤ 1000000) :
    Calls Try.prog 9 #[.slice A m c] w (WinPost ts w) := by
  have hw := wait_any A m c ts w h hm
  have hb := wait_bnd (Turns ts)
  have hl : (Turns ts).length = m := by rw [h.1]; simp [Turns]
  rw [hl] at hb
  have Hw := Lib.hid hw
  have hw1 : IntKind.i64.wrap ((waitL (Turns ts)).2.1 + 1) = (waitL (Turns ts)).2.1 + 1 := IntWalk.i64_in _ (by have := hb.2.1; have := hb.2.2; omega)
  clear hw hb hl h
  unfold WaitPost at Hw
  unfold WinPost
  generalize (waitL (Turns ts)).2.1 = T at *
  generalize (waitL (Turns ts)).2.2 = N at *
  go_enter Try.func9, Try.ntmps9
  go_wp2_with fail
  refine Hw.out.mono ?_
  rintro e w' ⟨rfl, hF⟩
  go_wp2_with fail
  go_ret
  exact ⟨rfl, hF⟩
def InPost (l : List Int) (x : Int) (w : World) (e : Ending) (w' : World) : Prop := e = .returned (.bool (decide (x ∈ l))) ∧ w = w'
theorem in_any (v : Value) (K : Nat → Prop) (l : List Int) (x : Int) (w : World) (h : Sl w K v (l.map iv)) :
    Calls Try.prog 8 #[v, .int .i64 x] w (InPost l x w) := by
  obtain ⟨A, n, c, rfl, hn, hc, hm, hx⟩ := h
  rw [List.length_map] at hn
  have H := Lib.hid (And.intro hn hx)
  clear hn hx
  go_enter Try.func8, Try.ntmps8
  go_wp2_with fail
  go_loop [5] (fun i => ∃ k : Nat, k ≤ n ∧ i = .int .i64 k ∧ Hid (x ∉ l.take k)) (fun i => n - (intOf i).toNat)
  case atStart => exact ⟨0, Nat.zero_le _, rfl, Lib.hid (by simp)⟩
  case round =>
    obtain ⟨k, hk, rfl, hN⟩ := hrel
    by_cases hlt : k < n
    · obtain ⟨hn, hx⟩ := H.out
      obtain ⟨g, o, rfl, _, hx⟩ := hx.resolve_left (by omega)
      have hkx : k < l.length := by omega
      have c1 : w.cell? ⟨g, o + k, none⟩ = some (.int .i64 l[k]) := by rw [hx k (by simpa using hkx)]; simp [iv]
      have hts : l.take (k + 1) = l.take k ++ [l[k]] := List.take_succ_eq_append_getElem hkx
      have hmem : l[k] ∈ l := List.getElem_mem hkx
      have HX := Lib.hid (And.intro hts hmem)
      clear hx hn hts hmem
      generalize l[k] = y at *
      clear hkx
      by_cases hyx : y = x
      · have hb : (y == x) = true := by simpa using hyx
        have HY := Lib.hid hyx
        clear hyx
        go_wp2_with fail
        go_ret
        exact ⟨by rw [decide_eq_true (by rw [← HY.out]; exact HX.out.2)]; rfl, rfl⟩
      · have hb : (y == x) = false := by simpa using hyx
        have HY := Lib.hid hyx
        clear hyx
        go_wp2_with fail
        go_round
        case rel => exact ⟨k + 1, by omega, by go_num, Lib.hid (by rw [HX.out.1]; simp; exact ⟨hN.out, fun e => HY.out e.symm⟩)⟩
        case measure => simp [intOf]; omega
    · obtain rfl : k = n := by omega
      go_wp2_with fail
      go_ret
      exact ⟨by rw [decide_eq_false (by have := hN.out; rwa [List.take_of_length_le (by have := H.out.1; omega)] at this)]; rfl, rfl⟩
end Go.Proofs.Ytfclpggbcmbcjaa
