/- script: which numbers are too far. -/
import Derived.Test.YtpcdbkaeijhmfaaGreatDoorGG
namespace Go.Proofs.YtpcdbkaeijhmfaaGreatDoor
set_option maxRecDepth 100000
set_option linter.unusedVariables false
set_option linter.unusedSimpArgs false
open Go.RowKit
theorem far_any (n : Int) (w : World) : Calls Tryz.prog 23 #[.int .i64 n] w fun e w' => e = .returned (.bool (farB n)) ∧ w = w' := by
  by_cases h1 : n < -4611686018427387904
  · have hb : farB n = true := by unfold farB; exact decide_eq_true (.inl h1)
    have hd : decide (n < -4611686018427387904) = true := decide_eq_true h1
    rw [hb]
    clear hb
    go_enter Tryz.func23, Tryz.ntmps23
    go_wp2
    go_ret
    exact ⟨rfl, rfl⟩
  · have hd : decide (n < -4611686018427387904) = false := decide_eq_false h1
    have hb : farB n = decide (n > 4611686018427387904) := by
      unfold farB
      rw [decide_eq_decide]
      omega
    rw [hb]
    clear hb
    generalize hg : decide (n > 4611686018427387904) = g
    go_enter Tryz.func23, Tryz.ntmps23
    go_wp2
    go_ret
    exact ⟨rfl, rfl⟩
def idxF (l : List Int) : Int := match l.findIdx? farB with | some k => k | none => -1
theorem idxF_ge (l : List Int) : decide (idxF l ≥ 0) = l.any farB := by
  unfold idxF
  cases h : l.findIdx? farB with
  | none =>
    rw [List.findIdx?_eq_none_iff] at h
    have : l.any farB = false := by
      rw [List.any_eq_false]
      intro y hy
      have := h y hy
      simp [this]
    rw [this]; rfl
  | some k =>
    rw [List.findIdx?_eq_some_iff_getElem] at h
    obtain ⟨hk, h1, _⟩ := h
    have : l.any farB = true := by
      rw [List.any_eq_true]
      exact ⟨l[k], List.getElem_mem hk, h1⟩
    rw [this]; simp
set_option maxHeartbeats 800000 in
theorem indexF_any (K : Nat → Prop) (A : Option Addr) (n c : Nat) (l : List Int) (w : World) (h : IAt w K A n c l) (hl : l.length ≤ 1000000) :
    Calls Tryz.prog 53 #[.slice A n c, .func (.func 23) #[] #[]] w fun e w' => e = .returned (.int .i64 (idxF l)) ∧ w = w' := by
  have hn := h.len.1
  have H := Lib.hid (And.intro hn h)
  have hn6 : n ≤ 1000000 := by omega
  clear hn h hl
  go_enter Tryz.func53, Tryz.ntmps53
  go_wp2_with fail
  go_loopw [8] (fun i wr => ∃ k : Nat, k ≤ n ∧ i = .int .i64 k ∧ wr = w ∧ Hid (∀ j (h : j < l.length), j < k → farB l[j] = false)) (fun i _ => n - (intOf i).toNat)
  case atStart => exact ⟨0, Nat.zero_le _, rfl, rfl, Lib.hid fun j _ h => by omega⟩
  case round =>
    obtain ⟨k, hk, rfl, rfl, Hno⟩ := hrel
    by_cases hlt : k < n
    · obtain ⟨hn, hx⟩ := H.out
      obtain ⟨g, o, rfl, _, hx⟩ := hx.at_ (by omega)
      have hkl : k < l.length := by omega
      have c0 : wr.cell? ⟨g, o + k, none⟩ = some (.int .i64 l[k]) := hx k hkl
      have hf := far_any l[k] wr
      clear hx hn
      cases hb : farB l[k] with
      | true =>
        have hi : idxF l = k := by
          unfold idxF
          have : l.findIdx? farB = some k := by
            rw [List.findIdx?_eq_some_iff_getElem]
            exact ⟨hkl, hb, fun j hj => by simpa using Hno.out j (by omega) hj⟩
          rw [this]
        have Hi := Lib.hid hi
        rw [hb] at hf
        clear hi hb
        generalize l[k] = y at *
        go_wp2_with fail
        refine hf.mono ?_
        rintro e w1 ⟨rfl, rfl⟩
        go_wp2_with fail
        go_ret
        exact ⟨by rw [Hi.out]; rfl, rfl⟩
      | false =>
        have hnx : ∀ j (h : j < l.length), j < k + 1 → farB l[j] = false := fun j h hj => by
          rcases Nat.lt_or_ge j k with h1 | h1
          · exact Hno.out j h h1
          · obtain rfl : j = k := by omega
            exact hb
        have Hnx := Lib.hid hnx
        rw [hb] at hf
        clear hnx hb
        generalize l[k] = y at *
        go_wp2_with fail
        refine hf.mono ?_
        rintro e w1 ⟨rfl, rfl⟩
        go_wp2_with fail
        go_roundw
        case rel => exact ⟨k + 1, by omega, by go_num, trivial, Hnx⟩
        case measure => simp [intOf]; omega
    · obtain rfl : k = n := by omega
      have hi : idxF l = -1 := by
        unfold idxF
        have : l.findIdx? farB = none := by
          rw [List.findIdx?_eq_none_iff]
          intro x hx
          obtain ⟨j, hj, rfl⟩ := List.getElem_of_mem hx
          exact Hno.out j hj (by have := H.out.1; omega)
        rw [this]
      have Hi := Lib.hid hi
      clear hi
      go_wp2_with fail
      go_ret
      exact ⟨by rw [Hi.out]; rfl, rfl⟩
theorem contF_any (K : Nat → Prop) (v : Value) (l : List Int) (w : World) (h : Sl w K v (ivs l)) (hl : l.length ≤ 1000000) :
    Calls Tryz.prog 24 #[v, .func (.func 23) #[] #[]] w fun e w' => e = .returned (.bool (l.any farB)) ∧ w = w' := by
  obtain ⟨A, n, c, rfl, -⟩ := id h
  have hi := indexF_any K A n c l w h hl
  have hg := idxF_ge l
  rw [← hg]
  generalize idxF l = q at *
  clear h hl hg
  go_enter Tryz.func24, Tryz.ntmps24
  go_wp2_with fail
  refine hi.mono ?_
  rintro e w1 ⟨rfl, rfl⟩
  clear hi
  go_wp2_with fail
  go_ret
  exact ⟨rfl, rfl⟩
end Go.Proofs.YtpcdbkaeijhmfaaGreatDoor
