/- script: great; lines, plain. -/
import Derived.Test.YtpcdbkaeijhmfaaDoorLn
import Derived.Test.YtpcdbkaeijhmfaaDoorRngst
namespace Go.Proofs.YtpcdbkaeijhmfaaDoor
set_option maxRecDepth 100000
set_option linter.unusedVariables false
set_option linter.unusedSimpArgs false
open Go.RowKit
theorem linesGo_len : ∀ (t cur : By), (linesGo cur t).length = t.count 10 + (if t = [] then (if cur = [] then 0 else 1) else if t.getLast? = some 10 then 0 else 1)
  | [], cur => by
    unfold linesGo
    by_cases h : cur = [] <;> simp [h]
  | c :: r, cur => by
    unfold linesGo
    by_cases hc : c = 10
    · subst hc
      rw [if_pos rfl, List.length_cons, linesGo_len r []]
      cases r with
      | nil => simp
      | cons d r => simp [List.getLast?_cons_cons]; omega
    · rw [if_neg hc, linesGo_len r (cur ++ [c])]
      cases r with
      | nil => simp [hc]
      | cons d r => simp [List.getLast?_cons_cons, hc]
theorem linesB_len (t : By) : (linesB t).length = t.count 10 + (if t = [] then 0 else if t.getLast? = some 10 then 0 else 1) := by
  unfold linesB
  rw [linesGo_len]
  by_cases h : t = [] <;> simp [h]
def greatB (t : By) : Bool := decide (t.length > maxText ∨ (linesB t).length > maxLines)
set_option maxHeartbeats 1600000 in
theorem great_any (t : By) (w : World) (ht : t.length ≤ 9000000000000000000) : Calls Tryd.prog 21 #[.string (ba t)] w fun e w' => e = .returned (.bool (greatB t)) ∧ w = w' := by
  have hco : ∀ w, Calls Tryd.prog 38 #[.string (ba t), .string ⟨#[10]⟩] w fun e w' => e = .returned (.int .i64 (t.count 10 : Nat)) ∧ w' = w := fun w => Tryd.strings_Count_one (ba t) 10 w
  have hsu : ∀ w, Calls Tryd.prog 39 #[.string (ba t), .string ⟨#[10]⟩] w fun e w' => e = .returned (.bool (decide (t.getLast? = some 10))) ∧ w' = w := fun w => by
    have := Tryd.strings_HasSuffix (ba t) ⟨#[10]⟩ w (by rw [ba_size]; omega)
    rw [ba_data, show (⟨#[10]⟩ : ByteArray).data.toList = [10] from rfl, suffix_one] at this
    exact this
  have hsz : (ba t).size = t.length := rfl
  have hem : (ba t).toList.isEmpty = decide (t = []) := by rw [ba_toList]; cases t <;> simp
  have hcl := List.count_le_length (a := (10 : UInt8)) (l := t)
  obtain ⟨r, hr⟩ : ∃ r, r = greatB t := ⟨_, rfl⟩
  rw [← hr]
  unfold greatB at hr
  rw [linesB_len] at hr
  obtain ⟨n, hn⟩ : ∃ n, n = t.length := ⟨_, rfl⟩
  rw [← hn] at hsz ht hr hcl
  have HC := Lib.hid (And.intro hco hsu)
  generalize ba t = S at *
  generalize t.count 10 = k at *
  by_cases h1 : n > maxText
  · have Hr := Lib.hid (show r = true by rw [hr]; exact decide_eq_true (.inl h1))
    unfold maxText at h1
    clear hr hco hsu hem hn
    go_enter Tryd.func21, Tryd.ntmps21
    go_wp2_with fail
    go_ret
    exact ⟨ret_bool Hr.out.symm, rfl⟩
  · have hn9 : n ≤ 65536 := by unfold maxText at h1; omega
    by_cases h0 : t = []
    · rw [decide_eq_true h0] at hem
      have Hr := Lib.hid (show r = decide (k > 1000) by
        rw [hr, if_pos h0, decide_eq_decide]; unfold maxText maxLines; omega)
      clear hr hco hsu hn h0 h1
      go_enter Tryd.func21, Tryd.ntmps21
      go_wp2_with fail
      refine (HC.out.1 w).mono ?_
      rintro e w1 ⟨rfl, rfl⟩
      go_wp2_with fail
      all_goals
        go_ret
        refine ⟨ret_bool ?_, rfl⟩
        rw [Hr.out]
        first | rfl | (rw [decide_eq_decide]; omega)
    · rw [decide_eq_false h0] at hem
      by_cases hs : t.getLast? = some 10
      · have Hr := Lib.hid (show r = decide (k > 1000) by
          rw [hr, if_neg h0, if_pos hs, decide_eq_decide]; unfold maxText maxLines; omega)
        have Hsu := Lib.hid (show Calls Tryd.prog 39 #[.string S, .string ⟨#[10]⟩] w fun e w' => e = .returned (.bool true) ∧ w' = w by have := hsu w; rwa [decide_eq_true hs] at this)
        clear hr hco hsu hn h0 h1 hs
        go_enter Tryd.func21, Tryd.ntmps21
        go_wp2_with fail
        refine (HC.out.1 w).mono ?_
        rintro e w1 ⟨rfl, rfl⟩
        go_wp2_with fail
        refine Hsu.out.mono ?_
        rintro e w1 ⟨rfl, rfl⟩
        go_wp2_with fail
        all_goals
          go_ret
          refine ⟨ret_bool ?_, rfl⟩
          rw [Hr.out]
          first | rfl | (rw [decide_eq_decide]; omega)
      · have Hr := Lib.hid (show r = decide (k + 1 > 1000) by
          rw [hr, if_neg h0, if_neg hs, decide_eq_decide]; unfold maxText maxLines; omega)
        have Hsu := Lib.hid (show Calls Tryd.prog 39 #[.string S, .string ⟨#[10]⟩] w fun e w' => e = .returned (.bool false) ∧ w' = w by have := hsu w; rwa [decide_eq_false hs] at this)
        clear hr hco hsu hn h0 h1 hs
        go_enter Tryd.func21, Tryd.ntmps21
        go_wp2_with fail
        refine (HC.out.1 w).mono ?_
        rintro e w1 ⟨rfl, rfl⟩
        go_wp2_with fail
        refine Hsu.out.mono ?_
        rintro e w1 ⟨rfl, rfl⟩
        go_wp2_with fail
        all_goals
          go_ret
          refine ⟨ret_bool ?_, rfl⟩
          rw [Hr.out]
          first | rfl | (rw [decide_eq_decide]; omega)
end Go.Proofs.YtpcdbkaeijhmfaaDoor
