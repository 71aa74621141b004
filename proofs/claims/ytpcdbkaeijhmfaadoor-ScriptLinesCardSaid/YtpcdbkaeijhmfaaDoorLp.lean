/- Plain: a script is its lines. -/
import Derived.Test.YtpcdbkaeijhmfaaDoorBk
import Derived.Test.YtpcdbkaeijhmfaaDoorPo
namespace Go.Proofs.YtpcdbkaeijhmfaaDoor
set_option maxRecDepth 100000
set_option linter.unusedVariables false
set_option linter.unusedSimpArgs false
def remL (r : By) : By := 32 :: 32 :: 35 :: r
def putY (r : By) (a : Nat) (ls : List By) : List By := if a < ls.length then ls.take a ++ ([] :: remL r :: ls.drop a) else ls
def txtOf (ls : List By) : By := ls.flatMap (· ++ [10])
theorem txtOf_app (a b : List By) : txtOf (a ++ b) = txtOf a ++ txtOf b := List.flatMap_append
theorem txtOf_one (a : By) : txtOf [a] = a ++ [10] := by simp [txtOf]
theorem txtOf_len (ls : List By) : (txtOf ls).length = (ls.map (·.length)).sum + ls.length := by
  induction ls with
  | nil => rfl
  | cons l ls ih =>
    have e : txtOf (l :: ls) = (l ++ [10]) ++ txtOf ls := by simp [txtOf]
    rw [e, List.length_append, ih]
    simp only [List.length_append, List.length_cons, List.length_nil, List.map_cons, List.sum_cons]
    omega
theorem linesGo_no (t : By) : ∀ cur : By, 10 ∉ cur → ∀ l ∈ linesGo cur t, 10 ∉ l := by
  induction t with
  | nil =>
    intro cur hc l hl
    unfold linesGo at hl
    split at hl
    · cases hl
    · rw [List.mem_singleton.1 hl]; exact hc
  | cons c r ih =>
    intro cur hc l hl
    unfold linesGo at hl
    split at hl
    · rcases List.mem_cons.1 hl with rfl | hl
      · exact hc
      · exact ih [] (by simp) l hl
    · rename_i h10
      refine ih (cur ++ [c]) (fun hh => ?_) l hl
      rcases List.mem_append.1 hh with hh | hh
      · exact hc hh
      · exact h10 (List.mem_singleton.1 hh).symm
theorem linesB_no (t : By) : ∀ l ∈ linesB t, 10 ∉ l := linesGo_no t [] (by simp)
theorem linesB_app (rest : By) : ∀ ls : List By, (∀ l ∈ ls, 10 ∉ l) → linesB (txtOf ls ++ rest) = ls ++ linesB rest
  | [], _ => rfl
  | l :: ls, h => by
    have e : txtOf (l :: ls) ++ rest = l ++ 10 :: (txtOf ls ++ rest) := by simp [txtOf]
    rw [e, linesB_one l _ (h l (by simp)), linesB_app rest ls fun x hx => h x (by simp [hx])]
    rfl
theorem linesB_sum2 (t : By) : ((linesB t).map (·.length)).sum ≤ t.length := by
  have h := linesGo_sum t [] 1
  have e : ∀ (ls : List By) (n : Nat), sumL (numd n ls) = (ls.map (·.length)).sum := by
    intro ls
    induction ls with
    | nil => intro n; rfl
    | cons l ls ih => intro n; have := ih (n + 1); simp only [sumL, numd, List.map_cons, List.sum_cons] at this ⊢; omega
  rw [e] at h
  simpa [linesB] using h
theorem say_none (s : St) : sayB s [] = some s := by
  unfold sayB
  rw [show wordsB [] = [] from words_blank 0]
  rfl
theorem say_rem (s : St) (r : By) : sayB s (remL r) = some s := by
  have hd : (remL r).dropWhile (· == 32) = 35 :: r := by simp [remL]
  unfold sayB
  rw [wordsB_cons hd]
  obtain ⟨k, hk⟩ : ∃ k, max 1 (endB (35 :: r)) = k + 1 := ⟨max 1 (endB (35 :: r)) - 1, by omega⟩
  rw [hk, List.take_succ_cons]
  unfold sayW
  simp
theorem says_some {s s' : St} {l : By} (h : sayB s l = some s') (n : Nat) (r : List By) : saysB s n (l :: r) = saysB s' (n + 1) r := by rw [saysB, h]
theorem says_none {s : St} {l : By} (h : sayB s l = none) (n : Nat) (r : List By) : saysB s n (l :: r) = .inr n := by rw [saysB, h]
theorem saysB_app : ∀ (a b : List By) (s : St) (n : Nat), saysB s n (a ++ b) = match saysB s n a with | .inl s' => saysB s' (n + a.length) b | .inr k => .inr k
  | [], _, _, _ => rfl
  | l :: a, b, s, n => by
    rw [List.cons_append]
    cases hs : sayB s l with
    | none => rw [says_none hs, says_none hs]
    | some s' => rw [says_some hs, says_some hs, saysB_app a b s' (n + 1), List.length_cons, show n + 1 + a.length = n + (a.length + 1) by omega]
theorem saysB_bad : ∀ (ls : List By) (s : St) (n k : Nat), saysB s n ls = .inr k → n ≤ k ∧ k < n + ls.length
  | [], _, _, _, h => by cases h
  | l :: ls, s, n, k, h => by
    cases hs : sayB s l with
    | none => rw [says_none hs] at h; cases h; rw [List.length_cons]; omega
    | some s' =>
      rw [says_some hs] at h
      have := saysB_bad ls s' (n + 1) k h
      rw [List.length_cons]
      omega
theorem saysB_up : ∀ (ls : List By) (s : St) (n : Nat), saysB s (n + 2) ls = match saysB s n ls with | .inl s' => .inl s' | .inr k => .inr (k + 2)
  | [], _, _ => rfl
  | l :: ls, s, n => by
    cases hs : sayB s l with
    | none => rw [says_none hs, says_none hs]
    | some s' => rw [says_some hs, says_some hs]; exact saysB_up ls s' (n + 1)
theorem says_put (r : By) (a : Nat) (ls : List By) (s : St) : saysB s 1 (putY r a ls) = match saysB s 1 ls with | .inl s' => .inl s' | .inr k => .inr (if a < k then k + 2 else k) := by
  unfold putY
  by_cases ha : a < ls.length
  · rw [if_pos ha, saysB_app]
    conv => rhs; rw [← List.take_append_drop a ls, saysB_app]
    have hl : (ls.take a).length = a := by rw [List.length_take]; omega
    cases h1 : saysB s 1 (ls.take a) with
    | inr k =>
      have := saysB_bad _ _ _ _ h1
      show Sum.inr k = Sum.inr (if a < k then k + 2 else k)
      rw [if_neg (by omega)]
    | inl s' =>
      show saysB s' (1 + (ls.take a).length) ([] :: remL r :: ls.drop a) = match saysB s' (1 + (ls.take a).length) (ls.drop a) with | .inl s' => .inl s' | .inr k => .inr (if a < k then k + 2 else k)
      rw [hl]
      have e : saysB s' (1 + a) ([] :: remL r :: ls.drop a) = saysB s' (1 + a + 2) (ls.drop a) := by
        rw [says_some (say_none s'), says_some (say_rem s' r)]
      rw [e, saysB_up]
      cases h2 : saysB s' (1 + a) (ls.drop a) with
      | inl s2 => rfl
      | inr k =>
        have := saysB_bad _ _ _ _ h2
        show Sum.inr (k + 2) = Sum.inr (if a < k then k + 2 else k)
        rw [if_pos (by omega)]
  · rw [if_neg ha]
    cases h1 : saysB s 1 ls with
    | inl s' => rfl
    | inr k =>
      have := saysB_bad _ _ _ _ h1
      show Sum.inr k = Sum.inr (if a < k then k + 2 else k)
      rw [if_neg (by omega)]
theorem putY_no (r : By) (a : Nat) (ls : List By) (hr : 10 ∉ r) (h : ∀ l ∈ ls, 10 ∉ l) : ∀ l ∈ putY r a ls, 10 ∉ l := by
  unfold putY
  split
  · intro l hl
    rcases List.mem_append.1 hl with hl | hl
    · exact h l (List.mem_of_mem_take hl)
    · rcases List.mem_cons.1 hl with rfl | hl
      · simp
      · rcases List.mem_cons.1 hl with rfl | hl
        · unfold remL; simp [hr]
        · exact h l (List.mem_of_mem_drop hl)
  · exact h
theorem putY_len (r : By) (a : Nat) (ls : List By) : (putY r a ls).length = if a < ls.length then ls.length + 2 else ls.length := by
  unfold putY
  split
  · simp only [List.length_append, List.length_take, List.length_cons, List.length_drop]; omega
  · rfl
theorem putY_text (r : By) (a : Nat) (ls : List By) : (txtOf (putY r a ls)).length ≤ (txtOf ls).length + r.length + 5 := by
  unfold putY
  split
  · have e : txtOf ls = txtOf (ls.take a) ++ txtOf (ls.drop a) := by rw [← txtOf_app, List.take_append_drop]
    have e2 : txtOf (ls.take a ++ ([] :: remL r :: ls.drop a)) = txtOf (ls.take a) ++ (10 :: (remL r ++ 10 :: txtOf (ls.drop a))) := by
      rw [txtOf_app]; simp [txtOf]
    rw [e, e2]
    simp only [List.length_append, List.length_cons, remL]
    omega
  · omega
/-- Lines between are nothing. -/
theorem parse_put (x r : By) (a : Nat) (hx : x.length ≤ 5000) (hr : 10 ∉ r) (hr2 : r.length ≤ 100) (hl : (linesB x).length ≤ 900) :
    (∃ s, parseB x = .ok s ∧ parseB (txtOf (putY r a (linesB x))) = .ok s) ∨ (∃ n, parseB x = .line n ∧ parseB (txtOf (putY r a (linesB x))) = .line (if a < n then n + 2 else n) ∧ n ≤ 900) := by
  have h1 : linesB (txtOf (putY r a (linesB x))) = putY r a (linesB x) := by
    have := linesB_app [] _ (putY_no r a (linesB x) hr (linesB_no x))
    simpa [linesB, linesGo] using this
  have h2 := putY_text r a (linesB x)
  have h3 := txtOf_len (linesB x)
  have h4 := linesB_sum2 x
  have h5 := putY_len r a (linesB x)
  have g1 : ¬ (x.length > maxText ∨ (linesB x).length > maxLines) := by unfold maxText maxLines; omega
  have g2 : ¬ ((txtOf (putY r a (linesB x))).length > maxText ∨ (linesB (txtOf (putY r a (linesB x)))).length > maxLines) := by
    rw [h1, h5]; unfold maxText maxLines; split <;> omega
  unfold parseB
  rw [if_neg g1, if_neg g2, h1, says_put]
  cases hs : saysB newSt 1 (linesB x) with
  | inl s => exact .inl ⟨s, rfl, rfl⟩
  | inr n => exact .inr ⟨n, rfl, rfl, by have := saysB_bad _ _ _ _ hs; omega⟩
theorem say_foldyes (s : St) : sayB s (bs "fold yes") = none := by
  unfold sayB
  rw [show wordsB (bs "fold yes") = [bs "fold", bs "yes"] from by rw [wordsF_eq 8 _ (by decide)]; decide +kernel]
  unfold sayW
  dsimp only
  rw [if_neg (by decide), if_pos rfl, if_neg (by simp)]
/-- A line that is none is told by its number. -/
theorem parse_bad (x r z : By) (a : Nat) (s : St) (hx : x.length ≤ 5000) (hr : 10 ∉ r) (hr2 : r.length ≤ 100) (hl : (linesB x).length ≤ 900) (hz : z.length ≤ 5000) (hz2 : (linesB z).length ≤ 90) (h : parseB x = .ok s) :
    parseB ([txtOf (putY r a (linesB x)), bs "fold yes\n", z] : List By).flatten = .line (if a < (linesB x).length then (linesB x).length + 3 else (linesB x).length + 1) := by
  have e0 : ([txtOf (putY r a (linesB x)), bs "fold yes\n", z] : List By).flatten = txtOf (putY r a (linesB x)) ++ (bs "fold yes" ++ 10 :: z) := by
    rw [List.flatten_cons, List.flatten_cons, List.flatten_cons, List.flatten_nil, List.append_nil, show bs "fold yes\n" = bs "fold yes" ++ [10] from by decide, List.append_assoc]
    rfl
  have h1 : linesB (txtOf (putY r a (linesB x)) ++ (bs "fold yes" ++ 10 :: z)) = putY r a (linesB x) ++ (bs "fold yes" :: linesB z) := by
    rw [linesB_app _ _ (putY_no r a (linesB x) hr (linesB_no x)), linesB_one _ _ (by decide)]
  have h2 := putY_text r a (linesB x)
  have h3 := txtOf_len (linesB x)
  have h4 := linesB_sum2 x
  have h5 := putY_len r a (linesB x)
  have g2 : ¬ ((txtOf (putY r a (linesB x)) ++ (bs "fold yes" ++ 10 :: z)).length > maxText ∨ (linesB (txtOf (putY r a (linesB x)) ++ (bs "fold yes" ++ 10 :: z))).length > maxLines) := by
    rw [h1, List.length_append, List.length_append, List.length_append, h5, show (bs "fold yes").length = 8 from by decide]
    simp only [List.length_cons]
    unfold maxText maxLines
    split <;> omega
  have hsay : saysB newSt 1 (linesB x) = .inl s := by
    unfold parseB at h
    split at h
    · cases h
    · cases hs : saysB newSt 1 (linesB x) with
      | inl s' => rw [hs] at h; cases h; rfl
      | inr n => rw [hs] at h; cases h
  rw [e0]
  unfold parseB
  rw [if_neg g2, h1, saysB_app, says_put, hsay, h5]
  have e : ∀ m, (match saysB s m (bs "fold yes" :: linesB z) with | .inl s => Res.ok s | .inr n => Res.line n) = .line m := fun m => by rw [says_none (say_foldyes s)]
  refine (e (1 + if a < (linesB x).length then (linesB x).length + 2 else (linesB x).length)).trans ?_
  split <;> (congr 1; omega)
end Go.Proofs.YtpcdbkaeijhmfaaDoor
