/- script: the plain model, reckoned. -/
import Derived.Test.YtpcdbkaeijhmfaaDoorPt
namespace Go.Proofs.YtpcdbkaeijhmfaaDoor
set_option maxRecDepth 100000
set_option linter.unusedVariables false
set_option linter.unusedSimpArgs false
/-- Words by steps. -/
def wordsF : Nat → By → List By
  | 0, _ => []
  | n + 1, l => match l.dropWhile (· == 32) with
    | [] => []
    | c :: r => (c :: r).take (max 1 (endB (c :: r))) :: wordsF n ((c :: r).drop (max 1 (endB (c :: r))))
theorem wordsF_eq : ∀ (n : Nat) (l : By), l.length ≤ n → wordsB l = wordsF n l
  | 0, l, h => by
    obtain rfl : l = [] := List.eq_nil_of_length_eq_zero (by omega)
    exact wordsB_nil rfl
  | n + 1, l, h => by
    unfold wordsF
    cases hd : l.dropWhile (· == 32) with
    | nil => exact wordsB_nil hd
    | cons c r =>
      have h1 : (l.dropWhile (· == 32)).length ≤ l.length := (List.dropWhile_sublist _).length_le
      rw [hd] at h1
      rw [wordsB_cons hd, wordsF_eq n _ (by rw [List.length_drop]; have : (c :: r).length = r.length + 1 := rfl; omega)]
def saysF (s : St) (n : Nat) : List By → St ⊕ Nat
  | [] => .inl s
  | l :: r => match sayW s (wordsF l.length l) with | none => .inr n | some s' => saysF s' (n + 1) r
theorem saysF_eq : ∀ (ls : List By) (s : St) (n : Nat), saysB s n ls = saysF s n ls
  | [], _, _ => rfl
  | l :: r, s, n => by
    unfold saysB saysF sayB
    rw [wordsF_eq l.length l (Nat.le_refl _)]
    cases sayW s (wordsF l.length l) with
    | none => rfl
    | some s' => exact saysF_eq r s' (n + 1)
def parseF (t : By) : Res :=
  if t.length > maxText ∨ (linesB t).length > maxLines then .great
  else match saysF newSt 1 (linesB t) with | .inl s => .ok s | .inr n => .line n
theorem parseF_eq (t : By) : parseB t = parseF t := by unfold parseB parseF; rw [saysF_eq]; rfl
def wkT : By := bs "# he\n fold \nword \"a\\0a\\22\"\n" ++ bs "\npick 1 -2\npick 3\nplan round 7 -1\nmost 9"
def wkS : St := { zeroSt with fold := true, words := [[97, 10, 34]], picks := [1, -2, 3], kind := 3, seed := 7, last := -1, cancel := -1, most := 9 }
def wkP : By := bs "fold\nword \"a\\0a\\22\"\nconf 0 0 0 0 0 0 0\npick 1 -2 3\nplan round 7 -1\ncancel -1\nmost 9\n"
def wkZ : St := { zeroSt with kind := 5 }
theorem wk1 : parseB wkT = .ok wkS := by rw [parseF_eq]; decide +kernel
theorem wk2 : parseB (bs "fold\n\nword \"a\\0a\"\"") = .line 3 := by rw [parseF_eq]; decide +kernel
theorem wk3 : parseB (bs "pick") = .line 1 := by rw [parseF_eq]; decide +kernel
theorem wk4 : parseB (bs "pick 01") = .line 1 := by rw [parseF_eq]; decide +kernel
theorem wk5 : parseB (bs "pick -0") = .line 1 := by rw [parseF_eq]; decide +kernel
theorem wk6 : parseB [] = .ok newSt := by rw [parseF_eq]; decide +kernel
theorem wk7 : printB wkS = some wkP := by decide +kernel
theorem wk8 : printB wkZ = none := by decide +kernel
theorem wk9 : parseB wkP = .ok wkS := by rw [parseF_eq]; decide +kernel
theorem wk10 : quoteB [127, 126] = [34, 92, 55, 102, 126, 34] := by decide +kernel
theorem wk11 : decide (wkS = newSt) = false := by decide +kernel
open Go.RowKit
/-- Parse of texts in a slice. -/
theorem flat_len : ∀ xs : List By, Lib.join xs [] = xs.flatten
  | [] => by simp [Lib.join, List.intercalate]
  | [x] => by simp [Lib.join, List.intercalate]
  | x :: y :: r => by
    have h := flat_len (y :: r)
    have e : Lib.join (x :: y :: r) [] = x ++ Lib.join (y :: r) [] := by simp [Lib.join, List.intercalate]
    rw [e, h]; simp
theorem joins_any (ls : List By) (A : Option Addr) (n c : Nat) (w : World) (h : Sl w (InW w) (.slice A n c) (svb ls)) (hl : ls.length ≤ 1000000) (hf : ls.flatten.length ≤ 140737488355328) :
    Calls Tryd.prog 23 #[.slice A n c, .string ⟨#[]⟩] w fun e w' => e = .returned (.string (ba ls.flatten)) ∧ Frm (fun _ => False) w w' := by
  obtain ⟨A', n', c', e, h1, h2, h3, h4⟩ := h
  cases e
  rw [svb_length] at h1
  subst h1
  by_cases h0 : ls.length = 0
  · obtain rfl : ls = [] := List.eq_nil_of_length_eq_zero h0
    refine (Tryd.strings_Join_none A c ⟨#[]⟩ w).mono ?_
    rintro e w' ⟨rfl, rfl⟩
    exact ⟨rfl, Frm.refl _ _⟩
  · obtain ⟨g, o, rfl, hK, hc⟩ := h4.resolve_left h0
    have hm : (ls.map ba).map (·.data.toList) = ls := by rw [List.map_map, show ((fun x : ByteArray => x.data.toList) ∘ ba) = id from rfl, List.map_id]
    have hj := Tryd.strings_Join g o c (ls.map ba) ⟨#[]⟩ w (fun j x hx => by
      obtain ⟨hj, he⟩ := List.getElem?_eq_some_iff.1 hx
      rw [List.length_map] at hj
      rw [hc j (by simpa using hj), ← he]
      simp only [svb, List.getElem_map]) hK (by simp; omega) (by simpa using h2) (by rw [hm]; show (Lib.join ls []).length ≤ _; rw [flat_len]; exact hf)
    rw [hm, List.length_map] at hj
    refine hj.mono ?_
    rintro e w' ⟨rfl, hB⟩
    refine ⟨?_, Frm.of_below hB⟩
    show Ending.returned (.string (ba (Lib.join ls []))) = _
    rw [flat_len]
theorem parseL_any (ls : List By) (A : Option Addr) (n c : Nat) (w : World) (h : Sl w (InW w) (.slice A n c) (svb ls)) (hl : ls.length ≤ 1000000) (hf : ls.flatten.length ≤ 140737488355328) (hg : Gl w) :
    Calls Tryd.prog 10 #[.slice A n c] w (ParsePost ls.flatten w) := by
  obtain ⟨⟨m, hm⟩, -⟩ := hg
  exact parse_any (.slice A n c) ls.flatten w m hm (by omega) fun W hF => joins_any ls A n c W (h.keptTo fun q hq => ⟨hF.block q hq id, Nat.lt_of_lt_of_le hq hF.size⟩) hl hf
end Go.Proofs.YtpcdbkaeijhmfaaDoor
