/- script: the plain model, reckoned. script: what is quoted comes back; plain. script: what is printed is parsed to the same story; plain. The document's script: a row of numbers. -/
import Derived.Lib.ItoaLen
import Derived.Test.YtpcdbkaeijhmfaaGreatDoorHPt
import Derived.Test.YtpcdbkaeijhmfaaGreatDoorGH
import Derived.Test.YtpcdbkaeijhmfaaGreatDoorHCu
namespace Go.Proofs.YtpcdbkaeijhmfaaGreatDoor
set_option maxRecDepth 100000
set_option linter.unusedVariables false
set_option linter.unusedSimpArgs false
/-- Words by steps. -/
def wordsF : Nat → By → List By
  | 0, _ => []
  | n + 1, l => match l.dropWhile (· == 32) with
    | [] => []
    | c :: r => (c :: r).take (max 1 (endB (c :: r))) :: wordsF n ((c :: r).drop (max 1 (endB (c :: r))))
theorem wordsF_eq : ∀ (n : Nat) (l : By), l.length ≤ n → wordsB l = wordsF n l
  | 0, l, h => by
    obtain rfl : l = [] := List.eq_nil_of_length_eq_zero (by omega)
    exact wordsB_nil rfl
  | n + 1, l, h => by
    unfold wordsF
    cases hd : l.dropWhile (· == 32) with
    | nil => exact wordsB_nil hd
    | cons c r =>
      have h1 : (l.dropWhile (· == 32)).length ≤ l.length := (List.dropWhile_sublist _).length_le
      rw [hd] at h1
      rw [wordsB_cons hd, wordsF_eq n _ (by rw [List.length_drop]; have : (c :: r).length = r.length + 1 := rfl; omega)]
def saysF (s : St) (n : Nat) : List By → St ⊕ Nat
  | [] => .inl s
  | l :: r => match sayW s (wordsF l.length l) with | none => .inr n | some s' => saysF s' (n + 1) r
theorem saysF_eq : ∀ (ls : List By) (s : St) (n : Nat), saysB s n ls = saysF s n ls
  | [], _, _ => rfl
  | l :: r, s, n => by
    unfold saysB saysF sayB
    rw [wordsF_eq l.length l (Nat.le_refl _)]
    cases sayW s (wordsF l.length l) with
    | none => rfl
    | some s' => exact saysF_eq r s' (n + 1)
def parseF (t : By) : Res :=
  if t.length > maxText ∨ (linesB t).length > maxLines then .great
  else match saysF newSt 1 (linesB t) with | .inl s => .ok s | .inr n => .line n
theorem parseF_eq (t : By) : parseB t = parseF t := by unfold parseB parseF; rw [saysF_eq]; rfl
def wkT : By := bs "# he\n fold \nword \"a\\0a\\22\"\n" ++ bs "\npick 1 -2\npick 3\nplan round 7 -1\nmost 9"
def wkS : St := { zeroSt with fold := true, words := [[97, 10, 34]], picks := [1, -2, 3], kind := 3, seed := 7, last := -1, cancel := -1, most := 9 }
def wkP : By := bs "fold\nword \"a\\0a\\22\"\nconf 0 0 0 0 0 0 0\npick 1 -2 3\nplan round 7 -1\ncancel -1\nmost 9\n"
def wkZ : St := { zeroSt with kind := 5 }
theorem wk1 : parseB wkT = .ok wkS := by rw [parseF_eq]; decide +kernel
theorem wk2 : parseB (bs "fold\n\nword \"a\\0a\"\"") = .line 3 := by rw [parseF_eq]; decide +kernel
theorem wk3 : parseB (bs "pick") = .line 1 := by rw [parseF_eq]; decide +kernel
theorem wk4 : parseB (bs "pick 01") = .line 1 := by rw [parseF_eq]; decide +kernel
theorem wk5 : parseB (bs "pick -0") = .line 1 := by rw [parseF_eq]; decide +kernel
theorem wk6 : parseB [] = .ok newSt := by rw [parseF_eq]; decide +kernel
theorem wk7 : printB wkS = some wkP := by decide +kernel
theorem wk8 : printB wkZ = none := by decide +kernel
theorem wk9 : parseB wkP = .ok wkS := by rw [parseF_eq]; decide +kernel
theorem wk10 : quoteB [127, 126] = [34, 92, 55, 102, 126, 34] := by decide +kernel
theorem wk11 : decide (wkS = newSt) = false := by decide +kernel
open Go.RowKit
/-- Parse of texts in a slice. -/
theorem flat_len : ∀ xs : List By, Lib.join xs [] = xs.flatten
  | [] => by simp [Lib.join, List.intercalate]
  | [x] => by simp [Lib.join, List.intercalate]
  | x :: y :: r => by
    have h := flat_len (y :: r)
    have e : Lib.join (x :: y :: r) [] = x ++ Lib.join (y :: r) [] := by simp [Lib.join, List.intercalate]
    rw [e, h]; simp
theorem joins_any (ls : List By) (A : Option Addr) (n c : Nat) (w : World) (h : Sl w (InW w) (.slice A n c) (svb ls)) (hl : ls.length ≤ 1000000) (hf : ls.flatten.length ≤ 140737488355328) :
    Calls Tryz.prog 14 #[.slice A n c, .string ⟨#[]⟩] w fun e w' => e = .returned (.string (ba ls.flatten)) ∧ Frm (fun _ => False) w w' := by
  obtain ⟨A', n', c', e, h1, h2, h3, h4⟩ := h
  cases e
  rw [svb_length] at h1
  subst h1
  by_cases h0 : ls.length = 0
  · obtain rfl : ls = [] := List.eq_nil_of_length_eq_zero h0
    refine (Tryz.strings_Join_none A c ⟨#[]⟩ w).mono ?_
    rintro e w' ⟨rfl, rfl⟩
    exact ⟨rfl, Frm.refl _ _⟩
  · obtain ⟨g, o, rfl, hK, hc⟩ := h4.resolve_left h0
    have hm : (ls.map ba).map (·.data.toList) = ls := by rw [List.map_map, show ((fun x : ByteArray => x.data.toList) ∘ ba) = id from rfl, List.map_id]
    have hj := Tryz.strings_Join g o c (ls.map ba) ⟨#[]⟩ w (fun j x hx => by
      obtain ⟨hj, he⟩ := List.getElem?_eq_some_iff.1 hx
      rw [List.length_map] at hj
      rw [hc j (by simpa using hj), ← he]
      simp only [svb, List.getElem_map]) hK (by simp; omega) (by simpa using h2) (by rw [hm]; show (Lib.join ls []).length ≤ _; rw [flat_len]; exact hf)
    rw [hm, List.length_map] at hj
    refine hj.mono ?_
    rintro e w' ⟨rfl, hB⟩
    refine ⟨?_, Frm.of_below hB⟩
    show Ending.returned (.string (ba (Lib.join ls []))) = _
    rw [flat_len]
theorem parseL_any (ls : List By) (A : Option Addr) (n c : Nat) (w : World) (h : Sl w (InW w) (.slice A n c) (svb ls)) (hl : ls.length ≤ 1000000) (hf : ls.flatten.length ≤ 140737488355328) (hg : Gl w) :
    Calls Tryz.prog 6 #[.slice A n c] w (ParsePost ls.flatten w) := by
  obtain ⟨⟨m, hm⟩, -⟩ := hg
  exact parse_any (.slice A n c) ls.flatten w m hm (by omega) fun W hF => joins_any ls A n c W (h.keptTo fun q hq => ⟨hF.block q hq id, Nat.lt_of_lt_of_le hq hF.size⟩) hl hf
end Go.Proofs.YtpcdbkaeijhmfaaGreatDoor
namespace Go.Proofs.YtpcdbkaeijhmfaaGreatDoor
set_option maxRecDepth 100000
set_option linter.unusedVariables false
set_option linter.unusedSimpArgs false
theorem hexD_back : ∀ n : Nat, n < 16 → hexB (hexD n) = some n := by decide +kernel
theorem quote1_unq (c : UInt8) (r : By) : unqB (quote1 c ++ r) = (unqB r).map (c :: ·) := by
  unfold quote1
  by_cases hp : plainB c = true
  · rw [if_pos hp]
    have h92 : c ≠ 92 := by rintro rfl; revert hp; decide
    show unqB (c :: r) = _
    rw [unqB]
    · rw [if_pos hp]
    · intro a b r' e; exact absurd e h92
  · rw [if_neg hp]
    have hc : c.toNat < 256 := c.toNat_lt
    show unqB (92 :: hexD (c.toNat / 16) :: hexD (c.toNat % 16) :: r) = _
    rw [unqB, hexD_back _ (by omega), hexD_back _ (by omega)]
    have e : UInt8.ofNat (16 * (c.toNat / 16) + c.toNat % 16) = c := by
      rw [Nat.div_add_mod]
      exact UInt8.toNat_inj.1 (by simp)
    simp only [e]
theorem unq_quote (b : By) : unqB (b.flatMap quote1) = some b := by
  induction b with
  | nil => rfl
  | cons c r ih => rw [List.flatMap_cons, quote1_unq, ih]; rfl
theorem txt_quote (b : By) : txtB (quoteB b) = some b := by
  unfold quoteB txtB
  simp only
  rw [if_pos ⟨trivial, by simp⟩, List.dropLast_concat, unq_quote]
theorem hexD_sign : ∀ n : Nat, n < 16 → 48 ≤ (hexD n).toNat ∧ (hexD n).toNat ≤ 102 := by decide +kernel
/-- What stands between the marks: signs, and no mark. -/
theorem quote1_sign (c : UInt8) : ∀ x ∈ quote1 c, 32 ≤ x.toNat ∧ x.toNat ≤ 126 ∧ x ≠ 34 := by
  intro x hx
  unfold quote1 at hx
  split at hx
  · rename_i hp
    rw [List.mem_singleton.1 hx]
    have := of_decide_eq_true hp
    exact ⟨this.1, this.2.1, fun e => this.2.2.1 (by rw [e]; rfl)⟩
  · have hc : c.toNat < 256 := c.toNat_lt
    have key : ∀ n : Nat, n < 16 → 32 ≤ (hexD n).toNat ∧ (hexD n).toNat ≤ 126 ∧ hexD n ≠ 34 := by decide +kernel
    simp only [List.mem_cons, List.not_mem_nil, or_false] at hx
    rcases hx with rfl | rfl | rfl
    · decide
    · exact key _ (by omega)
    · exact key _ (by omega)
theorem body_sign (b : By) : ∀ x ∈ b.flatMap quote1, 32 ≤ x.toNat ∧ x.toNat ≤ 126 ∧ x ≠ 34 := by
  intro x hx
  obtain ⟨c, _, hc⟩ := List.mem_flatMap.1 hx
  exact quote1_sign c x hc
theorem quote_sign (b : By) : ∀ x ∈ quoteB b, 32 ≤ x.toNat ∧ x.toNat ≤ 126 := by
  intro x hx
  unfold quoteB at hx
  simp only [List.mem_cons, List.mem_append, List.not_mem_nil, or_false] at hx
  rcases hx with rfl | hx | rfl
  · decide
  · exact ⟨(body_sign b x hx).1, (body_sign b x hx).2.1⟩
  · decide
theorem quote_no (b : By) : 10 ∉ quoteB b := fun h => by have := quote_sign b 10 h; revert this; decide
theorem body_len (b : By) : b.length ≤ (b.flatMap quote1).length := by
  induction b with
  | nil => simp
  | cons c r ih =>
    rw [List.flatMap_cons, List.length_append, List.length_cons]
    have : 1 ≤ (quote1 c).length := by unfold quote1; split <;> simp
    omega
/-- Where the quoted word ends. -/
theorem idx_body : ∀ (l rest : By), (∀ x ∈ l, x ≠ 34) → (l ++ 34 :: rest).idxOf? 34 = some l.length
  | [], rest, _ => by simp [List.idxOf?, List.findIdx?_cons]
  | c :: l, rest, h => by
    have h1 := idx_body l rest fun x hx => h x (by simp [hx])
    have hc : (c == 34) = false := by simpa using h c (by simp)
    simp only [List.idxOf?] at h1 ⊢
    rw [List.cons_append, List.findIdx?_cons, hc]
    simp [h1]
theorem end_quote (b rest : By) (h : rest = [] ∨ ∃ r, rest = 32 :: r) : endB (quoteB b ++ rest) = (quoteB b).length := by
  have e : quoteB b ++ rest = 34 :: (b.flatMap quote1 ++ 34 :: rest) := by simp [quoteB]
  have hl : (quoteB b).length = (b.flatMap quote1).length + 2 := by simp [quoteB]
  rw [e, endB_eq]
  unfold begB
  rw [if_pos rfl, idx_body _ _ fun x hx => (body_sign b x hx).2.2]
  simp only
  have hd : (34 :: (b.flatMap quote1 ++ 34 :: rest)).drop ((b.flatMap quote1).length + 2) = rest := by
    rw [← e, ← hl, List.drop_left]
  rw [hd, hl]
  rcases h with rfl | ⟨r, rfl⟩
  · rfl
  · simp
/-- A line that is a quoted word behind blanks. -/
theorem words_quote (k : Nat) (b rest : By) (h : rest = [] ∨ ∃ r, rest = 32 :: r) : wordsB (List.replicate k 32 ++ (quoteB b ++ rest)) = quoteB b :: wordsB rest := by
  have hd : (List.replicate k (32 : UInt8) ++ (quoteB b ++ rest)).dropWhile (· == 32) = quoteB b ++ rest := by
    induction k with
    | zero => simp [quoteB]
    | succ k ih => rw [List.replicate_succ, List.cons_append, List.dropWhile_cons]; simpa using ih
  have e : quoteB b ++ rest = 34 :: (b.flatMap quote1 ++ 34 :: rest) := by simp [quoteB]
  have hh := hd.trans e
  rw [wordsB_cons hh, ← e, end_quote b rest h, Nat.max_eq_right (by simp [quoteB]), List.take_left, List.drop_left]
/-- A plain word: no blank, no mark at its head. -/
theorem end_word (w rest : By) (hw : ∀ x ∈ w, x ≠ 32) (c : UInt8) (r : By) (hc : w = c :: r) (h34 : c ≠ 34) (h : rest = [] ∨ ∃ r, rest = 32 :: r) : endB (w ++ rest) = w.length := by
  subst hc
  rw [List.cons_append, endB_eq]
  unfold begB
  rw [if_neg h34, List.drop_zero, Nat.zero_add, ← List.cons_append]
  have key : ∀ l : By, (∀ x ∈ l, x ≠ 32) → ((l ++ rest).takeWhile (· != 32)) = l := by
    intro l
    induction l with
    | nil =>
      intro _
      rcases h with rfl | ⟨r, rfl⟩ <;> simp
    | cons a l ih =>
      intro hl
      have ha : (a != 32) = true := by simpa using hl a (by simp)
      rw [List.cons_append, List.takeWhile_cons, if_pos ha, ih fun x hx => hl x (by simp [hx])]
  rw [key _ hw]
theorem words_word (k : Nat) (w rest : By) (hw : ∀ x ∈ w, x ≠ 32) (c : UInt8) (r : By) (hc : w = c :: r) (h34 : c ≠ 34) (h : rest = [] ∨ ∃ r, rest = 32 :: r) : wordsB (List.replicate k 32 ++ (w ++ rest)) = w :: wordsB rest := by
  have hc32 : c ≠ 32 := hw c (by simp [hc])
  have hd : (List.replicate k (32 : UInt8) ++ (w ++ rest)).dropWhile (· == 32) = w ++ rest := by
    induction k with
    | zero => rw [hc]; simp [hc32]
    | succ k ih => rw [List.replicate_succ, List.cons_append, List.dropWhile_cons]; simpa using ih
  have e : w ++ rest = c :: (r ++ rest) := by rw [hc]; rfl
  have hh := hd.trans e
  rw [wordsB_cons hh, ← e, end_word w rest hw c r hc h34 h, Nat.max_eq_right (by rw [hc]; simp), List.take_left, List.drop_left]
theorem words_blank (k : Nat) : wordsB (List.replicate k 32) = [] := wordsB_nil (by
  induction k with
  | zero => rfl
  | succ k ih => rw [List.replicate_succ, List.dropWhile_cons]; simp)
/-- Lines: what has no LF is one. -/
theorem linesGo_app (l : By) : ∀ (cur rest : By), 10 ∉ l → linesGo cur (l ++ 10 :: rest) = (cur ++ l) :: linesGo [] rest := by
  induction l with
  | nil => intro cur rest _; simp [linesGo]
  | cons c l ih =>
    intro cur rest h
    have hc : c ≠ 10 := fun e => h (by simp [e])
    rw [List.cons_append, linesGo, if_neg hc, ih _ _ fun hh => h (by simp [hh])]
    simp
theorem linesGo_last (l : By) : ∀ (cur : By), 10 ∉ l → linesGo cur l = if cur ++ l = [] then [] else [cur ++ l] := by
  induction l with
  | nil => intro cur _; simp [linesGo]
  | cons c l ih =>
    intro cur h
    have hc : c ≠ 10 := fun e => h (by simp [e])
    rw [linesGo, if_neg hc, ih _ fun hh => h (by simp [hh])]
    simp
theorem linesB_one (l rest : By) (h : 10 ∉ l) : linesB (l ++ 10 :: rest) = l :: linesB rest := by
  have := linesGo_app l [] rest h
  simpa [linesB] using this
theorem linesB_last (l : By) (h : 10 ∉ l) (hne : l ≠ []) : linesB l = [l] := by
  have := linesGo_last l [] h
  rw [List.nil_append, if_neg hne] at this
  exact this
theorem quote_len3 (b : By) : (quoteB b).length ≤ 3 * b.length + 2 := by
  have h2 := quoteGo_len b
  rw [quoteB_eq, List.length_append, List.length_singleton]; omega
def textS (b : By) : St := { newSt with words := [b], reads := [b] }
theorem say_word (s : St) (b : By) : sayW s [bs "word", quoteB b] = some { s with words := s.words ++ [b] } := by
  have h : sayW s [bs "word", quoteB b] = wordB s [quoteB b] := by
    unfold sayW
    simp only
    rw [if_neg (by decide), if_neg (by decide), if_neg (by decide), if_pos trivial]
  rw [h]
  unfold wordB
  simp only
  rw [txt_quote]; rfl
theorem say_read (s : St) (b : By) : sayW s [bs "read", quoteB b] = some { s with reads := s.reads ++ [b] } := by
  have h : sayW s [bs "read", quoteB b] = readB s [quoteB b] := by
    unfold sayW
    simp only
    rw [if_neg (by decide), if_neg (by decide), if_neg (by decide), if_neg (by decide), if_pos trivial]
  rw [h]
  unfold readB
  simp only
  rw [txt_quote]; rfl
theorem parse_text (b : By) (h : b.length ≤ 300) : parseB ([bs "  word  ", quoteB b, bs " \nread " ++ quoteB b] : List By).flatten = .ok (textS b) := by
  have hq := quote_len3 b
  have hn := quote_no b
  obtain ⟨Q, hQ⟩ : ∃ Q, Q = quoteB b := ⟨_, rfl⟩
  have e : ([bs "  word  ", quoteB b, bs " \nread " ++ quoteB b] : List By).flatten = (bs "  word  " ++ (Q ++ [32])) ++ 10 :: (bs "read " ++ Q) := by
    rw [← hQ, show bs " \nread " = [32] ++ 10 :: bs "read " by decide]
    simp
  have e1 : bs "  word  " ++ (Q ++ [32]) = List.replicate 2 32 ++ (bs "word" ++ (List.replicate 2 32 ++ (Q ++ [32]))) := by
    rw [show bs "  word  " = List.replicate 2 32 ++ (bs "word" ++ List.replicate 2 32) by decide]
    simp
  have e2 : bs "read " ++ Q = List.replicate 0 32 ++ (bs "read" ++ (List.replicate 1 32 ++ (Q ++ []))) := by
    rw [show bs "read " = bs "read" ++ List.replicate 1 32 by decide]
    simp
  have n1 : 10 ∉ bs "  word  " ++ (Q ++ [32]) := by
    rw [hQ]
    simp only [List.mem_append, not_or]
    exact ⟨by decide, hn, by decide⟩
  have n2 : 10 ∉ bs "read " ++ Q := by
    rw [hQ]
    simp only [List.mem_append, not_or]
    exact ⟨by decide, hn⟩
  have w1 : wordsB (bs "  word  " ++ (Q ++ [32])) = [bs "word", quoteB b] := by
    rw [e1, words_word 2 (bs "word") (List.replicate 2 32 ++ (Q ++ [32])) (by decide) 119 [111, 114, 100] (by decide) (by decide) (.inr ⟨List.replicate 1 32 ++ (Q ++ [32]), rfl⟩), hQ, words_quote 2 b [32] (.inr ⟨[], rfl⟩)]
    exact congrArg (fun x => [bs "word", quoteB b] ++ x) (words_blank 1)
  have w2 : wordsB (bs "read " ++ Q) = [bs "read", quoteB b] := by
    rw [e2, words_word 0 (bs "read") (List.replicate 1 32 ++ (Q ++ [])) (by decide) 114 [101, 97, 100] (by decide) (by decide) (.inr ⟨Q ++ [], rfl⟩), hQ, words_quote 1 b [] (.inl rfl)]
    exact congrArg (fun x => [bs "read", quoteB b] ++ x) (words_blank 0)
  have hl : linesB ((bs "  word  " ++ (Q ++ [32])) ++ 10 :: (bs "read " ++ Q)) = [bs "  word  " ++ (Q ++ [32]), bs "read " ++ Q] := by
    rw [linesB_one _ _ n1, linesB_last _ n2 (by rw [hQ]; simp [quoteB])]
  rw [e]
  unfold parseB
  rw [hl, if_neg (by
    simp only [List.length_append, List.length_cons, List.length_nil, hQ, show (bs "  word  ").length = 8 by decide, show (bs "read ").length = 5 by decide]
    unfold maxText maxLines
    omega)]
  simp only [saysB, sayB, w1, w2, say_word, say_read]
  rfl
end Go.Proofs.YtpcdbkaeijhmfaaGreatDoor
namespace Go.Proofs.YtpcdbkaeijhmfaaGreatDoor
set_option maxRecDepth 100000
set_option linter.unusedVariables false
set_option linter.unusedSimpArgs false
open Go.RowKit
theorem dig_toNat (u : Nat) (h : u < 10) : (UInt8.ofNat (48 + u)).toNat = 48 + u := by
  simp; omega
theorem dec_sign (u : Nat) : ∀ x ∈ Lib.decDigits u, 48 ≤ x.toNat ∧ x.toNat ≤ 57 := by
  induction u using Nat.strongRecOn with
  | _ u ih =>
    intro x hx
    rw [Lib.decDigits] at hx
    split at hx
    · rename_i h
      rw [List.mem_singleton.1 hx, dig_toNat u h]; omega
    · rename_i h
      rcases List.mem_append.1 hx with hx | hx
      · exact ih (u / 10) (by omega) x hx
      · rw [List.mem_singleton.1 hx, dig_toNat (u % 10) (by omega)]; omega
theorem dec_val (u : Nat) : ∀ r : By, u ≤ 4611686018427387904 → valGo 0 (Lib.decDigits u ++ r) = valGo u r := by
  induction u using Nat.strongRecOn with
  | _ u ih =>
    intro r hb
    rw [Lib.decDigits]
    split
    · rename_i h
      rw [List.singleton_append, valGo, dig_toNat u h, if_pos (by omega), if_pos (by omega)]
      congr 1
      omega
    · rename_i h
      rw [List.append_assoc, ih (u / 10) (by omega) _ (by omega), List.singleton_append, valGo, dig_toNat (u % 10) (by omega), if_pos (by omega), if_pos (by omega)]
      congr 1
      omega
theorem dec_head (u : Nat) (h1 : 1 ≤ u) : ∃ c r, Lib.decDigits u = c :: r ∧ c ≠ 48 := by
  induction u using Nat.strongRecOn with
  | _ u ih =>
    rw [Lib.decDigits]
    split
    · rename_i h
      refine ⟨_, _, rfl, fun e => ?_⟩
      have := congrArg UInt8.toNat e
      rw [dig_toNat u h] at this
      have h48 : (48 : UInt8).toNat = 48 := rfl
      omega
    · rename_i h
      obtain ⟨c, r, e, hc⟩ := ih (u / 10) (by omega) (by omega)
      exact ⟨c, r ++ [UInt8.ofNat (48 + u % 10)], by rw [e]; rfl, hc⟩
theorem dec_zero : Lib.decDigits 0 = [48] := by rw [Lib.decDigits]; rfl
theorem fig_dec (below : Bool) (u : Nat) (h : u ≤ 4611686018427387904) (hb : below = true → 1 ≤ u) : figB below (Lib.decDigits u) = some (if below then -(u : Int) else u) := by
  have hv : valGo 0 (Lib.decDigits u) = some u := by
    have := dec_val u [] h
    rw [List.append_nil] at this
    rw [this]; rfl
  rcases Nat.eq_zero_or_pos u with h0 | h0
  · subst h0
    have : below = false := by
      cases below with
      | false => rfl
      | true => have := hb rfl; omega
    subst this
    rw [dec_zero] at hv ⊢
    unfold figB
    simp only
    rw [if_neg (by simp), hv]
    rfl
  · obtain ⟨c, r, e, hc⟩ := dec_head u h0
    rw [e] at hv ⊢
    unfold figB
    simp only
    rw [if_neg (fun h => hc h.1), hv]
    rfl
theorem num_itoa (n : Int) (h : near n) : numB (itoaB n) = some n := by
  unfold near at h
  unfold itoaB Lib.itoa
  split
  · rename_i hn
    unfold numB
    simp only
    rw [if_pos trivial, fig_dec true n.natAbs (by omega) (fun _ => by omega), if_pos rfl]
    congr 1
    omega
  · rename_i hn
    have hf := fig_dec false n.toNat (by omega) (fun h => by cases h)
    cases hd : Lib.decDigits n.toNat with
    | nil => rw [hd] at hf; cases hf
    | cons c r =>
      have hs := dec_sign n.toNat c (by rw [hd]; simp)
      unfold numB
      simp only
      rw [if_neg (by rintro rfl; have h45 : (45 : UInt8).toNat = 45 := rfl; omega), ← hd, hf, if_neg (by simp)]
      congr 1
      omega
theorem itoa_sign (n : Int) : ∀ x ∈ itoaB n, 45 ≤ x.toNat ∧ x.toNat ≤ 57 := by
  intro x hx
  unfold itoaB Lib.itoa at hx
  split at hx
  · rcases List.mem_cons.1 hx with rfl | hx
    · decide
    · have := dec_sign _ x hx; omega
  · have := dec_sign _ x hx; omega
theorem itoa_cons (n : Int) : ∃ c r, itoaB n = c :: r := by
  unfold itoaB Lib.itoa
  split
  · exact ⟨_, _, rfl⟩
  · rcases Nat.eq_zero_or_pos n.toNat with h | h
    · rw [h, dec_zero]; exact ⟨_, _, rfl⟩
    · obtain ⟨c, r, e, -⟩ := dec_head _ h
      exact ⟨c, r, e⟩
/-- A word that blanks part. -/
def wordy (w : By) : Prop := (∀ x ∈ w, x ≠ 32) ∧ ∃ c r, w = c :: r ∧ c ≠ 34
theorem itoa_wordy (n : Int) : wordy (itoaB n) := by
  obtain ⟨c, r, e⟩ := itoa_cons n
  refine ⟨fun x hx e => ?_, c, r, e, fun h => ?_⟩
  · subst e; have := itoa_sign n 32 hx; revert this; decide
  · subst h; have := itoa_sign n 34 (by rw [e]; simp); revert this; decide
theorem words_join : ∀ (w : By) (ws : List By) (k : Nat), (∀ x ∈ w :: ws, wordy x) → wordsB (List.replicate k 32 ++ Lib.join (w :: ws) [32]) = w :: ws
  | w, [], k, h => by
    obtain ⟨h1, c, r, e, h34⟩ := h w (by simp)
    have hj : Lib.join [w] [32] = w ++ [] := by simp [Lib.join, List.intercalate]
    rw [hj, words_word k w [] h1 c r e h34 (.inl rfl)]
    exact congrArg (fun x => w :: x) (words_blank 0)
  | w, y :: ws, k, h => by
    obtain ⟨h1, c, r, e, h34⟩ := h w (by simp)
    have hj : Lib.join (w :: y :: ws) [32] = w ++ (List.replicate 1 32 ++ Lib.join (y :: ws) [32]) := by simp [Lib.join, List.intercalate]
    rw [hj, words_word k w (List.replicate 1 32 ++ Lib.join (y :: ws) [32]) h1 c r e h34 (.inr ⟨Lib.join (y :: ws) [32], rfl⟩), words_join y ws 1 fun x hx => h x (by simp [hx])]
theorem nums_back : ∀ l : List Int, (∀ x ∈ l, near x) → numsB (l.map itoaB) = some l
  | [], _ => rfl
  | n :: l, h => by
    rw [List.map_cons, numsB, num_itoa n (h n (by simp)), nums_back l fun x hx => h x (by simp [hx])]
    rfl
theorem words_nums (first : By) (l : List Int) (hf : wordy first) : wordsB (joinB first l) = first :: l.map itoaB := by
  have := words_join first (l.map itoaB) 0 fun x hx => by
    rcases List.mem_cons.1 hx with rfl | hx
    · exact hf
    · obtain ⟨n, -, rfl⟩ := List.mem_map.1 hx; exact itoa_wordy n
  exact this
/-- Lines, one behind the other. -/
def runP (s : St) : List By → Option St
  | [] => some s
  | l :: r => (sayB s l).bind fun s' => runP s' r
theorem runP_app : ∀ (a b : List By) (s : St), runP s (a ++ b) = (runP s a).bind fun s' => runP s' b
  | [], _, _ => rfl
  | l :: a, b, s => by
    rw [List.cons_append, runP, runP]
    cases sayB s l with
    | none => rfl
    | some s' => exact runP_app a b s'
theorem saysB_runP : ∀ (ls : List By) (s s' : St) (n : Nat), runP s ls = some s' → saysB s n ls = .inl s'
  | [], s, s', n, h => by cases h; rfl
  | l :: r, s, s', n, h => by
    rw [runP] at h
    rw [saysB]
    cases hs : sayB s l with
    | none => rw [hs] at h; cases h
    | some s1 => rw [hs] at h; exact saysB_runP r s1 s' (n + 1) h
theorem run_words : ∀ (ws : List By) (s : St), runP s (ws.map wordL) = some { s with words := s.words ++ ws }
  | [], s => by simp [runP]
  | b :: ws, s => by
    have hw : wordsB (wordL b) = [bs "word", quoteB b] := by
      have e : wordL b = List.replicate 0 32 ++ (bs "word" ++ (List.replicate 1 32 ++ (quoteB b ++ []))) := by
        unfold wordL
        rw [show bs "word " = bs "word" ++ List.replicate 1 32 by decide]
        simp
      rw [e, words_word 0 (bs "word") (List.replicate 1 32 ++ (quoteB b ++ [])) (by decide) 119 [111, 114, 100] (by decide) (by decide) (.inr ⟨quoteB b ++ [], rfl⟩), words_quote 1 b [] (.inl rfl)]
      exact congrArg (fun x => [bs "word", quoteB b] ++ x) (words_blank 0)
    rw [List.map_cons, runP]
    unfold sayB
    rw [hw, say_word]
    show runP _ (ws.map wordL) = _
    rw [run_words ws]
    simp
theorem run_reads : ∀ (ws : List By) (s : St), runP s (ws.map readL) = some { s with reads := s.reads ++ ws }
  | [], s => by simp [runP]
  | b :: ws, s => by
    have hw : wordsB (readL b) = [bs "read", quoteB b] := by
      have e : readL b = List.replicate 0 32 ++ (bs "read" ++ (List.replicate 1 32 ++ (quoteB b ++ []))) := by
        unfold readL
        rw [show bs "read " = bs "read" ++ List.replicate 1 32 by decide]
        simp
      rw [e, words_word 0 (bs "read") (List.replicate 1 32 ++ (quoteB b ++ [])) (by decide) 114 [101, 97, 100] (by decide) (by decide) (.inr ⟨quoteB b ++ [], rfl⟩), words_quote 1 b [] (.inl rfl)]
      exact congrArg (fun x => [bs "read", quoteB b] ++ x) (words_blank 0)
    rw [List.map_cons, runP]
    unfold sayB
    rw [hw, say_read]
    show runP _ (ws.map readL) = _
    rw [run_reads ws]
    simp
theorem run_fold (s : St) (h : s.fold = false) (f : Bool) : runP s (if f then [bs "fold"] else []) = some { s with fold := f } := by
  cases f with
  | false => cases s; simp only at h; subst h; rfl
  | true =>
    have hw : wordsB (bs "fold") = [bs "fold"] := by rw [wordsF_eq (bs "fold").length _ (Nat.le_refl _)]; decide +kernel
    show (sayB s (bs "fold")).bind _ = _
    unfold sayB
    rw [hw]
    unfold sayW
    simp only
    rw [if_neg (by decide), if_pos trivial, if_pos trivial]
    rfl
theorem run_broken (s : St) (h : s.broken = false) (f : Bool) : runP s (if f then [bs "broken"] else []) = some { s with broken := f } := by
  cases f with
  | false => cases s; simp only at h; subst h; rfl
  | true =>
    have hw : wordsB (bs "broken") = [bs "broken"] := by rw [wordsF_eq (bs "broken").length _ (Nat.le_refl _)]; decide +kernel
    show (sayB s (bs "broken")).bind _ = _
    unfold sayB
    rw [hw]
    unfold sayW
    simp only
    rw [if_neg (by decide), if_neg (by decide), if_pos trivial, if_pos trivial]
    rfl
theorem join_flat (w : By) : ∀ ws : List By, Lib.join (w :: ws) [32] = w ++ ws.flatMap (32 :: ·) := by
  intro ws
  induction ws generalizing w with
  | nil => simp [Lib.join, List.intercalate]
  | cons y ws ih =>
    have hj : Lib.join (w :: y :: ws) [32] = w ++ (32 :: Lib.join (y :: ws) [32]) := by simp [Lib.join, List.intercalate]
    rw [hj, ih y, List.flatMap_cons]
    rfl
def ysB (y : Bool) : By := if y then bs "yes" else bs "no"
theorem answ_join (l : List Bool) : answL l = Lib.join (bs "answers" :: l.map ysB) [32] := by
  rw [join_flat]
  unfold answL
  congr 1
  induction l with
  | nil => rfl
  | cons y l ih =>
    rw [List.map_cons, List.flatMap_cons, List.flatMap_cons, ih]
    cases y <;> rfl
theorem answ_back : ∀ (l : List Bool) (s : St), answB s (l.map ysB) = some { s with answers := s.answers ++ l }
  | [], s => by simp [answB]
  | y :: l, s => by
    rw [List.map_cons, answB]
    cases y with
    | true =>
      rw [if_pos (by rfl), answ_back l]
      simp
    | false =>
      rw [if_neg (by decide), if_pos (by rfl), answ_back l]
      simp
theorem run_answers (s : St) (h : s.answers = []) (l : List Bool) : runP s (if l = [] then [] else [answL l]) = some { s with answers := l } := by
  by_cases h0 : l = []
  · rw [if_pos h0, h0]
    cases s; simp only at h; subst h; rfl
  · rw [if_neg h0]
    have hw : wordsB (answL l) = bs "answers" :: l.map ysB := by
      rw [answ_join]
      exact words_join (bs "answers") (l.map ysB) 0 fun x hx => by
        rcases List.mem_cons.1 hx with rfl | hx
        · exact ⟨by decide, 97, [110, 115, 119, 101, 114, 115], by decide, by decide⟩
        · obtain ⟨y, -, rfl⟩ := List.mem_map.1 hx
          cases y with
          | true => exact ⟨by decide, 121, [101, 115], by decide, by decide⟩
          | false => exact ⟨by decide, 110, [111], by decide, by decide⟩
    rw [runP]
    unfold sayB
    rw [hw]
    have hs : sayW s (bs "answers" :: l.map ysB) = answB s (l.map ysB) := by
      unfold sayW
      simp only
      rw [if_neg (by decide), if_neg (by decide), if_neg (by decide), if_neg (by decide), if_neg (by decide), if_pos trivial, if_neg (by simpa using h0)]
    rw [hs, answ_back, h]
    rfl
theorem say_counts (s : St) (first : By) (l : List Int) (hn : ∀ x ∈ l, near x) (hf : wordy first) (h1 : first.head? ≠ some 35) (h2 : first ≠ bs "fold") (h3 : first ≠ bs "broken") (h4 : first ≠ bs "word") (h5 : first ≠ bs "read") (h6 : first ≠ bs "answers") (h7 : first ≠ bs "plan") :
    sayB s (joinB first l) = countsB s first l := by
  unfold sayB
  rw [words_nums first l hf]
  unfold sayW
  simp only
  rw [if_neg h1, if_neg h2, if_neg h3, if_neg h4, if_neg h5, if_neg h6, if_neg h7, nums_back l hn]
  rfl
theorem run_conf (s : St) (l : List Int) (hl : l.length = 7) (hn : ∀ x ∈ l, near x) : runP s [joinB (bs "conf") l] = some { s with conf := l } := by
  rw [runP, say_counts s (bs "conf") l hn ⟨by decide, 99, [111, 110, 102], by decide, by decide⟩ (by decide) (by decide) (by decide) (by decide) (by decide) (by decide) (by decide)]
  unfold countsB
  rw [if_pos ⟨rfl, hl⟩]
  rfl
theorem run_picks (s : St) (h : s.picks = []) (l : List Int) (hn : ∀ x ∈ l, near x) : runP s (if l = [] then [] else [joinB (bs "pick") l]) = some { s with picks := l } := by
  by_cases h0 : l = []
  · rw [if_pos h0, h0]
    cases s; simp only at h; subst h; rfl
  · rw [if_neg h0, runP, say_counts s (bs "pick") l hn ⟨by decide, 112, [105, 99, 107], by decide, by decide⟩ (by decide) (by decide) (by decide) (by decide) (by decide) (by decide) (by decide)]
    unfold countsB
    rw [if_neg (fun h => absurd h.1 (by decide)), if_pos ⟨rfl, by cases l with | nil => exact absurd rfl h0 | cons a r => simp⟩, h]
    rfl
theorem say_cancel (s : St) (n : Int) (hn : near n) : sayB s (joinB (bs "cancel") [n]) = some { s with cancel := n } := by
  rw [say_counts s (bs "cancel") [n] (fun x hx => by rw [List.mem_singleton.1 hx]; exact hn) ⟨by decide, 99, [97, 110, 99, 101, 108], by decide, by decide⟩ (by decide) (by decide) (by decide) (by decide) (by decide) (by decide) (by decide)]
  unfold countsB
  rw [if_neg (fun h => absurd h.1 (by decide)), if_neg (fun h => absurd h.1 (by decide)), if_pos ⟨rfl, rfl⟩]
  rfl
theorem say_most (s : St) (n : Int) (hn : near n) : sayB s (joinB (bs "most") [n]) = some { s with most := n } := by
  rw [say_counts s (bs "most") [n] (fun x hx => by rw [List.mem_singleton.1 hx]; exact hn) ⟨by decide, 109, [111, 115, 116], by decide, by decide⟩ (by decide) (by decide) (by decide) (by decide) (by decide) (by decide) (by decide)]
  unfold countsB
  rw [if_neg (fun h => absurd h.1 (by decide)), if_neg (fun h => absurd h.1 (by decide)), if_neg (fun h => absurd h.1 (by decide)), if_pos ⟨rfl, rfl⟩]
  rfl
theorem kind_wordy : ∀ k : Nat, k < 5 → (∀ x ∈ kindL.getD k [], x ≠ 32) ∧ (kindL.getD k []).headD 34 ≠ 34 ∧ kindB (kindL.getD k []) = some k := by decide +kernel
theorem say_plan (s : St) (k sd : Nat) (l : Int) (hk : k < 5) (hs : sd ≤ 4294967295) (hl : near l) : sayB s (joinB (bs "plan " ++ kindL.getD k []) [(sd : Int), l]) = some { s with kind := k, seed := sd, last := l } := by
  obtain ⟨k1, k2, k3⟩ := kind_wordy k hk
  have hw : wordsB (joinB (bs "plan " ++ kindL.getD k []) [(sd : Int), l]) = [bs "plan", kindL.getD k [], itoaB sd, itoaB l] := by
    have e : joinB (bs "plan " ++ kindL.getD k []) [(sd : Int), l] = Lib.join [bs "plan", kindL.getD k [], itoaB sd, itoaB l] [32] := by
      unfold joinB
      rw [join_flat, join_flat, show bs "plan " = bs "plan" ++ [32] by decide]
      simp
    rw [e]
    exact words_join (bs "plan") [kindL.getD k [], itoaB sd, itoaB l] 0 fun x hx => by
      simp only [List.mem_cons, List.not_mem_nil, or_false] at hx
      rcases hx with rfl | rfl | rfl | rfl
      · exact ⟨by decide, 112, [108, 97, 110], by decide, by decide⟩
      · refine ⟨k1, ?_⟩
        cases h : kindL.getD k [] with
        | nil => rw [h] at k2; exact absurd rfl k2
        | cons c r => rw [h] at k2; exact ⟨c, r, rfl, k2⟩
      · exact itoa_wordy _
      · exact itoa_wordy _
  unfold sayB
  rw [hw]
  unfold sayW
  simp only
  rw [if_neg (by decide), if_neg (by decide), if_neg (by decide), if_neg (by decide), if_neg (by decide), if_neg (by decide), if_pos trivial]
  unfold planB
  simp only
  rw [k3, num_itoa _ (seed_near hs), num_itoa l hl]
  simp only
  rw [if_pos ⟨by omega, by omega⟩]
  rfl
set_option maxHeartbeats 8000000 in
theorem run_lines (st : St) (hok : Okay st) (hk : st.kind < 5) (hn : (∀ x ∈ st.conf, near x) ∧ (∀ x ∈ st.picks, near x) ∧ near st.last ∧ near st.cancel ∧ near st.most) : runP newSt (linesP st) = some st := by
  obtain ⟨h1, h2, h3, h4, h5⟩ := hn
  have hA : ∀ s : St, s.fold = false → s.words = [] → s.reads = [] → s.broken = false → s.answers = [] → s.picks = [] → runP s (linesP st) = some st := by
    intro s e1 e2 e3 e4 e5 e6
    unfold linesP
    rw [runP_app, runP_app, runP_app, runP_app, runP_app, runP_app, runP_app]
    obtain ⟨a1, a2, a3, a4, a5, a6, a7, a8, a9, a10, a11, a12⟩ := s
    dsimp only at e1 e2 e3 e4 e5 e6
    subst e1 e2 e3 e4 e5 e6
    rw [run_fold _ rfl, Option.bind_some]
    dsimp only
    rw [run_words, Option.bind_some]
    dsimp only
    rw [run_conf _ st.conf hok.conf h1, Option.bind_some]
    dsimp only
    rw [run_reads, Option.bind_some]
    dsimp only
    rw [run_broken _ rfl, Option.bind_some]
    dsimp only
    rw [run_answers _ rfl, Option.bind_some]
    dsimp only
    rw [run_picks _ rfl st.picks h2, Option.bind_some]
    dsimp only
    unfold planL
    rw [runP, say_plan _ st.kind st.seed st.last hk hok.seed h3, Option.bind_some]
    dsimp only
    rw [runP, say_cancel _ st.cancel h4, Option.bind_some]
    dsimp only
    rw [runP, say_most _ st.most h5, Option.bind_some]
    dsimp only
    rw [runP]
    simp only [List.nil_append]
  exact hA newSt rfl rfl rfl rfl rfl rfl
theorem lines_no (st : St) (hk : st.kind < 5) : ∀ l ∈ linesP st, 10 ∉ l := by
  have hj : ∀ (w : By) (ns : List Int), 10 ∉ w → 10 ∉ joinB w ns := by
    intro w ns hw h
    unfold joinB at h
    rw [join_flat] at h
    rcases List.mem_append.1 h with h | h
    · exact hw h
    · obtain ⟨x, hx, h⟩ := List.mem_flatMap.1 h
      obtain ⟨n, -, rfl⟩ := List.mem_map.1 hx
      rcases List.mem_cons.1 h with h | h
      · revert h; decide
      · have := itoa_sign n 10 h; revert this; decide
  intro l hl
  unfold linesP at hl
  simp only [List.mem_append, List.mem_map, List.mem_cons, List.not_mem_nil, or_false] at hl
  rcases hl with ((((((hx | ⟨b, hb, rfl⟩) | rfl) | ⟨b, hb, rfl⟩) | hx) | hx) | hx) | rfl | rfl | rfl
  · split at hx
    · rw [List.mem_singleton.1 hx]; decide
    · cases hx
  · unfold wordL
    simp only [List.mem_append, not_or]
    exact ⟨by decide, quote_no b⟩
  · exact hj _ _ (by decide)
  · unfold readL
    simp only [List.mem_append, not_or]
    exact ⟨by decide, quote_no b⟩
  · split at hx
    · rw [List.mem_singleton.1 hx]; decide
    · cases hx
  · split at hx
    · cases hx
    · rw [List.mem_singleton.1 hx]
      unfold answL
      simp only [List.mem_append, not_or]
      refine ⟨by decide, fun h => ?_⟩
      obtain ⟨y, -, h⟩ := List.mem_flatMap.1 h
      revert h
      cases y <;> decide
  · split at hx
    · cases hx
    · rw [List.mem_singleton.1 hx]; exact hj _ _ (by decide)
  · refine hj _ _ ?_
    have key : ∀ k : Nat, k < 5 → 10 ∉ bs "plan " ++ kindL.getD k [] := by decide +kernel
    exact key _ hk
  · exact hj _ _ (by decide)
  · exact hj _ _ (by decide)
theorem lines_text : ∀ ls : List By, (∀ l ∈ ls, 10 ∉ l) → linesB (ls.flatMap (· ++ [10])) = ls
  | [], _ => rfl
  | l :: ls, h => by
    rw [List.flatMap_cons, List.append_assoc, List.singleton_append, linesB_one l _ (h l (by simp)), lines_text ls fun x hx => h x (by simp [hx])]
/-- What is printed is parsed to the same. -/
theorem parse_print (st : St) (hok : Okay st) (t : By) (h : printB st = some t) : parseB t = .ok st ∧ t.length ≤ 65536 := by
  unfold printB at h
  split at h
  · cases h
  · rename_i hb
    split at h
    · cases h
    · rename_i hg
      injection h with h
      subst h
      have hb : badP st = false := by simpa using hb
      have hkd : st.kind < 5 := by
        rw [badP, Bool.or_eq_false_iff, Bool.or_eq_false_iff, Bool.or_eq_false_iff] at hb
        have := of_decide_eq_false hb.1.1.1
        omega
      have hnear : (∀ x ∈ st.conf, near x) ∧ (∀ x ∈ st.picks, near x) ∧ near st.last ∧ near st.cancel ∧ near st.most := by
        rw [badP, Bool.or_eq_false_iff, Bool.or_eq_false_iff, Bool.or_eq_false_iff] at hb
        obtain ⟨⟨⟨-, h1⟩, h2⟩, h3⟩ := hb
        have hfar : ∀ l : List Int, l.any farB = false → ∀ x ∈ l, near x := fun l hl x hx => by
          have := List.any_eq_false.1 hl x hx
          unfold farB at this
          unfold near
          simp at this
          omega
        exact ⟨hfar _ h1, hfar _ h2, hfar _ h3 _ (by simp), hfar _ h3 _ (by simp), hfar _ h3 _ (by simp)⟩
      have hgr : ¬ ((textP st).length > maxText ∨ (linesB (textP st)).length > maxLines) := fun h => hg (by unfold greatB; exact decide_eq_true h)
      refine ⟨?_, ?_⟩
      · unfold parseB
        rw [if_neg hgr]
        unfold textP
        rw [lines_text _ (lines_no st hkd), saysB_runP _ newSt st 1 (run_lines st hok hkd hnear)]
      · have : maxText = 65536 := rfl
        have h1 : ¬ (textP st).length > maxText := fun h => hgr (.inl h)
        omega
end Go.Proofs.YtpcdbkaeijhmfaaGreatDoor
namespace Go.Proofs.YtpcdbkaeijhmfaaGreatDoor
set_option maxRecDepth 100000
set_option linter.unusedVariables false
set_option linter.unusedSimpArgs false
open Go.RowKit
attribute [local go_sem] Oper.semAt_some
theorem joinB_step (first : By) (ns : List Int) (k : Nat) (hk : k < ns.length) : joinB first (ns.take (k + 1)) = joinB first (ns.take k) ++ [32] ++ itoaB ns[k] := by
  have e : ns.take (k + 1) = ns.take k ++ [ns[k]] := by rw [List.take_add_one, List.getElem?_eq_getElem hk]; rfl
  unfold joinB
  rw [e, List.map_append, join_flat, join_flat, List.flatMap_append]
  simp
theorem joinB_zero (first : By) (ns : List Int) : joinB first (ns.take 0) = first := by
  unfold joinB
  rw [join_flat]
  simp
theorem joinB_all (first : By) (ns : List Int) : joinB first (ns.take ns.length) = joinB first ns := by rw [List.take_length]
theorem joinB_bound (first : By) (ns : List Int) (hn : ∀ x ∈ ns, near x) : ∀ k, k ≤ ns.length → (joinB first (ns.take k)).length ≤ first.length + 22 * k
  | 0, _ => by rw [joinB_zero]; omega
  | k + 1, h => by
    have h1 := joinB_bound first ns hn k (by omega)
    rw [joinB_step first ns k (by omega), List.length_append, List.length_append]
    have hx := hn ns[k] (List.getElem_mem _)
    unfold near at hx
    have h2 := Lib.itoa_length_le ns[k] (by omega) (by omega)
    have h3 : (itoaB ns[k]).length ≤ 21 := h2
    simp
    omega
set_option maxHeartbeats 1600000 in
theorem rowR_any (first : By) (K : Nat → Prop) (A : Option Addr) (n c : Nat) (ns : List Int) (w : World) (h : IAt w K A n c ns) (hn : ∀ x ∈ ns, near x) (hf : first.length ≤ 100000) (hl : ns.length ≤ 100000) :
    Calls Tryz.prog 31 #[.string (ba first), .slice A n c] w fun e w' => e = .returned (.string (ba (joinB first ns ++ [10]))) ∧ w' = w := by
  obtain ⟨hn0, hnc, hcm⟩ := h.len
  have H := Lib.hid (And.intro h (And.intro hn (And.intro hn0 hf)))
  have hn9 : n ≤ 100000 := by omega
  have HB := Lib.hid (fun k (hk : k ≤ n) => Nat.le_trans (joinB_bound first ns hn k (by omega)) (by omega : first.length + 22 * k ≤ 3000000))
  clear h hn hn0 hf hl
  go_enter Tryz.func31, Tryz.ntmps31
  go_wp2_with fail
  go_loopw [0, 5] (fun t i wr => ∃ k : Nat, k ≤ n ∧ i = .int .i64 k ∧ t = .string (ba (joinB first (ns.take k))) ∧ wr = w) (fun _ i _ => n - (intOf i).toNat)
  case atStart => exact ⟨0, Nat.zero_le _, rfl, by rw [joinB_zero], rfl⟩
  case round =>
    obtain ⟨k, hk, rfl, rfl, hwr⟩ := hrel
    obtain rfl := hwr.symm
    by_cases hlt : k < n
    · obtain ⟨g, o, rfl, hg, hcell⟩ := H.out.1.at_ (by omega)
      have hkl : k < ns.length := by rw [← H.out.2.2.1]; exact hlt
      have hc := hcell k hkl
      have hx := H.out.2.1 ns[k] (List.getElem_mem hkl)
      have hst := joinB_step first ns k hkl
      have hb := HB.out k hk
      have hb1 := HB.out (k + 1) (by omega)
      unfold near at hx
      have hd := digitsI_any ns[k] (by omega) (by omega) w
      obtain ⟨m, hm⟩ : ∃ m, m = ns[k] := ⟨_, rfl⟩
      rw [← hm] at hc hd hst
      obtain ⟨Y, hY⟩ : ∃ Y, Y = joinB first (ns.take k) := ⟨_, rfl⟩
      rw [← hY] at hst hb ⊢
      obtain ⟨R, hR⟩ : ∃ R, R = itoaB m := ⟨_, rfl⟩
      rw [← hR] at hst hd
      have hl2 : Y.length + 1 + R.length ≤ 3000000 := by rw [hst] at hb1; simp at hb1; omega
      have HS := Lib.hid hst
      have n1 : ¬ (9223372036854775807 < (ba Y).size + 1) := by rw [ba_size]; omega
      have c1 : ba Y ++ ({ data := #[32] } : ByteArray) = ba (Y ++ [32]) := ba_app Y [32]
      have n2 : ¬ (9223372036854775807 < (ba (Y ++ [32])).size + (ba R).size) := by rw [ba_size, ba_size]; simp; omega
      have c2 : ba (Y ++ [32]) ++ ba R = ba (Y ++ [32] ++ R) := ba_app _ _
      have hk0 : (0 : Int) ≤ k := by omega
      generalize ba (Y ++ [32]) = S1 at *
      clear hst hb hb1 hl2 hx hm hY hR hcell hg
      go_wp2_with fail
      refine hd.mono ?_
      rintro e w1 ⟨rfl, hw⟩
      obtain rfl := hw.symm
      clear hd
      go_wp2_with fail
      go_roundw
      case rel => exact ⟨k + 1, by omega, by go_num, by rw [HS.out]; simp, by first | rfl | trivial⟩
      case measure => simp [intOf]; omega
    · obtain rfl : n = k := by omega
      have hb := HB.out n (Nat.le_refl _)
      obtain ⟨Y, hY⟩ : ∃ Y, Y = joinB first (ns.take n) := ⟨_, rfl⟩
      rw [← hY] at hb ⊢
      have HY := Lib.hid (show Y = joinB first ns by rw [hY, H.out.2.2.1, joinB_all])
      have n1 : ¬ (9223372036854775807 < (ba Y).size + 1) := by rw [ba_size]; omega
      have c1 : ba Y ++ ({ data := #[10] } : ByteArray) = ba (Y ++ [10]) := ba_app Y [10]
      clear hb hY
      go_wp2_with fail
      go_ret
      exact ⟨by rw [← HY.out]; rfl, rfl⟩
end Go.Proofs.YtpcdbkaeijhmfaaGreatDoor
