/- script: what is quoted comes back; plain. -/
import Derived.Test.YtpcdbkaeijhmfaaDoorPf
namespace Go.Proofs.YtpcdbkaeijhmfaaDoor
set_option maxRecDepth 100000
set_option linter.unusedVariables false
set_option linter.unusedSimpArgs false
theorem hexD_back : ∀ n : Nat, n < 16 → hexB (hexD n) = some n := by decide +kernel
theorem quote1_unq (c : UInt8) (r : By) : unqB (quote1 c ++ r) = (unqB r).map (c :: ·) := by
  unfold quote1
  by_cases hp : plainB c = true
  · rw [if_pos hp]
    have h92 : c ≠ 92 := by rintro rfl; revert hp; decide
    show unqB (c :: r) = _
    rw [unqB]
    · rw [if_pos hp]
    · intro a b r' e; exact absurd e h92
  · rw [if_neg hp]
    have hc : c.toNat < 256 := c.toNat_lt
    show unqB (92 :: hexD (c.toNat / 16) :: hexD (c.toNat % 16) :: r) = _
    rw [unqB, hexD_back _ (by omega), hexD_back _ (by omega)]
    have e : UInt8.ofNat (16 * (c.toNat / 16) + c.toNat % 16) = c := by
      rw [Nat.div_add_mod]
      exact UInt8.toNat_inj.1 (by simp)
    simp only [e]
theorem unq_quote (b : By) : unqB (b.flatMap quote1) = some b := by
  induction b with
  | nil => rfl
  | cons c r ih => rw [List.flatMap_cons, quote1_unq, ih]; rfl
theorem txt_quote (b : By) : txtB (quoteB b) = some b := by
  unfold quoteB txtB
  simp only
  rw [if_pos ⟨trivial, by simp⟩, List.dropLast_concat, unq_quote]
theorem hexD_sign : ∀ n : Nat, n < 16 → 48 ≤ (hexD n).toNat ∧ (hexD n).toNat ≤ 102 := by decide +kernel
/-- What stands between the marks: signs, and no mark. -/
theorem quote1_sign (c : UInt8) : ∀ x ∈ quote1 c, 32 ≤ x.toNat ∧ x.toNat ≤ 126 ∧ x ≠ 34 := by
  intro x hx
  unfold quote1 at hx
  split at hx
  · rename_i hp
    rw [List.mem_singleton.1 hx]
    have := of_decide_eq_true hp
    exact ⟨this.1, this.2.1, fun e => this.2.2.1 (by rw [e]; rfl)⟩
  · have hc : c.toNat < 256 := c.toNat_lt
    have key : ∀ n : Nat, n < 16 → 32 ≤ (hexD n).toNat ∧ (hexD n).toNat ≤ 126 ∧ hexD n ≠ 34 := by decide +kernel
    simp only [List.mem_cons, List.not_mem_nil, or_false] at hx
    rcases hx with rfl | rfl | rfl
    · decide
    · exact key _ (by omega)
    · exact key _ (by omega)
theorem body_sign (b : By) : ∀ x ∈ b.flatMap quote1, 32 ≤ x.toNat ∧ x.toNat ≤ 126 ∧ x ≠ 34 := by
  intro x hx
  obtain ⟨c, _, hc⟩ := List.mem_flatMap.1 hx
  exact quote1_sign c x hc
theorem quote_sign (b : By) : ∀ x ∈ quoteB b, 32 ≤ x.toNat ∧ x.toNat ≤ 126 := by
  intro x hx
  unfold quoteB at hx
  simp only [List.mem_cons, List.mem_append, List.not_mem_nil, or_false] at hx
  rcases hx with rfl | hx | rfl
  · decide
  · exact ⟨(body_sign b x hx).1, (body_sign b x hx).2.1⟩
  · decide
theorem quote_no (b : By) : 10 ∉ quoteB b := fun h => by have := quote_sign b 10 h; revert this; decide
theorem body_len (b : By) : b.length ≤ (b.flatMap quote1).length := by
  induction b with
  | nil => simp
  | cons c r ih =>
    rw [List.flatMap_cons, List.length_append, List.length_cons]
    have : 1 ≤ (quote1 c).length := by unfold quote1; split <;> simp
    omega
/-- Where the quoted word ends. -/
theorem idx_body : ∀ (l rest : By), (∀ x ∈ l, x ≠ 34) → (l ++ 34 :: rest).idxOf? 34 = some l.length
  | [], rest, _ => by simp [List.idxOf?, List.findIdx?_cons]
  | c :: l, rest, h => by
    have h1 := idx_body l rest fun x hx => h x (by simp [hx])
    have hc : (c == 34) = false := by simpa using h c (by simp)
    simp only [List.idxOf?] at h1 ⊢
    rw [List.cons_append, List.findIdx?_cons, hc]
    simp [h1]
theorem end_quote (b rest : By) (h : rest = [] ∨ ∃ r, rest = 32 :: r) : endB (quoteB b ++ rest) = (quoteB b).length := by
  have e : quoteB b ++ rest = 34 :: (b.flatMap quote1 ++ 34 :: rest) := by simp [quoteB]
  have hl : (quoteB b).length = (b.flatMap quote1).length + 2 := by simp [quoteB]
  rw [e, endB_eq]
  unfold begB
  rw [if_pos rfl, idx_body _ _ fun x hx => (body_sign b x hx).2.2]
  simp only
  have hd : (34 :: (b.flatMap quote1 ++ 34 :: rest)).drop ((b.flatMap quote1).length + 2) = rest := by
    rw [← e, ← hl, List.drop_left]
  rw [hd, hl]
  rcases h with rfl | ⟨r, rfl⟩
  · rfl
  · simp
/-- A line that is a quoted word behind blanks. -/
theorem words_quote (k : Nat) (b rest : By) (h : rest = [] ∨ ∃ r, rest = 32 :: r) : wordsB (List.replicate k 32 ++ (quoteB b ++ rest)) = quoteB b :: wordsB rest := by
  have hd : (List.replicate k (32 : UInt8) ++ (quoteB b ++ rest)).dropWhile (· == 32) = quoteB b ++ rest := by
    induction k with
    | zero => simp [quoteB]
    | succ k ih => rw [List.replicate_succ, List.cons_append, List.dropWhile_cons]; simpa using ih
  have e : quoteB b ++ rest = 34 :: (b.flatMap quote1 ++ 34 :: rest) := by simp [quoteB]
  have hh := hd.trans e
  rw [wordsB_cons hh, ← e, end_quote b rest h, Nat.max_eq_right (by simp [quoteB]), List.take_left, List.drop_left]
/-- A plain word: no blank, no mark at its head. -/
theorem end_word (w rest : By) (hw : ∀ x ∈ w, x ≠ 32) (c : UInt8) (r : By) (hc : w = c :: r) (h34 : c ≠ 34) (h : rest = [] ∨ ∃ r, rest = 32 :: r) : endB (w ++ rest) = w.length := by
  subst hc
  rw [List.cons_append, endB_eq]
  unfold begB
  rw [if_neg h34, List.drop_zero, Nat.zero_add, ← List.cons_append]
  have key : ∀ l : By, (∀ x ∈ l, x ≠ 32) → ((l ++ rest).takeWhile (· != 32)) = l := by
    intro l
    induction l with
    | nil =>
      intro _
      rcases h with rfl | ⟨r, rfl⟩ <;> simp
    | cons a l ih =>
      intro hl
      have ha : (a != 32) = true := by simpa using hl a (by simp)
      rw [List.cons_append, List.takeWhile_cons, if_pos ha, ih fun x hx => hl x (by simp [hx])]
  rw [key _ hw]
theorem words_word (k : Nat) (w rest : By) (hw : ∀ x ∈ w, x ≠ 32) (c : UInt8) (r : By) (hc : w = c :: r) (h34 : c ≠ 34) (h : rest = [] ∨ ∃ r, rest = 32 :: r) : wordsB (List.replicate k 32 ++ (w ++ rest)) = w :: wordsB rest := by
  have hc32 : c ≠ 32 := hw c (by simp [hc])
  have hd : (List.replicate k (32 : UInt8) ++ (w ++ rest)).dropWhile (· == 32) = w ++ rest := by
    induction k with
    | zero => rw [hc]; simp [hc32]
    | succ k ih => rw [List.replicate_succ, List.cons_append, List.dropWhile_cons]; simpa using ih
  have e : w ++ rest = c :: (r ++ rest) := by rw [hc]; rfl
  have hh := hd.trans e
  rw [wordsB_cons hh, ← e, end_word w rest hw c r hc h34 h, Nat.max_eq_right (by rw [hc]; simp), List.take_left, List.drop_left]
theorem words_blank (k : Nat) : wordsB (List.replicate k 32) = [] := wordsB_nil (by
  induction k with
  | zero => rfl
  | succ k ih => rw [List.replicate_succ, List.dropWhile_cons]; simp)
/-- Lines: what has no LF is one. -/
theorem linesGo_app (l : By) : ∀ (cur rest : By), 10 ∉ l → linesGo cur (l ++ 10 :: rest) = (cur ++ l) :: linesGo [] rest := by
  induction l with
  | nil => intro cur rest _; simp [linesGo]
  | cons c l ih =>
    intro cur rest h
    have hc : c ≠ 10 := fun e => h (by simp [e])
    rw [List.cons_append, linesGo, if_neg hc, ih _ _ fun hh => h (by simp [hh])]
    simp
theorem linesGo_last (l : By) : ∀ (cur : By), 10 ∉ l → linesGo cur l = if cur ++ l = [] then [] else [cur ++ l] := by
  induction l with
  | nil => intro cur _; simp [linesGo]
  | cons c l ih =>
    intro cur h
    have hc : c ≠ 10 := fun e => h (by simp [e])
    rw [linesGo, if_neg hc, ih _ fun hh => h (by simp [hh])]
    simp
theorem linesB_one (l rest : By) (h : 10 ∉ l) : linesB (l ++ 10 :: rest) = l :: linesB rest := by
  have := linesGo_app l [] rest h
  simpa [linesB] using this
theorem linesB_last (l : By) (h : 10 ∉ l) (hne : l ≠ []) : linesB l = [l] := by
  have := linesGo_last l [] h
  rw [List.nil_append, if_neg hne] at this
  exact this
theorem quote_len3 (b : By) : (quoteB b).length ≤ 3 * b.length + 2 := by
  have h2 := quoteGo_len b
  rw [quoteB_eq, List.length_append, List.length_singleton]; omega
def textS (b : By) : St := { newSt with words := [b], reads := [b] }
theorem say_word (s : St) (b : By) : sayW s [bs "word", quoteB b] = some { s with words := s.words ++ [b] } := by
  have h : sayW s [bs "word", quoteB b] = wordB s [quoteB b] := by
    unfold sayW
    simp only
    rw [if_neg (by decide), if_neg (by decide), if_neg (by decide), if_pos trivial]
  rw [h]
  unfold wordB
  simp only
  rw [txt_quote]; rfl
theorem say_read (s : St) (b : By) : sayW s [bs "read", quoteB b] = some { s with reads := s.reads ++ [b] } := by
  have h : sayW s [bs "read", quoteB b] = readB s [quoteB b] := by
    unfold sayW
    simp only
    rw [if_neg (by decide), if_neg (by decide), if_neg (by decide), if_neg (by decide), if_pos trivial]
  rw [h]
  unfold readB
  simp only
  rw [txt_quote]; rfl
theorem parse_text (b : By) (h : b.length ≤ 300) : parseB ([bs "  word  ", quoteB b, bs " \nread " ++ quoteB b] : List By).flatten = .ok (textS b) := by
  have hq := quote_len3 b
  have hn := quote_no b
  obtain ⟨Q, hQ⟩ : ∃ Q, Q = quoteB b := ⟨_, rfl⟩
  have e : ([bs "  word  ", quoteB b, bs " \nread " ++ quoteB b] : List By).flatten = (bs "  word  " ++ (Q ++ [32])) ++ 10 :: (bs "read " ++ Q) := by
    rw [← hQ, show bs " \nread " = [32] ++ 10 :: bs "read " by decide]
    simp
  have e1 : bs "  word  " ++ (Q ++ [32]) = List.replicate 2 32 ++ (bs "word" ++ (List.replicate 2 32 ++ (Q ++ [32]))) := by
    rw [show bs "  word  " = List.replicate 2 32 ++ (bs "word" ++ List.replicate 2 32) by decide]
    simp
  have e2 : bs "read " ++ Q = List.replicate 0 32 ++ (bs "read" ++ (List.replicate 1 32 ++ (Q ++ []))) := by
    rw [show bs "read " = bs "read" ++ List.replicate 1 32 by decide]
    simp
  have n1 : 10 ∉ bs "  word  " ++ (Q ++ [32]) := by
    rw [hQ]
    simp only [List.mem_append, not_or]
    exact ⟨by decide, hn, by decide⟩
  have n2 : 10 ∉ bs "read " ++ Q := by
    rw [hQ]
    simp only [List.mem_append, not_or]
    exact ⟨by decide, hn⟩
  have w1 : wordsB (bs "  word  " ++ (Q ++ [32])) = [bs "word", quoteB b] := by
    rw [e1, words_word 2 (bs "word") (List.replicate 2 32 ++ (Q ++ [32])) (by decide) 119 [111, 114, 100] (by decide) (by decide) (.inr ⟨List.replicate 1 32 ++ (Q ++ [32]), rfl⟩), hQ, words_quote 2 b [32] (.inr ⟨[], rfl⟩)]
    exact congrArg (fun x => [bs "word", quoteB b] ++ x) (words_blank 1)
  have w2 : wordsB (bs "read " ++ Q) = [bs "read", quoteB b] := by
    rw [e2, words_word 0 (bs "read") (List.replicate 1 32 ++ (Q ++ [])) (by decide) 114 [101, 97, 100] (by decide) (by decide) (.inr ⟨Q ++ [], rfl⟩), hQ, words_quote 1 b [] (.inl rfl)]
    exact congrArg (fun x => [bs "read", quoteB b] ++ x) (words_blank 0)
  have hl : linesB ((bs "  word  " ++ (Q ++ [32])) ++ 10 :: (bs "read " ++ Q)) = [bs "  word  " ++ (Q ++ [32]), bs "read " ++ Q] := by
    rw [linesB_one _ _ n1, linesB_last _ n2 (by rw [hQ]; simp [quoteB])]
  rw [e]
  unfold parseB
  rw [hl, if_neg (by
    simp only [List.length_append, List.length_cons, List.length_nil, hQ, show (bs "  word  ").length = 8 by decide, show (bs "read ").length = 5 by decide]
    unfold maxText maxLines
    omega)]
  simp only [saysB, sayB, w1, w2, say_word, say_read]
  rfl
end Go.Proofs.YtpcdbkaeijhmfaaDoor
