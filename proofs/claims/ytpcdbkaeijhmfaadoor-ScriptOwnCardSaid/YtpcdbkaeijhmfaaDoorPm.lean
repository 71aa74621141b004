/- Scripts: the plain model: lines, words, numbers, texts, what a line says. -/
import Derived.Test.YtpcdbkaeijhmfaaDoorLib
namespace Go.Proofs.YtpcdbkaeijhmfaaDoor
set_option maxRecDepth 100000
set_option linter.unusedVariables false
set_option linter.unusedSimpArgs false
abbrev By := List UInt8
/-- Lines, from what came of the one that is begun. -/
def linesGo : By → By → List By
  | cur, [] => if cur = [] then [] else [cur]
  | cur, c :: r => if c = 10 then cur :: linesGo [] r else linesGo (cur ++ [c]) r
def linesB (t : By) : List By := linesGo [] t
/-- How far the program's word goes that begins here. -/
def endB : By → Nat
  | [] => 0
  | c :: r =>
    let s := if c = 34 then (match r.idxOf? 34 with | some k => k + 2 | none => 0) else 0
    s + (((c :: r).drop s).takeWhile (· != 32)).length
def wordsB (l : By) : List By :=
  match h : l.dropWhile (· == 32) with
  | [] => []
  | c :: r => (c :: r).take (max 1 (endB (c :: r))) :: wordsB ((c :: r).drop (max 1 (endB (c :: r))))
termination_by l.length
decreasing_by
  have h1 : (l.dropWhile (· == 32)).length ≤ l.length := (List.dropWhile_sublist _).length_le
  rw [h] at h1
  simp only [List.length_drop]
  have : (c :: r).length = r.length + 1 := rfl
  omega
/-- How far the document's word goes. -/
def endR : Bool → By → Nat
  | _, [] => 0
  | i, c :: r => if i || c != 32 then endR (if c == 34 then !i else i) r + 1 else 0
def wordsR (l : By) : List By :=
  match h : l.dropWhile (· == 32) with
  | [] => []
  | c :: r => (c :: r).take (max 1 (endR false (c :: r))) :: wordsR ((c :: r).drop (max 1 (endR false (c :: r))))
termination_by l.length
decreasing_by
  have h1 : (l.dropWhile (· == 32)).length ≤ l.length := (List.dropWhile_sublist _).length_le
  rw [h] at h1
  simp only [List.length_drop]
  have : (c :: r).length = r.length + 1 := rfl
  omega
/-- The number that figures are; none: one is no figure, or it is too great. -/
def valGo : Nat → By → Option Nat
  | n, [] => some n
  | n, c :: r => if 48 ≤ c.toNat ∧ c.toNat ≤ 57 then (if 10 * n + (c.toNat - 48) ≤ 4611686018427387904 then valGo (10 * n + (c.toNat - 48)) r else none) else none
def figB (below : Bool) (f : By) : Option Int :=
  match f with
  | [] => none
  | c :: r => if c = 48 ∧ (below = true ∨ r ≠ []) then none else (valGo 0 (c :: r)).map fun n => if below then -(n : Int) else n
def numB (w : By) : Option Int :=
  match w with
  | [] => none
  | c :: r => if c = 45 then figB true r else figB false (c :: r)
def numsB : List By → Option (List Int)
  | [] => some []
  | w :: r => match numB w with | none => none | some n => (numsB r).map (n :: ·)
def plainB (c : UInt8) : Bool := decide (32 ≤ c.toNat ∧ c.toNat ≤ 126 ∧ c.toNat ≠ 34 ∧ c.toNat ≠ 92)
def hexB (c : UInt8) : Option Nat := if 48 ≤ c.toNat ∧ c.toNat ≤ 57 then some (c.toNat - 48) else if 97 ≤ c.toNat ∧ c.toNat ≤ 102 then some (c.toNat - 87) else none
def unqB : By → Option By
  | [] => some []
  | 92 :: a :: b :: r => match hexB a, hexB b with | some h, some l => (unqB r).map (UInt8.ofNat (16 * h + l) :: ·) | _, _ => none
  | c :: r => if plainB c = true then (unqB r).map (c :: ·) else none
def txtB (w : By) : Option By :=
  match w with
  | [] => none
  | c :: r => if c = 34 ∧ r.getLast? = some 34 then unqB r.dropLast else none
def hexD (n : Nat) : UInt8 := if n < 10 then UInt8.ofNat (48 + n) else UInt8.ofNat (87 + n)
def quote1 (c : UInt8) : By := if plainB c = true then [c] else [92, hexD (c.toNat / 16), hexD (c.toNat % 16)]
def quoteB (b : By) : By := 34 :: (b.flatMap quote1 ++ [34])
/-- A story. -/
structure St where
  fold : Bool
  words : List By
  conf : List Int
  broken : Bool
  reads : List By
  answers : List Bool
  picks : List Int
  kind : Nat
  seed : Nat
  last : Int
  cancel : Int
  most : Int
deriving DecidableEq
def zeroSt : St := ⟨false, [], [0, 0, 0, 0, 0, 0, 0], false, [], [], [], 0, 0, 0, 0, 0⟩
def newSt : St := { zeroSt with cancel := -1 }
def bs (s : String) : By := s.toUTF8.data.toList
def kindB (w : By) : Option Nat := if w = bs "none" then some 0 else if w = bs "first" then some 1 else if w = bs "last" then some 2 else if w = bs "round" then some 3 else if w = bs "seed" then some 4 else none
def answB (s : St) : List By → Option St
  | [] => some s
  | w :: r => if w = bs "yes" then answB { s with answers := s.answers ++ [true] } r else if w = bs "no" then answB { s with answers := s.answers ++ [false] } r else none
def planB (s : St) (l : List By) : Option St :=
  match l with
  | [k, a, b] => match kindB k, numB a, numB b with
    | some k, some n, some m => if 0 ≤ n ∧ n ≤ 4294967295 then some { s with kind := k, seed := n.toNat, last := m } else none
    | _, _, _ => none
  | _ => none
def countsB (s : St) (first : By) (n : List Int) : Option St :=
  if first = bs "conf" ∧ n.length = 7 then some { s with conf := n }
  else if first = bs "pick" ∧ 0 < n.length then some { s with picks := s.picks ++ n }
  else if first = bs "cancel" ∧ n.length = 1 then some { s with cancel := n.headD 0 }
  else if first = bs "most" ∧ n.length = 1 then some { s with most := n.headD 0 }
  else none
def wordB (s : St) (l : List By) : Option St := match l with | [w] => (txtB w).map fun b => { s with words := s.words ++ [b] } | _ => none
def readB (s : St) (l : List By) : Option St := match l with | [w] => (txtB w).map fun b => { s with reads := s.reads ++ [b] } | _ => none
/-- What a line of words says. -/
def sayW (s : St) (l : List By) : Option St :=
  match l with
  | [] => some s
  | w :: r =>
    if w.head? = some 35 then some s
    else if w = bs "fold" then (if r = [] then some { s with fold := true } else none)
    else if w = bs "broken" then (if r = [] then some { s with broken := true } else none)
    else if w = bs "word" then wordB s r
    else if w = bs "read" then readB s r
    else if w = bs "answers" then (if r = [] then none else answB s r)
    else if w = bs "plan" then planB s r
    else (numsB r).bind (countsB s w)
def sayB (s : St) (line : By) : Option St := sayW s (wordsB line)
/-- The lines, one behind the other; none: the number of the one that says nothing. -/
def saysB (s : St) (n : Nat) : List By → St ⊕ Nat
  | [] => .inl s
  | l :: r => match sayB s l with | none => .inr n | some s' => saysB s' (n + 1) r
def maxText : Nat := 65536
def maxLines : Nat := 1000
inductive Res where
  | ok (s : St)
  | line (n : Nat)
  | great
deriving DecidableEq
def parseB (t : By) : Res :=
  if t.length > maxText ∨ (linesB t).length > maxLines then .great
  else match saysB newSt 1 (linesB t) with | .inl s => .ok s | .inr n => .line n
end Go.Proofs.YtpcdbkaeijhmfaaDoor
