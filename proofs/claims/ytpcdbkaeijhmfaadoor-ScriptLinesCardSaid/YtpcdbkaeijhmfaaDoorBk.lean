/- script: what is printed is parsed to the same story; plain. -/
import Derived.Test.YtpcdbkaeijhmfaaDoorPq
namespace Go.Proofs.YtpcdbkaeijhmfaaDoor
set_option maxRecDepth 100000
set_option linter.unusedVariables false
set_option linter.unusedSimpArgs false
open Go.RowKit
theorem dig_toNat (u : Nat) (h : u < 10) : (UInt8.ofNat (48 + u)).toNat = 48 + u := by
  simp; omega
theorem dec_sign (u : Nat) : ∀ x ∈ Lib.decDigits u, 48 ≤ x.toNat ∧ x.toNat ≤ 57 := by
  induction u using Nat.strongRecOn with
  | _ u ih =>
    intro x hx
    rw [Lib.decDigits] at hx
    split at hx
    · rename_i h
      rw [List.mem_singleton.1 hx, dig_toNat u h]; omega
    · rename_i h
      rcases List.mem_append.1 hx with hx | hx
      · exact ih (u / 10) (by omega) x hx
      · rw [List.mem_singleton.1 hx, dig_toNat (u % 10) (by omega)]; omega
theorem dec_val (u : Nat) : ∀ r : By, u ≤ 4611686018427387904 → valGo 0 (Lib.decDigits u ++ r) = valGo u r := by
  induction u using Nat.strongRecOn with
  | _ u ih =>
    intro r hb
    rw [Lib.decDigits]
    split
    · rename_i h
      rw [List.singleton_append, valGo, dig_toNat u h, if_pos (by omega), if_pos (by omega)]
      congr 1
      omega
    · rename_i h
      rw [List.append_assoc, ih (u / 10) (by omega) _ (by omega), List.singleton_append, valGo, dig_toNat (u % 10) (by omega), if_pos (by omega), if_pos (by omega)]
      congr 1
      omega
theorem dec_head (u : Nat) (h1 : 1 ≤ u) : ∃ c r, Lib.decDigits u = c :: r ∧ c ≠ 48 := by
  induction u using Nat.strongRecOn with
  | _ u ih =>
    rw [Lib.decDigits]
    split
    · rename_i h
      refine ⟨_, _, rfl, fun e => ?_⟩
      have := congrArg UInt8.toNat e
      rw [dig_toNat u h] at this
      have h48 : (48 : UInt8).toNat = 48 := rfl
      omega
    · rename_i h
      obtain ⟨c, r, e, hc⟩ := ih (u / 10) (by omega) (by omega)
      exact ⟨c, r ++ [UInt8.ofNat (48 + u % 10)], by rw [e]; rfl, hc⟩
theorem dec_zero : Lib.decDigits 0 = [48] := by rw [Lib.decDigits]; rfl
theorem fig_dec (below : Bool) (u : Nat) (h : u ≤ 4611686018427387904) (hb : below = true → 1 ≤ u) : figB below (Lib.decDigits u) = some (if below then -(u : Int) else u) := by
  have hv : valGo 0 (Lib.decDigits u) = some u := by
    have := dec_val u [] h
    rw [List.append_nil] at this
    rw [this]; rfl
  rcases Nat.eq_zero_or_pos u with h0 | h0
  · subst h0
    have : below = false := by
      cases below with
      | false => rfl
      | true => have := hb rfl; omega
    subst this
    rw [dec_zero] at hv ⊢
    unfold figB
    simp only
    rw [if_neg (by simp), hv]
    rfl
  · obtain ⟨c, r, e, hc⟩ := dec_head u h0
    rw [e] at hv ⊢
    unfold figB
    simp only
    rw [if_neg (fun h => hc h.1), hv]
    rfl
theorem num_itoa (n : Int) (h : near n) : numB (itoaB n) = some n := by
  unfold near at h
  unfold itoaB Lib.itoa
  split
  · rename_i hn
    unfold numB
    simp only
    rw [if_pos trivial, fig_dec true n.natAbs (by omega) (fun _ => by omega), if_pos rfl]
    congr 1
    omega
  · rename_i hn
    have hf := fig_dec false n.toNat (by omega) (fun h => by cases h)
    cases hd : Lib.decDigits n.toNat with
    | nil => rw [hd] at hf; cases hf
    | cons c r =>
      have hs := dec_sign n.toNat c (by rw [hd]; simp)
      unfold numB
      simp only
      rw [if_neg (by rintro rfl; have h45 : (45 : UInt8).toNat = 45 := rfl; omega), ← hd, hf, if_neg (by simp)]
      congr 1
      omega
theorem itoa_sign (n : Int) : ∀ x ∈ itoaB n, 45 ≤ x.toNat ∧ x.toNat ≤ 57 := by
  intro x hx
  unfold itoaB Lib.itoa at hx
  split at hx
  · rcases List.mem_cons.1 hx with rfl | hx
    · decide
    · have := dec_sign _ x hx; omega
  · have := dec_sign _ x hx; omega
theorem itoa_cons (n : Int) : ∃ c r, itoaB n = c :: r := by
  unfold itoaB Lib.itoa
  split
  · exact ⟨_, _, rfl⟩
  · rcases Nat.eq_zero_or_pos n.toNat with h | h
    · rw [h, dec_zero]; exact ⟨_, _, rfl⟩
    · obtain ⟨c, r, e, -⟩ := dec_head _ h
      exact ⟨c, r, e⟩
/-- A word that blanks part. -/
def wordy (w : By) : Prop := (∀ x ∈ w, x ≠ 32) ∧ ∃ c r, w = c :: r ∧ c ≠ 34
theorem itoa_wordy (n : Int) : wordy (itoaB n) := by
  obtain ⟨c, r, e⟩ := itoa_cons n
  refine ⟨fun x hx e => ?_, c, r, e, fun h => ?_⟩
  · subst e; have := itoa_sign n 32 hx; revert this; decide
  · subst h; have := itoa_sign n 34 (by rw [e]; simp); revert this; decide
theorem words_join : ∀ (w : By) (ws : List By) (k : Nat), (∀ x ∈ w :: ws, wordy x) → wordsB (List.replicate k 32 ++ Lib.join (w :: ws) [32]) = w :: ws
  | w, [], k, h => by
    obtain ⟨h1, c, r, e, h34⟩ := h w (by simp)
    have hj : Lib.join [w] [32] = w ++ [] := by simp [Lib.join, List.intercalate]
    rw [hj, words_word k w [] h1 c r e h34 (.inl rfl)]
    exact congrArg (fun x => w :: x) (words_blank 0)
  | w, y :: ws, k, h => by
    obtain ⟨h1, c, r, e, h34⟩ := h w (by simp)
    have hj : Lib.join (w :: y :: ws) [32] = w ++ (List.replicate 1 32 ++ Lib.join (y :: ws) [32]) := by simp [Lib.join, List.intercalate]
    rw [hj, words_word k w (List.replicate 1 32 ++ Lib.join (y :: ws) [32]) h1 c r e h34 (.inr ⟨Lib.join (y :: ws) [32], rfl⟩), words_join y ws 1 fun x hx => h x (by simp [hx])]
theorem nums_back : ∀ l : List Int, (∀ x ∈ l, near x) → numsB (l.map itoaB) = some l
  | [], _ => rfl
  | n :: l, h => by
    rw [List.map_cons, numsB, num_itoa n (h n (by simp)), nums_back l fun x hx => h x (by simp [hx])]
    rfl
theorem words_nums (first : By) (l : List Int) (hf : wordy first) : wordsB (joinB first l) = first :: l.map itoaB := by
  have := words_join first (l.map itoaB) 0 fun x hx => by
    rcases List.mem_cons.1 hx with rfl | hx
    · exact hf
    · obtain ⟨n, -, rfl⟩ := List.mem_map.1 hx; exact itoa_wordy n
  exact this
/-- Lines, one behind the other. -/
def runP (s : St) : List By → Option St
  | [] => some s
  | l :: r => (sayB s l).bind fun s' => runP s' r
theorem runP_app : ∀ (a b : List By) (s : St), runP s (a ++ b) = (runP s a).bind fun s' => runP s' b
  | [], _, _ => rfl
  | l :: a, b, s => by
    rw [List.cons_append, runP, runP]
    cases sayB s l with
    | none => rfl
    | some s' => exact runP_app a b s'
theorem saysB_runP : ∀ (ls : List By) (s s' : St) (n : Nat), runP s ls = some s' → saysB s n ls = .inl s'
  | [], s, s', n, h => by cases h; rfl
  | l :: r, s, s', n, h => by
    rw [runP] at h
    rw [saysB]
    cases hs : sayB s l with
    | none => rw [hs] at h; cases h
    | some s1 => rw [hs] at h; exact saysB_runP r s1 s' (n + 1) h
theorem run_words : ∀ (ws : List By) (s : St), runP s (ws.map wordL) = some { s with words := s.words ++ ws }
  | [], s => by simp [runP]
  | b :: ws, s => by
    have hw : wordsB (wordL b) = [bs "word", quoteB b] := by
      have e : wordL b = List.replicate 0 32 ++ (bs "word" ++ (List.replicate 1 32 ++ (quoteB b ++ []))) := by
        unfold wordL
        rw [show bs "word " = bs "word" ++ List.replicate 1 32 by decide]
        simp
      rw [e, words_word 0 (bs "word") (List.replicate 1 32 ++ (quoteB b ++ [])) (by decide) 119 [111, 114, 100] (by decide) (by decide) (.inr ⟨quoteB b ++ [], rfl⟩), words_quote 1 b [] (.inl rfl)]
      exact congrArg (fun x => [bs "word", quoteB b] ++ x) (words_blank 0)
    rw [List.map_cons, runP]
    unfold sayB
    rw [hw, say_word]
    show runP _ (ws.map wordL) = _
    rw [run_words ws]
    simp
theorem run_reads : ∀ (ws : List By) (s : St), runP s (ws.map readL) = some { s with reads := s.reads ++ ws }
  | [], s => by simp [runP]
  | b :: ws, s => by
    have hw : wordsB (readL b) = [bs "read", quoteB b] := by
      have e : readL b = List.replicate 0 32 ++ (bs "read" ++ (List.replicate 1 32 ++ (quoteB b ++ []))) := by
        unfold readL
        rw [show bs "read " = bs "read" ++ List.replicate 1 32 by decide]
        simp
      rw [e, words_word 0 (bs "read") (List.replicate 1 32 ++ (quoteB b ++ [])) (by decide) 114 [101, 97, 100] (by decide) (by decide) (.inr ⟨quoteB b ++ [], rfl⟩), words_quote 1 b [] (.inl rfl)]
      exact congrArg (fun x => [bs "read", quoteB b] ++ x) (words_blank 0)
    rw [List.map_cons, runP]
    unfold sayB
    rw [hw, say_read]
    show runP _ (ws.map readL) = _
    rw [run_reads ws]
    simp
theorem run_fold (s : St) (h : s.fold = false) (f : Bool) : runP s (if f then [bs "fold"] else []) = some { s with fold := f } := by
  cases f with
  | false => cases s; simp only at h; subst h; rfl
  | true =>
    have hw : wordsB (bs "fold") = [bs "fold"] := by rw [wordsF_eq (bs "fold").length _ (Nat.le_refl _)]; decide +kernel
    show (sayB s (bs "fold")).bind _ = _
    unfold sayB
    rw [hw]
    unfold sayW
    simp only
    rw [if_neg (by decide), if_pos trivial, if_pos trivial]
    rfl
theorem run_broken (s : St) (h : s.broken = false) (f : Bool) : runP s (if f then [bs "broken"] else []) = some { s with broken := f } := by
  cases f with
  | false => cases s; simp only at h; subst h; rfl
  | true =>
    have hw : wordsB (bs "broken") = [bs "broken"] := by rw [wordsF_eq (bs "broken").length _ (Nat.le_refl _)]; decide +kernel
    show (sayB s (bs "broken")).bind _ = _
    unfold sayB
    rw [hw]
    unfold sayW
    simp only
    rw [if_neg (by decide), if_neg (by decide), if_pos trivial, if_pos trivial]
    rfl
theorem join_flat (w : By) : ∀ ws : List By, Lib.join (w :: ws) [32] = w ++ ws.flatMap (32 :: ·) := by
  intro ws
  induction ws generalizing w with
  | nil => simp [Lib.join, List.intercalate]
  | cons y ws ih =>
    have hj : Lib.join (w :: y :: ws) [32] = w ++ (32 :: Lib.join (y :: ws) [32]) := by simp [Lib.join, List.intercalate]
    rw [hj, ih y, List.flatMap_cons]
    rfl
def ysB (y : Bool) : By := if y then bs "yes" else bs "no"
theorem answ_join (l : List Bool) : answL l = Lib.join (bs "answers" :: l.map ysB) [32] := by
  rw [join_flat]
  unfold answL
  congr 1
  induction l with
  | nil => rfl
  | cons y l ih =>
    rw [List.map_cons, List.flatMap_cons, List.flatMap_cons, ih]
    cases y <;> rfl
theorem answ_back : ∀ (l : List Bool) (s : St), answB s (l.map ysB) = some { s with answers := s.answers ++ l }
  | [], s => by simp [answB]
  | y :: l, s => by
    rw [List.map_cons, answB]
    cases y with
    | true =>
      rw [if_pos (by rfl), answ_back l]
      simp
    | false =>
      rw [if_neg (by decide), if_pos (by rfl), answ_back l]
      simp
theorem run_answers (s : St) (h : s.answers = []) (l : List Bool) : runP s (if l = [] then [] else [answL l]) = some { s with answers := l } := by
  by_cases h0 : l = []
  · rw [if_pos h0, h0]
    cases s; simp only at h; subst h; rfl
  · rw [if_neg h0]
    have hw : wordsB (answL l) = bs "answers" :: l.map ysB := by
      rw [answ_join]
      exact words_join (bs "answers") (l.map ysB) 0 fun x hx => by
        rcases List.mem_cons.1 hx with rfl | hx
        · exact ⟨by decide, 97, [110, 115, 119, 101, 114, 115], by decide, by decide⟩
        · obtain ⟨y, -, rfl⟩ := List.mem_map.1 hx
          cases y with
          | true => exact ⟨by decide, 121, [101, 115], by decide, by decide⟩
          | false => exact ⟨by decide, 110, [111], by decide, by decide⟩
    rw [runP]
    unfold sayB
    rw [hw]
    have hs : sayW s (bs "answers" :: l.map ysB) = answB s (l.map ysB) := by
      unfold sayW
      simp only
      rw [if_neg (by decide), if_neg (by decide), if_neg (by decide), if_neg (by decide), if_neg (by decide), if_pos trivial, if_neg (by simpa using h0)]
    rw [hs, answ_back, h]
    rfl
theorem say_counts (s : St) (first : By) (l : List Int) (hn : ∀ x ∈ l, near x) (hf : wordy first) (h1 : first.head? ≠ some 35) (h2 : first ≠ bs "fold") (h3 : first ≠ bs "broken") (h4 : first ≠ bs "word") (h5 : first ≠ bs "read") (h6 : first ≠ bs "answers") (h7 : first ≠ bs "plan") :
    sayB s (joinB first l) = countsB s first l := by
  unfold sayB
  rw [words_nums first l hf]
  unfold sayW
  simp only
  rw [if_neg h1, if_neg h2, if_neg h3, if_neg h4, if_neg h5, if_neg h6, if_neg h7, nums_back l hn]
  rfl
theorem run_conf (s : St) (l : List Int) (hl : l.length = 7) (hn : ∀ x ∈ l, near x) : runP s [joinB (bs "conf") l] = some { s with conf := l } := by
  rw [runP, say_counts s (bs "conf") l hn ⟨by decide, 99, [111, 110, 102], by decide, by decide⟩ (by decide) (by decide) (by decide) (by decide) (by decide) (by decide) (by decide)]
  unfold countsB
  rw [if_pos ⟨rfl, hl⟩]
  rfl
theorem run_picks (s : St) (h : s.picks = []) (l : List Int) (hn : ∀ x ∈ l, near x) : runP s (if l = [] then [] else [joinB (bs "pick") l]) = some { s with picks := l } := by
  by_cases h0 : l = []
  · rw [if_pos h0, h0]
    cases s; simp only at h; subst h; rfl
  · rw [if_neg h0, runP, say_counts s (bs "pick") l hn ⟨by decide, 112, [105, 99, 107], by decide, by decide⟩ (by decide) (by decide) (by decide) (by decide) (by decide) (by decide) (by decide)]
    unfold countsB
    rw [if_neg (fun h => absurd h.1 (by decide)), if_pos ⟨rfl, by cases l with | nil => exact absurd rfl h0 | cons a r => simp⟩, h]
    rfl
theorem say_cancel (s : St) (n : Int) (hn : near n) : sayB s (joinB (bs "cancel") [n]) = some { s with cancel := n } := by
  rw [say_counts s (bs "cancel") [n] (fun x hx => by rw [List.mem_singleton.1 hx]; exact hn) ⟨by decide, 99, [97, 110, 99, 101, 108], by decide, by decide⟩ (by decide) (by decide) (by decide) (by decide) (by decide) (by decide) (by decide)]
  unfold countsB
  rw [if_neg (fun h => absurd h.1 (by decide)), if_neg (fun h => absurd h.1 (by decide)), if_pos ⟨rfl, rfl⟩]
  rfl
theorem say_most (s : St) (n : Int) (hn : near n) : sayB s (joinB (bs "most") [n]) = some { s with most := n } := by
  rw [say_counts s (bs "most") [n] (fun x hx => by rw [List.mem_singleton.1 hx]; exact hn) ⟨by decide, 109, [111, 115, 116], by decide, by decide⟩ (by decide) (by decide) (by decide) (by decide) (by decide) (by decide) (by decide)]
  unfold countsB
  rw [if_neg (fun h => absurd h.1 (by decide)), if_neg (fun h => absurd h.1 (by decide)), if_neg (fun h => absurd h.1 (by decide)), if_pos ⟨rfl, rfl⟩]
  rfl
theorem kind_wordy : ∀ k : Nat, k < 5 → (∀ x ∈ kindL.getD k [], x ≠ 32) ∧ (kindL.getD k []).headD 34 ≠ 34 ∧ kindB (kindL.getD k []) = some k := by decide +kernel
theorem say_plan (s : St) (k sd : Nat) (l : Int) (hk : k < 5) (hs : sd ≤ 4294967295) (hl : near l) : sayB s (joinB (bs "plan " ++ kindL.getD k []) [(sd : Int), l]) = some { s with kind := k, seed := sd, last := l } := by
  obtain ⟨k1, k2, k3⟩ := kind_wordy k hk
  have hw : wordsB (joinB (bs "plan " ++ kindL.getD k []) [(sd : Int), l]) = [bs "plan", kindL.getD k [], itoaB sd, itoaB l] := by
    have e : joinB (bs "plan " ++ kindL.getD k []) [(sd : Int), l] = Lib.join [bs "plan", kindL.getD k [], itoaB sd, itoaB l] [32] := by
      unfold joinB
      rw [join_flat, join_flat, show bs "plan " = bs "plan" ++ [32] by decide]
      simp
    rw [e]
    exact words_join (bs "plan") [kindL.getD k [], itoaB sd, itoaB l] 0 fun x hx => by
      simp only [List.mem_cons, List.not_mem_nil, or_false] at hx
      rcases hx with rfl | rfl | rfl | rfl
      · exact ⟨by decide, 112, [108, 97, 110], by decide, by decide⟩
      · refine ⟨k1, ?_⟩
        cases h : kindL.getD k [] with
        | nil => rw [h] at k2; exact absurd rfl k2
        | cons c r => rw [h] at k2; exact ⟨c, r, rfl, k2⟩
      · exact itoa_wordy _
      · exact itoa_wordy _
  unfold sayB
  rw [hw]
  unfold sayW
  simp only
  rw [if_neg (by decide), if_neg (by decide), if_neg (by decide), if_neg (by decide), if_neg (by decide), if_neg (by decide), if_pos trivial]
  unfold planB
  simp only
  rw [k3, num_itoa _ (seed_near hs), num_itoa l hl]
  simp only
  rw [if_pos ⟨by omega, by omega⟩]
  rfl
set_option maxHeartbeats 8000000 in
theorem run_lines (st : St) (hok : Okay st) (hk : st.kind < 5) (hn : (∀ x ∈ st.conf, near x) ∧ (∀ x ∈ st.picks, near x) ∧ near st.last ∧ near st.cancel ∧ near st.most) : runP newSt (linesP st) = some st := by
  obtain ⟨h1, h2, h3, h4, h5⟩ := hn
  have hA : ∀ s : St, s.fold = false → s.words = [] → s.reads = [] → s.broken = false → s.answers = [] → s.picks = [] → runP s (linesP st) = some st := by
    intro s e1 e2 e3 e4 e5 e6
    unfold linesP
    rw [runP_app, runP_app, runP_app, runP_app, runP_app, runP_app, runP_app]
    obtain ⟨a1, a2, a3, a4, a5, a6, a7, a8, a9, a10, a11, a12⟩ := s
    dsimp only at e1 e2 e3 e4 e5 e6
    subst e1 e2 e3 e4 e5 e6
    rw [run_fold _ rfl, Option.bind_some]
    dsimp only
    rw [run_words, Option.bind_some]
    dsimp only
    rw [run_conf _ st.conf hok.conf h1, Option.bind_some]
    dsimp only
    rw [run_reads, Option.bind_some]
    dsimp only
    rw [run_broken _ rfl, Option.bind_some]
    dsimp only
    rw [run_answers _ rfl, Option.bind_some]
    dsimp only
    rw [run_picks _ rfl st.picks h2, Option.bind_some]
    dsimp only
    unfold planL
    rw [runP, say_plan _ st.kind st.seed st.last hk hok.seed h3, Option.bind_some]
    dsimp only
    rw [runP, say_cancel _ st.cancel h4, Option.bind_some]
    dsimp only
    rw [runP, say_most _ st.most h5, Option.bind_some]
    dsimp only
    rw [runP]
    simp only [List.nil_append]
  exact hA newSt rfl rfl rfl rfl rfl rfl
theorem lines_no (st : St) (hk : st.kind < 5) : ∀ l ∈ linesP st, 10 ∉ l := by
  have hj : ∀ (w : By) (ns : List Int), 10 ∉ w → 10 ∉ joinB w ns := by
    intro w ns hw h
    unfold joinB at h
    rw [join_flat] at h
    rcases List.mem_append.1 h with h | h
    · exact hw h
    · obtain ⟨x, hx, h⟩ := List.mem_flatMap.1 h
      obtain ⟨n, -, rfl⟩ := List.mem_map.1 hx
      rcases List.mem_cons.1 h with h | h
      · revert h; decide
      · have := itoa_sign n 10 h; revert this; decide
  intro l hl
  unfold linesP at hl
  simp only [List.mem_append, List.mem_map, List.mem_cons, List.not_mem_nil, or_false] at hl
  rcases hl with ((((((hx | ⟨b, hb, rfl⟩) | rfl) | ⟨b, hb, rfl⟩) | hx) | hx) | hx) | rfl | rfl | rfl
  · split at hx
    · rw [List.mem_singleton.1 hx]; decide
    · cases hx
  · unfold wordL
    simp only [List.mem_append, not_or]
    exact ⟨by decide, quote_no b⟩
  · exact hj _ _ (by decide)
  · unfold readL
    simp only [List.mem_append, not_or]
    exact ⟨by decide, quote_no b⟩
  · split at hx
    · rw [List.mem_singleton.1 hx]; decide
    · cases hx
  · split at hx
    · cases hx
    · rw [List.mem_singleton.1 hx]
      unfold answL
      simp only [List.mem_append, not_or]
      refine ⟨by decide, fun h => ?_⟩
      obtain ⟨y, -, h⟩ := List.mem_flatMap.1 h
      revert h
      cases y <;> decide
  · split at hx
    · cases hx
    · rw [List.mem_singleton.1 hx]; exact hj _ _ (by decide)
  · refine hj _ _ ?_
    have key : ∀ k : Nat, k < 5 → 10 ∉ bs "plan " ++ kindL.getD k [] := by decide +kernel
    exact key _ hk
  · exact hj _ _ (by decide)
  · exact hj _ _ (by decide)
theorem lines_text : ∀ ls : List By, (∀ l ∈ ls, 10 ∉ l) → linesB (ls.flatMap (· ++ [10])) = ls
  | [], _ => rfl
  | l :: ls, h => by
    rw [List.flatMap_cons, List.append_assoc, List.singleton_append, linesB_one l _ (h l (by simp)), lines_text ls fun x hx => h x (by simp [hx])]
/-- What is printed is parsed to the same. -/
theorem parse_print (st : St) (hok : Okay st) (t : By) (h : printB st = some t) : parseB t = .ok st ∧ t.length ≤ 65536 := by
  unfold printB at h
  split at h
  · cases h
  · rename_i hb
    split at h
    · cases h
    · rename_i hg
      injection h with h
      subst h
      have hb : badP st = false := by simpa using hb
      have hkd : st.kind < 5 := by
        rw [badP, Bool.or_eq_false_iff, Bool.or_eq_false_iff, Bool.or_eq_false_iff] at hb
        have := of_decide_eq_false hb.1.1.1
        omega
      have hnear : (∀ x ∈ st.conf, near x) ∧ (∀ x ∈ st.picks, near x) ∧ near st.last ∧ near st.cancel ∧ near st.most := by
        rw [badP, Bool.or_eq_false_iff, Bool.or_eq_false_iff, Bool.or_eq_false_iff] at hb
        obtain ⟨⟨⟨-, h1⟩, h2⟩, h3⟩ := hb
        have hfar : ∀ l : List Int, l.any farB = false → ∀ x ∈ l, near x := fun l hl x hx => by
          have := List.any_eq_false.1 hl x hx
          unfold farB at this
          unfold near
          simp at this
          omega
        exact ⟨hfar _ h1, hfar _ h2, hfar _ h3 _ (by simp), hfar _ h3 _ (by simp), hfar _ h3 _ (by simp)⟩
      have hgr : ¬ ((textP st).length > maxText ∨ (linesB (textP st)).length > maxLines) := fun h => hg (by unfold greatB; exact decide_eq_true h)
      refine ⟨?_, ?_⟩
      · unfold parseB
        rw [if_neg hgr]
        unfold textP
        rw [lines_text _ (lines_no st hkd), saysB_runP _ newSt st 1 (run_lines st hok hkd hnear)]
      · have : maxText = 65536 := rfl
        have h1 : ¬ (textP st).length > maxText := fun h => hgr (.inl h)
        omega
end Go.Proofs.YtpcdbkaeijhmfaaDoor
