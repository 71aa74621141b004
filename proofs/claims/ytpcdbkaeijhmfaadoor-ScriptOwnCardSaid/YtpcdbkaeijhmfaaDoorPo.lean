/- script: what a script's lines make, plain; a story kept. -/
import Derived.Test.YtpcdbkaeijhmfaaDoorWe
namespace Go.Proofs.YtpcdbkaeijhmfaaDoor
set_option maxRecDepth 100000
set_option linter.unusedVariables false
set_option linter.unusedSimpArgs false
open Go.RowKit
/-- Lines, one behind the other. -/
def runN (s : St) : List (Nat × By) → Option St
  | [] => some s
  | x :: r => (sayB s x.2).bind fun s' => runN s' r
theorem runN_snoc (pre : List (Nat × By)) : ∀ (s : St) (x : Nat × By), runN s (pre ++ [x]) = (runN s pre).bind fun s' => sayB s' x.2 := by
  induction pre with
  | nil => intro s x; show (sayB s x.2).bind (fun s' => runN s' []) = sayB s x.2; cases sayB s x.2 <;> rfl
  | cons y r ih =>
    intro s x
    show (sayB s y.2).bind _ = ((sayB s y.2).bind _).bind _
    cases sayB s y.2 with
    | none => rfl
    | some s' => exact ih s' x
theorem saysB_all (ls : List By) : ∀ (s s' : St) (n : Nat), runN s (numd n ls) = some s' → saysB s n ls = .inl s' := by
  induction ls with
  | nil => intro s s' n h; cases h; rfl
  | cons l r ih =>
    intro s s' n h
    rw [saysB]
    have h : (sayB s l).bind (fun s' => runN s' (numd (n + 1) r)) = some s' := h
    cases hs : sayB s l with
    | none => rw [hs] at h; cases h
    | some s1 => rw [hs] at h; exact ih s1 s' (n + 1) h
theorem saysB_stop (pre : List (Nat × By)) : ∀ (ls : List By) (s s1 : St) (n : Nat) (x : Nat × By) (r : List (Nat × By)), (pre ++ [x]) ++ r = numd n ls → runN s pre = some s1 → sayB s1 x.2 = none → saysB s n ls = .inr x.1 := by
  induction pre with
  | nil =>
    intro ls s s1 n x r h h1 h2
    cases h1
    cases ls with
    | nil => cases h
    | cons l q => injection h with h _; subst h; rw [saysB, h2]
  | cons y pre ih =>
    intro ls s s1 n x r h h1 h2
    cases ls with
    | nil => cases h
    | cons l q =>
      injection h with h h'
      subst h
      have h1 : (sayB s l).bind (fun s' => runN s' pre) = some s1 := h1
      rw [saysB]
      cases hs : sayB s l with
      | none => rw [hs] at h1; cases h1
      | some s2 => rw [hs] at h1; exact ih q s2 s1 (n + 1) x r h' h1 h2
def sumL (l : List (Nat × By)) : Nat := (l.map fun x => x.2.length).sum
theorem linesGo_sum (t : By) : ∀ (cur : By) (n : Nat), sumL (numd n (linesGo cur t)) ≤ cur.length + t.length := by
  induction t with
  | nil => intro cur n; unfold linesGo; split <;> simp [numd, sumL]
  | cons c r ih =>
    intro cur n
    unfold linesGo
    split
    · have := ih [] (n + 1)
      simp only [numd, sumL, List.map_cons, List.sum_cons, List.length_cons, List.length_nil] at this ⊢
      omega
    · have := ih (cur ++ [c]) n
      simp only [List.length_append, List.length_cons, List.length_nil] at this ⊢
      omega
theorem sumL_app (a b : List (Nat × By)) : sumL (a ++ b) = sumL a + sumL b := by simp [sumL]
theorem linesB_sum (t : By) (pre r : List (Nat × By)) (h : pre ++ r = numd 1 (linesB t)) : sumL pre ≤ t.length := by
  have h1 := linesGo_sum t [] 1
  have h2 : sumL (pre ++ r) = _ := congrArg sumL h
  rw [sumL_app] at h2
  unfold linesB at h2
  simp only [List.length_nil] at h1
  omega
theorem answB_tot (l : List By) : ∀ (s s' : St), answB s l = some s' → totS s' = totS s + l.length := by
  induction l with
  | nil => intro s s' h; cases h; rfl
  | cons w r ih =>
    intro s s' h
    unfold answB at h
    split at h
    · rw [ih _ _ h]; simp [totS]; omega
    · split at h
      · rw [ih _ _ h]; simp [totS]; omega
      · cases h
theorem sayW_tot (s s' : St) (l : List By) (h : sayW s l = some s') : totS s' ≤ totS s + l.length := by
  cases l with
  | nil => cases h; simp
  | cons w r =>
    unfold sayW at h
    simp only at h
    split at h
    · cases h; omega
    · split at h
      · split at h
        · cases h; simp [totS]
        · cases h
      · split at h
        · split at h
          · cases h; simp [totS]
          · cases h
        · split at h
          · unfold wordB at h
            split at h
            · rw [Option.map_eq_some_iff] at h
              obtain ⟨b, -, rfl⟩ := h
              simp [totS]; omega
            · cases h
          · split at h
            · unfold readB at h
              split at h
              · rw [Option.map_eq_some_iff] at h
                obtain ⟨b, -, rfl⟩ := h
                simp [totS]; omega
              · cases h
            · split at h
              · split at h
                · cases h
                · rw [answB_tot _ _ _ h, List.length_cons]; omega
              · split at h
                · unfold planB at h
                  split at h
                  · split at h
                    · split at h
                      · cases h; simp [totS]
                      · cases h
                    · cases h
                  · cases h
                · rw [Option.bind_eq_some_iff] at h
                  obtain ⟨ns, h1, h2⟩ := h
                  have h3 := numsB_len r ns h1
                  unfold countsB at h2
                  split at h2
                  · cases h2; simp [totS]
                  · split at h2
                    · cases h2; simp [totS]; omega
                    · split at h2
                      · cases h2; simp [totS]
                      · split at h2
                        · cases h2; simp [totS]
                        · cases h2
theorem sayB_tot (s s' : St) (t : By) (h : sayB s t = some s') : totS s' ≤ totS s + t.length := by
  have h1 := sayW_tot s s' _ h
  have h2 := (wordsB_all t).2
  omega
/-- A story, kept where what is turned is no row of its kinds. -/
theorem StO.keptG {w w' : World} {b : Nat} {st : St} {K : Nat → Prop} (h : StO w b st) (hF : Frm K w w') (hK : ∀ q t cs, K q → Blk w q t cs → t = 9) : StO w' b st := by
  have hk : ∀ q, K q → ¬ StK w b q := fun q hq hs => by
    obtain ⟨t, cs, h1, h2⟩ := h.ty hs
    exact h2 (hK q t cs hq h1)
  have hu : ∀ q cs, Blk w q 5 cs → ¬ K q := fun q cs hc hq => absurd (hK q _ cs hq hc) (by decide)
  obtain ⟨wv, rv, av, pv, hb, hl⟩ := h
  have hc := fun i => hb.cell i
  refine ⟨wv, rv, av, pv, hb.kept hF fun hq => hk b hq (.inl rfl), hl.words.kept hF (fun q hq e => hk q e (.inr ⟨1, wv, .inl rfl, hc 1, hq⟩)) hu, hl.reads.kept hF (fun q hq e => hk q e (.inr ⟨10, rv, .inr (.inl rfl), hc 10, hq⟩)) hu,
    hF.own hl.answers fun q hq e => hk q e (.inr ⟨11, av, .inr (.inr (.inl rfl)), hc 11, hq⟩), hF.own hl.picks fun q hq e => hk q e (.inr ⟨12, pv, .inr (.inr (.inr rfl)), hc 12, hq⟩), hl.apart⟩
theorem StO.keptS {w w' : World} {b q : Nat} {st : St} (h : StO w b st) (hF : Frm (fun x => x = q) w w') (hq : KS w q) : StO w' b st := h.keptG hF fun q' t cs hk hb => by
  subst hk
  obtain ⟨cs', fr, h1⟩ := hq
  unfold Blk at hb
  rw [hb] at h1
  injection h1 with h1
  injection h1 with _ h1
theorem StO.keptN {w w' : World} {b : Nat} {st : St} {row : Option Nat} (h : StO w b st) (hg : w.grownBy w' row) (hr : ∀ r, row = some r → ∃ o : Obj, w.heap[r]? = some o ∧ o.isCells = false) : StO w' b st := h.keptG (Frm.of_grown hg) fun q t cs hk hb => by
  obtain ⟨o, h1, h2⟩ := hr q hk
  unfold Blk at hb
  rw [hb] at h1
  cases h1
  cases h2
theorem StK.ge {w : World} {b q : Nat} {st : St} (h : StO w b st) (hq : StK w b q) : b ≤ q := by
  obtain ⟨wv, rv, av, pv, hb, hl⟩ := h
  rcases hq with rfl | ⟨i, v, h1, h2, h3⟩
  · exact Nat.le_refl _
  · have hc := hb.cell i
    rw [h2] at hc
    rcases h1 with rfl | rfl | rfl | rfl
    · cases hc; have := (hl.words.lt q h3).1; omega
    · cases hc; have := (hl.reads.lt q h3).1; omega
    · cases hc; have := (hl.answers.lt q h3).1; omega
    · cases hc; have := (hl.picks.lt q h3).1; omega
end Go.Proofs.YtpcdbkaeijhmfaaDoor
