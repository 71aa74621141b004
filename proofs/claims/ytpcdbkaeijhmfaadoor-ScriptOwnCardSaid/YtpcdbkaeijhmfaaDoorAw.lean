/- What Parse answers, as cells and lists; a story's conf and sizes. -/
import Derived.Test.YtpcdbkaeijhmfaaDoorWk
namespace Go.Proofs.YtpcdbkaeijhmfaaDoor
set_option maxRecDepth 100000
set_option linter.unusedVariables false
set_option linter.unusedSimpArgs false
open Go.RowKit
/-- A story's cells that were answered, its lists in memory of their own from B on. -/
def Ans (B : Nat) (st : St) (C : Array Value) (w : World) : Prop := ∃ wv rv av pv, C = stCells st wv rv av pv ∧ Lsts w B st wv rv av pv
section
variable {B : Nat} {st : St} {C : Array Value} {w w' : World}
theorem Ans.kept (h : Ans B st C w) (hF : Frm (fun _ => False) w w') : Ans B st C w' := by
  obtain ⟨wv, rv, av, pv, e, h⟩ := h
  exact ⟨wv, rv, av, pv, e, h.keptF hF⟩
theorem Ans.mono {B' : Nat} (h : Ans B st C w) (hB : B' ≤ B) : Ans B' st C w := by
  obtain ⟨wv, rv, av, pv, e, h⟩ := h
  exact ⟨wv, rv, av, pv, e, h.mono hB⟩
theorem Ans.one (h : Ans B st C w) : C.all (·.oneCell') = true := by
  obtain ⟨wv, rv, av, pv, rfl, h⟩ := h
  exact h.one
theorem Ans.size (h : Ans B st C w) : C.size = 18 := by
  obtain ⟨wv, rv, av, pv, rfl, h⟩ := h
  rfl
theorem Ans.read (h : Ans B st C w) : ∃ wv rv av pv, C = stCells st wv rv av pv ∧ LsR w (InW w) st wv rv av pv := by
  obtain ⟨wv, rv, av, pv, e, h⟩ := h
  exact ⟨wv, rv, av, pv, e, h.read (K := InW w) fun _ _ h => h⟩
theorem TxR.setStory {b : Nat} {cs D : Array Value} {v : Value} {L : List By} (h : TxR w B v L) (hb : Blk w b 33 cs) : TxR (w.setRow b D) B v L := by
  refine h.kept ((Frm.refl (fun q => q = b) w).setRow (.inl rfl) _) (fun q hq e => ?_) fun q cs hc e => ?_
  · subst e
    obtain ⟨vs, h3, -⟩ := h
    exact own_blk_ne h3 hb (by decide) hq
  · subst e
    unfold Blk at hc hb
    rw [hb] at hc
    injection hc with hc
    injection hc with _ hc
    exact absurd hc (by decide)
/-- The story's cells are laid into a block of stories. -/
theorem Ans.lay {b : Nat} {cs D : Array Value} (h : Ans B st C w) (hb : Blk w b 33 cs) : Ans B st C (w.setRow b D) := by
  obtain ⟨wv, rv, av, pv, e, h⟩ := h
  have hF : Frm (fun q => q = b) w (w.setRow b D) := (Frm.refl (fun q => q = b) w).setRow (.inl rfl) _
  exact ⟨wv, rv, av, pv, e, h.words.setStory hb, h.reads.setStory hb, hF.own h.answers (fun q hq e => own_blk_ne h.answers hb (by decide) (by rw [hq, e])), hF.own h.picks (fun q hq e => own_blk_ne h.picks hb (by decide) (by rw [hq, e])), h.apart⟩
end
theorem ans_zero (B : Nat) (w : World) : Ans B zeroSt zeroC w :=
  ⟨.slice none 0 0, .slice none 0 0, .slice none 0 0, .slice none 0 0, rfl, TxR.nil w B, TxR.nil w B, World.ownsRow_nil _ _ _ _, World.ownsRow_nil _ _ _ _, fun q h => by cases h⟩
theorem conf_ans : ∀ (l : List By) (s s' : St), answB s l = some s' → s'.conf = s.conf
  | [], s, s', h => by cases h; rfl
  | w :: r, s, s', h => by
    unfold answB at h
    split at h
    · exact (conf_ans r _ _ h).trans rfl
    · split at h
      · exact (conf_ans r _ _ h).trans rfl
      · cases h
theorem conf_say (s s' : St) (l : List By) (h : sayW s l = some s') (hc : s.conf.length = 7) : s'.conf.length = 7 := by
  cases l with
  | nil => cases h; exact hc
  | cons w r =>
    unfold sayW at h
    simp only at h
    split at h
    · cases h; exact hc
    · split at h
      · split at h
        · cases h; exact hc
        · cases h
      · split at h
        · split at h
          · cases h; exact hc
          · cases h
        · split at h
          · unfold wordB at h
            split at h
            · rw [Option.map_eq_some_iff] at h
              obtain ⟨b, -, rfl⟩ := h
              exact hc
            · cases h
          · split at h
            · unfold readB at h
              split at h
              · rw [Option.map_eq_some_iff] at h
                obtain ⟨b, -, rfl⟩ := h
                exact hc
              · cases h
            · split at h
              · split at h
                · cases h
                · rw [conf_ans _ _ _ h]; exact hc
              · split at h
                · unfold planB at h
                  split at h
                  · split at h
                    · split at h
                      · cases h; exact hc
                      · cases h
                    · cases h
                  · cases h
                · rw [Option.bind_eq_some_iff] at h
                  obtain ⟨ns, h1, h2⟩ := h
                  unfold countsB at h2
                  split at h2
                  · rename_i h7; cases h2; exact h7.2
                  · split at h2
                    · cases h2; exact hc
                    · split at h2
                      · cases h2; exact hc
                      · split at h2
                        · cases h2; exact hc
                        · cases h2
theorem conf_says : ∀ (ls : List By) (s s' : St) (n : Nat), saysB s n ls = .inl s' → s.conf.length = 7 → s'.conf.length = 7 ∧ totS s' ≤ totS s + (ls.map (·.length)).sum
  | [], s, s', n, h, hc => by cases h; exact ⟨hc, by simp⟩
  | l :: r, s, s', n, h, hc => by
    unfold saysB at h
    cases hs : sayB s l with
    | none => rw [hs] at h; cases h
    | some s1 =>
      rw [hs] at h
      have h1 := conf_says r s1 s' (n + 1) h (conf_say s s1 _ hs hc)
      have h2 := sayB_tot s s1 l hs
      exact ⟨h1.1, by rw [List.map_cons, List.sum_cons]; omega⟩
theorem lines_sum (t : By) : ((linesB t).map (·.length)).sum ≤ t.length := by
  have h := linesGo_sum t [] 1
  have e : ∀ (ls : List By) (n : Nat), sumL (numd n ls) = (ls.map (·.length)).sum := by
    intro ls
    induction ls with
    | nil => intro n; rfl
    | cons l ls ih => intro n; have := ih (n + 1); simp only [sumL, numd, List.map_cons, List.sum_cons] at this ⊢; omega
  rw [e] at h
  simpa [linesB] using h
theorem conf_parse (t : By) (s : St) (h : parseB t = .ok s) : s.conf.length = 7 ∧ totS s ≤ t.length := by
  unfold parseB at h
  split at h
  · cases h
  · cases hs : saysB newSt 1 (linesB t) with
    | inr n => rw [hs] at h; cases h
    | inl s1 =>
      rw [hs] at h
      cases h
      have h1 := conf_says _ _ _ _ hs rfl
      have h2 := lines_sum t
      exact ⟨h1.1, by have := h1.2; simp [newSt, zeroSt, totS] at this ⊢; omega⟩
/-- What Parse answers: the story's cells, a number, an error. -/
theorem parse_res {t : By} {w w' : World} {e : Ending} (hP : ParsePost t w e w') : ∃ (C : Array Value) (n : Nat) (er : Int) (st : St), e = .returned (.tuple #[.agg C, .int .i64 n, .int .i64 er]) ∧ Ans w.heap.size st C w' ∧ Frm (fun _ => False) w w' ∧ st.conf.length = 7 ∧ totS st ≤ t.length ∧
    match parseB t with | .ok s => st = s ∧ n = 0 ∧ er = 0 | .line k => st = zeroSt ∧ n = k ∧ er = 300 | .great => st = zeroSt ∧ n = 0 ∧ er = 301 := by
  obtain ⟨hF, hP⟩ := hP
  cases h : parseB t with
  | great =>
    rw [h] at hP
    exact ⟨_, 0, 301, zeroSt, hP, ans_zero _ _, hF, rfl, Nat.zero_le _, rfl, rfl, rfl⟩
  | line k =>
    rw [h] at hP
    exact ⟨_, k, 300, zeroSt, hP, ans_zero _ _, hF, rfl, Nat.zero_le _, rfl, rfl, rfl⟩
  | ok s =>
    rw [h] at hP
    obtain ⟨wv, rv, av, pv, e, hL⟩ := hP
    obtain ⟨h1, h2⟩ := conf_parse t s h
    exact ⟨_, 0, 0, s, e, ⟨wv, rv, av, pv, rfl, hL⟩, hF, h1, h2, rfl, rfl, rfl⟩
theorem parse_ok {t : By} {st : St} {w w' : World} {e : Ending} (h : parseB t = .ok st) (hP : ParsePost t w e w') : ∃ C, e = .returned (.tuple #[.agg C, .int .i64 0, .int .i64 0]) ∧ Ans 0 st C w' ∧ Frm (fun _ => False) w w' := by
  obtain ⟨C, n, er, s, rfl, hA, hF, -, -, hm⟩ := parse_res hP
  rw [h] at hm
  obtain ⟨rfl, rfl, rfl⟩ := hm
  exact ⟨C, rfl, hA.mono (Nat.zero_le _), hF⟩
end Go.Proofs.YtpcdbkaeijhmfaaDoor
