/- Plain laws of waiting: the window; of round picks. -/
import Derived.Test.YtfclpggbcmbcjaaIn
import Derived.Test.YtfclpggbcmbcjaaFl
import Derived.Test.YtfclpggbcmbcjaaFd
namespace Go.Proofs.Ytfclpggbcmbcjaa
/-- Does a number wait in a turn? -/
def wtB (t : List Int × Int) (n : Int) : Bool := decide (n ∈ t.1 ∧ t.2 ≠ n)
/-- For how many turns a number waits, up to the end. -/
def runE (ts : List (List Int × Int)) (n : Int) : Nat := (ts.reverse.takeWhile fun t => wtB t n).length
/-- For how many turns a number waits, from the beginning on. -/
def runF (ts : List (List Int × Int)) (n : Int) : Nat := (ts.takeWhile fun t => wtB t n).length
theorem runE_snoc (ts : List (List Int × Int)) (t : List Int × Int) (n : Int) : runE (ts ++ [t]) n = if wtB t n = true then runE ts n + 1 else 0 := by
  unfold runE
  rw [List.reverse_append, List.reverse_singleton, List.singleton_append, List.takeWhile_cons]
  split <;> simp
/-- One turn, folded. -/
theorem wfold_map (f : Int → Int) (p : Int) (l : List Int) : ∀ (st : WS) (n : Int), (l.foldl (wstep f p) st).1 n = if n ∈ l ∧ n ≠ p then f n + 1 else st.1 n := by
  induction l with
  | nil => intro st n; simp
  | cons x l ih =>
    intro st n
    rw [List.foldl_cons, ih]
    have hs : (wstep f p st x).1 n = if n = x ∧ n ≠ p then f n + 1 else st.1 n := by
      unfold wstep
      by_cases hx : x = p
      · rw [if_pos hx]
        by_cases hn : n = x ∧ n ≠ p
        · exact absurd (hn.1.trans hx) hn.2
        · rw [if_neg hn]
      · rw [if_neg hx]
        have e : upd st.1 x (f x + 1) n = if n = x ∧ n ≠ p then f n + 1 else st.1 n := by
          unfold upd
          by_cases hn : n = x
          · rw [if_pos hn, hn, if_pos ⟨rfl, hx⟩]
          · rw [if_neg hn, if_neg (by rintro ⟨h, _⟩; exact hn h)]
        split <;> exact e
    rw [hs]
    by_cases h1 : n ∈ l ∧ n ≠ p
    · rw [if_pos h1, if_pos ⟨List.mem_cons_of_mem _ h1.1, h1.2⟩]
    · rw [if_neg h1]
      by_cases h2 : n = x ∧ n ≠ p
      · rw [if_pos h2, if_pos ⟨by rw [h2.1]; exact List.mem_cons_self, h2.2⟩]
      · rw [if_neg h2, if_neg ?_]
        rintro ⟨h3, h4⟩
        rcases List.mem_cons.1 h3 with h | h
        · exact h2 ⟨h, h4⟩
        · exact h1 ⟨h, h4⟩
/-- The most, so far, within a turn. -/
theorem wfold_top (f : Int → Int) (p : Int) (l : List Int) : ∀ (st : WS), st.2.1 ≤ (l.foldl (wstep f p) st).2.1 ∧ (∀ n, n ∈ l → n ≠ p → f n + 1 ≤ (l.foldl (wstep f p) st).2.1) ∧
    (((l.foldl (wstep f p) st).2.1 = st.2.1 ∧ (l.foldl (wstep f p) st).2.2 = st.2.2) ∨ ∃ n, n ∈ l ∧ n ≠ p ∧ (l.foldl (wstep f p) st).2.1 = f n + 1 ∧ (l.foldl (wstep f p) st).2.2 = n) := by
  induction l with
  | nil => intro st; exact ⟨Int.le_refl _, (fun _ h => by cases h), .inl ⟨rfl, rfl⟩⟩
  | cons x l ih =>
    intro st
    rw [List.foldl_cons]
    obtain ⟨h1, h2, h3⟩ := ih (wstep f p st x)
    have hs : st.2.1 ≤ (wstep f p st x).2.1 ∧ (x ≠ p → f x + 1 ≤ (wstep f p st x).2.1) ∧ (((wstep f p st x).2.1 = st.2.1 ∧ (wstep f p st x).2.2 = st.2.2) ∨ x ≠ p ∧ (wstep f p st x).2.1 = f x + 1 ∧ (wstep f p st x).2.2 = x) := by
      unfold wstep
      by_cases hx : x = p
      · rw [if_pos hx]; exact ⟨Int.le_refl _, fun h => absurd hx h, .inl ⟨rfl, rfl⟩⟩
      · rw [if_neg hx]
        by_cases hc : st.2.1 < f x + 1 ∨ (f x + 1 = st.2.1 ∧ x < st.2.2)
        · rw [if_pos hc]; exact ⟨by show st.2.1 ≤ f x + 1; omega, fun _ => Int.le_refl _, .inr ⟨hx, rfl, rfl⟩⟩
        · rw [if_neg hc]; exact ⟨Int.le_refl _, fun _ => by show f x + 1 ≤ st.2.1; omega, .inl ⟨rfl, rfl⟩⟩
    obtain ⟨s1, s2, s3⟩ := hs
    refine ⟨by omega, fun n hn hp => ?_, ?_⟩
    · rcases List.mem_cons.1 hn with h | h
      · subst h; have := s2 hp; omega
      · exact h2 n h hp
    · rcases h3 with ⟨q1, q2⟩ | ⟨n, q1, q2, q3, q4⟩
      · rcases s3 with ⟨r1, r2⟩ | ⟨r0, r1, r2⟩
        · exact .inl ⟨q1.trans r1, q2.trans r2⟩
        · exact .inr ⟨x, List.mem_cons_self, r0, q1.trans r1, q2.trans r2⟩
      · exact .inr ⟨n, List.mem_cons_of_mem _ q1, q2, q3, q4⟩
/-- What the fold over the turns holds. -/
def WInv (ts : List (List Int × Int)) (st : WS) : Prop :=
  (∀ n, st.1 n = (runE ts n : Int)) ∧ (∀ j n, j ≤ ts.length → ((runE (ts.take j) n : Nat) : Int) ≤ st.2.1) ∧ (st.2.1 = 0 ∨ ∃ j, j ≤ ts.length ∧ ((runE (ts.take j) st.2.2 : Nat) : Int) = st.2.1)
theorem wait_inv (ts : List (List Int × Int)) : WInv ts (waitL ts) := by
  have key : ∀ k, k ≤ ts.length → WInv (ts.take k) (waitL (ts.take k)) := by
    intro k
    induction k with
    | zero => intro _; exact ⟨fun n => rfl, fun j n _ => (by simp [runE, waitL, wstart]), .inl rfl⟩
    | succ k ih =>
      intro hk
      obtain ⟨h1, h2, h3⟩ := ih (by omega)
      have hkl : k < ts.length := by omega
      have e : ts.take (k + 1) = ts.take k ++ [ts[k]] := List.take_succ_eq_append_getElem hkl
      have hlk : (ts.take k).length = k := by simp; omega
      rw [e, waitL_snoc]
      generalize ts[k] = t at *
      generalize ts.take k = pre at *
      generalize waitL pre = st at *
      have hm := wfold_map st.1 t.2 t.1 ((fun _ => 0), st.2.1, st.2.2)
      obtain ⟨t1, t2, t3⟩ := wfold_top st.1 t.2 t.1 ((fun _ => 0), st.2.1, st.2.2)
      have hE : ∀ n, (wturn st t).1 n = (runE (pre ++ [t]) n : Int) := fun n => by
        rw [runE_snoc]
        refine (hm n).trans ?_
        unfold wtB
        by_cases hn : n ∈ t.1 ∧ n ≠ t.2
        · rw [if_pos hn, if_pos (by simp; exact ⟨hn.1, fun h => hn.2 h.symm⟩), h1]; simp
        · rw [if_neg hn, if_neg (by simp; intro h; exact Decidable.byContradiction fun h2 => hn ⟨h, fun e => h2 e.symm⟩)]; rfl
      refine ⟨hE, fun j n hj => ?_, ?_⟩
      · by_cases hjk : j ≤ pre.length
        · rw [List.take_append_of_le_length hjk]
          exact Int.le_trans (h2 j n hjk) t1
        · rw [List.take_of_length_le (by simp; omega), runE_snoc]
          by_cases hw : wtB t n = true
          · rw [if_pos hw]
            unfold wtB at hw
            simp at hw
            have := t2 n hw.1 (fun h => hw.2 h.symm)
            have e1 := h1 n
            show _ ≤ (wturn st t).2.1
            have e2 : (wturn st t).2.1 = (t.1.foldl (wstep st.1 t.2) ((fun _ => 0), st.2.1, st.2.2)).2.1 := rfl
            rw [e2]
            omega
          · rw [if_neg hw]
            have h0 := h2 0 n (by omega)
            have := Int.le_trans h0 t1
            have e2 : (wturn st t).2.1 = (t.1.foldl (wstep st.1 t.2) ((fun _ => 0), st.2.1, st.2.2)).2.1 := rfl
            rw [e2]
            omega
      · rcases t3 with ⟨q1, q2⟩ | ⟨n, q1, q2, q3, q4⟩
        · rcases h3 with h3 | ⟨j, hj, h3⟩
          · exact .inl (q1.trans h3)
          · refine .inr ⟨j, by simp; omega, ?_⟩
            rw [List.take_append_of_le_length hj]
            have e2 : (wturn st t).2.2 = st.2.2 := q2
            have e3 : (wturn st t).2.1 = st.2.1 := q1
            rw [e2, e3]
            exact h3
        · refine .inr ⟨(pre ++ [t]).length, Nat.le_refl _, ?_⟩
          rw [List.take_length]
          have e2 : (wturn st t).2.2 = n := q4
          have e3 : (wturn st t).2.1 = st.1 n + 1 := q3
          rw [e2, e3, ← hE n, show (wturn st t).1 n = _ from hm n, if_pos ⟨q1, q2⟩]
  have := key ts.length (Nat.le_refl _)
  rwa [List.take_length] at this
theorem takeWhile_le {α : Type} (p : α → Bool) (l : List α) (r : Nat) (hr : r ≤ l.length) (h : ∀ i (hi : i < l.length), i < r → p l[i] = true) : r ≤ (l.takeWhile p).length := by
  induction l generalizing r with
  | nil => simp at hr; omega
  | cons x l ih =>
    cases r with
    | zero => omega
    | succ r =>
      rw [List.takeWhile_cons, if_pos (show p x = true from h 0 (by simp) (by omega))]
      have := ih r (by simpa using hr) fun i hi hir => (show p l[i] = true from h (i + 1) (by simp; omega) (by omega))
      simp; omega
theorem takeWhile_get {α : Type} (p : α → Bool) (l : List α) : ∀ i (hi : i < l.length), i < (l.takeWhile p).length → p l[i] = true := by
  induction l with
  | nil => intro i hi; simp at hi
  | cons x l ih =>
    intro i hi h
    rw [List.takeWhile_cons] at h
    split at h
    · cases i with
      | zero => simpa using ‹p x = true›
      | succ i => simpa using ih i (by simpa using hi) (by simpa using h)
    · simp at h
theorem takeWhile_length_le {α : Type} (p : α → Bool) (l : List α) : (l.takeWhile p).length ≤ l.length := (List.takeWhile_sublist p).length_le
/-- A run from i on, of r turns: it ends at i + r. -/
theorem runE_ge (ts : List (List Int × Int)) (n : Int) (i r : Nat) (h : i + r ≤ ts.length) (hw : ∀ k (hk : k < ts.length), i ≤ k → k < i + r → wtB ts[k] n = true) : r ≤ runE (ts.take (i + r)) n := by
  unfold runE
  have hl : (ts.take (i + r)).length = i + r := by simp; omega
  refine takeWhile_le _ _ r (by rw [List.length_reverse, hl]; omega) fun k hk hkr => ?_
  rw [List.getElem_reverse, List.getElem_take]
  rw [List.length_reverse, hl] at hk
  exact hw _ _ (by rw [hl]; omega) (by rw [hl]; omega)
/-- The first law of the window: no number waits longer. -/
theorem run_le (ts : List (List Int × Int)) (n : Int) (i r : Nat) (h : i + r ≤ ts.length) (hw : ∀ k (hk : k < ts.length), i ≤ k → k < i + r → wtB ts[k] n = true) : (r : Int) ≤ (waitL ts).2.1 := by
  have h1 := runE_ge ts n i r h hw
  have h2 := (wait_inv ts).2.1 (i + r) n h
  omega
/-- The second: one does. -/
theorem run_at (ts : List (List Int × Int)) (h0 : (waitL ts).2.1 ≠ 0) : ∃ i r : Nat, (r : Int) = (waitL ts).2.1 ∧ 1 ≤ r ∧ i + r ≤ ts.length ∧ ∀ k (hk : k < ts.length), i ≤ k → k < i + r → wtB ts[k] (waitL ts).2.2 = true := by
  obtain ⟨j, hj, e⟩ := (wait_inv ts).2.2.resolve_left h0
  have hb : (0 : Int) ≤ (waitL ts).2.1 := (wait_bnd ts).2.1
  generalize (waitL ts).2.2 = n at *
  generalize (waitL ts).2.1 = T at *
  have hl : (ts.take j).length = j := by simp; omega
  have hr : runE (ts.take j) n ≤ j := by
    unfold runE
    have := takeWhile_length_le (fun t => wtB t n) (ts.take j).reverse
    rw [List.length_reverse, hl] at this
    exact this
  refine ⟨j - runE (ts.take j) n, runE (ts.take j) n, e, by omega, by omega, fun k hk h1 h2 => ?_⟩
  have := takeWhile_get (fun t => wtB t n) (ts.take j).reverse (j - 1 - k) (by rw [List.length_reverse, hl]; omega) (by show _ < runE (ts.take j) n; omega)
  rw [List.getElem_reverse, List.getElem_take] at this
  have e2 : (ts.take j).length - 1 - (j - 1 - k) = k := by rw [hl]; omega
  simp only [e2] at this
  exact this
/-- Turns by round picks, of numbers from 0 to 7. -/
def dist (z n : Int) : Int := if z < n then n - max z (-1) else n + 1 + (7 - min z 7)
theorem round_step {z x n : Int} {l : List Int} (hx : roundL z l = x) (hl : ∀ y ∈ l, 0 ≤ y ∧ y ≤ 7) (hn : n ∈ l) (hne : x ≠ n) : dist x n + 1 ≤ dist z n := by
  have hl0 : l ≠ [] := by rintro rfl; cases hn
  obtain ⟨h1, h2⟩ := roundL_law z l hl0
  rw [hx] at h1 h2
  have hxr := hl x h1
  have hnr := hl n hn
  unfold dist
  by_cases hz : z < n
  · obtain ⟨q1, q2⟩ := h2 n hn hz
    rw [if_pos (by omega), if_pos hz]
    omega
  · rw [if_neg hz]
    by_cases hxn : x < n
    · rw [if_pos hxn]
      omega
    · rw [if_neg hxn]
      by_cases hzx : z < x
      · omega
      · exfalso
        -- nothing above z: the least is picked
        have hno : ∀ y ∈ l, ¬ z < y := fun y hy hzy => hzx (h2 y hy hzy).1
        have hmin : roundL z l = minL l := by
          unfold roundL
          cases ha : aboveL z l with
          | none => rfl
          | some u =>
            have := (above_law z l none (fun _ h => by cases h)).1 u ha
            rcases this.2 with h | h
            · cases h
            · exact absurd this.1 (hno u h)
        rw [hx] at hmin
        have := (minL_law l hl0).2 n hn
        omega
theorem dist_pos (z n : Int) (hn : 0 ≤ n ∧ n ≤ 7) : 1 ≤ dist z n ∧ dist z n ≤ 8 := by
  unfold dist
  split <;> omega
def Small8 (ls : List (List Int)) : Prop := ∀ l ∈ ls, ∀ y ∈ l, 0 ≤ y ∧ y ≤ 7
theorem pick3 {s z x s' : Int} {l : List Int} (h : pickK 3 s z l = some (x, s')) : roundL z l = x ∧ l ≠ [] := by
  unfold pickK at h
  by_cases h0 : l = []
  · rw [if_pos h0] at h; cases h
  · rw [if_neg h0, if_neg (by omega), if_neg (by omega), if_pos rfl] at h
    cases h
    exact ⟨rfl, h0⟩
/-- Each turn's pick is among its numbers, all of which are small. -/
theorem play_mem (s : Int) (ls : List (List Int)) (hs : Small8 ls) : ∀ z, ∀ t ∈ playL 3 s z ls, t.2 ∈ t.1 ∧ ∀ y ∈ t.1, 0 ≤ y ∧ y ≤ 7 := by
  induction ls generalizing s with
  | nil => intro z t ht; cases ht
  | cons l ls ih =>
    intro z t ht
    cases hp : pickK 3 s z l with
    | none => rw [playL_none hp] at ht; exact ih s (fun l hl => hs l (by simp [hl])) z t ht
    | some px =>
      obtain ⟨x, s'⟩ := px
      rw [playL_some hp] at ht
      rcases List.mem_cons.1 ht with rfl | ht
      · exact ⟨(pickK_law hp).2.2.2.1, hs l (by simp)⟩
      · exact ih s' (fun l hl => hs l (by simp [hl])) x t ht
/-- Who waits from the first turn on waits less than its distance. -/
theorem play_run (s : Int) (ls : List (List Int)) (hs : Small8 ls) : ∀ (z n : Int) (r : Nat), (∀ k (hk : k < (playL 3 s z ls).length), k < r → wtB (playL 3 s z ls)[k] n = true) → r ≤ (playL 3 s z ls).length → 1 ≤ r → (r : Int) + 1 ≤ dist z n := by
  induction ls generalizing s with
  | nil => intro z n r _ h h1; simp [playL] at h; omega
  | cons l ls ih =>
    intro z n r hw hr h1
    cases hp : pickK 3 s z l with
    | none =>
      simp only [playL_none hp] at hw hr
      exact ih s (fun l hl => hs l (by simp [hl])) z n r hw hr h1
    | some px =>
      obtain ⟨x, s'⟩ := px
      simp only [playL_some hp] at hw hr
      have hw0 := hw 0 (by simp) (by omega)
      simp [wtB] at hw0
      have hx := (pick3 hp).1
      have hsl := hs l (by simp)
      have st := round_step hx hsl hw0.1 hw0.2
      cases r with
      | zero => omega
      | succ r =>
        by_cases hr0 : r = 0
        · subst hr0
          have := (dist_pos x n (hsl n hw0.1)).1
          omega
        · have := ih s' (fun l hl => hs l (by simp [hl])) x n r (fun k hk hkr => by
            have := hw (k + 1) (by simp; omega) (by omega)
            simpa using this) (by simpa using hr) (by omega)
          omega
/-- From any turn on: behind some turns it is a play of the rest. -/
theorem play_drop (s : Int) (ls : List (List Int)) : ∀ (z : Int) (i : Nat), ∃ s' z' ls', (∀ l ∈ ls', l ∈ ls) ∧ (playL 3 s z ls).drop i = playL 3 s' z' ls' := by
  induction ls generalizing s with
  | nil => intro z i; exact ⟨s, z, [], fun _ h => h, by simp [playL]⟩
  | cons l ls ih =>
    intro z i
    cases i with
    | zero => exact ⟨s, z, l :: ls, fun _ h => h, rfl⟩
    | succ i =>
      cases hp : pickK 3 s z l with
      | none =>
        rw [playL_none hp]
        obtain ⟨s', z', ls', h1, h2⟩ := ih s z (i + 1)
        exact ⟨s', z', ls', fun l hl => by simp [h1 l hl], h2⟩
      | some px =>
        obtain ⟨x, s1⟩ := px
        rw [playL_some hp, List.drop_succ_cons]
        obtain ⟨s', z', ls', h1, h2⟩ := ih s1 x i
        exact ⟨s', z', ls', fun l hl => by simp [h1 l hl], h2⟩
theorem play_wait (s z : Int) (ls : List (List Int)) (hs : Small8 ls) (n : Int) (i r : Nat) (h : i + r ≤ (playL 3 s z ls).length) (hw : ∀ k (hk : k < (playL 3 s z ls).length), i ≤ k → k < i + r → wtB (playL 3 s z ls)[k] n = true) : r ≤ 7 := by
  by_cases hr : r = 0
  · omega
  obtain ⟨s', z', ls', h1, h2⟩ := play_drop s ls z i
  have hlen : (playL 3 s' z' ls').length = (playL 3 s z ls).length - i := by rw [← h2]; simp
  have hget : ∀ k (hk : k < (playL 3 s' z' ls').length) (hk' : i + k < (playL 3 s z ls).length), (playL 3 s' z' ls')[k] = (playL 3 s z ls)[i + k] := by
    intro k hk hk'
    simp only [← h2, List.getElem_drop]
  have h0 := hw i (by omega) (Nat.le_refl _) (by omega)
  have hm := play_mem s ls hs z _ (List.getElem_mem (show i < (playL 3 s z ls).length by omega))
  simp [wtB] at h0
  have := play_run s' ls' (fun l hl => hs l (h1 l hl)) z' n r (fun k hk hkr => by
    rw [hget k hk (by omega)]
    exact hw (i + k) (by omega) (by omega) (by omega)) (by omega) (by omega)
  have := (dist_pos z' n (hm.2 n h0.1)).2
  omega
theorem play_window (s z : Int) (ls : List (List Int)) (hs : Small8 ls) : (waitL (playL 3 s z ls)).2.1 ≤ 7 := by
  by_cases h0 : (waitL (playL 3 s z ls)).2.1 = 0
  · omega
  · obtain ⟨i, r, h1, h2, h3, h4⟩ := run_at _ h0
    have := play_wait s z ls hs _ i r h3 h4
    omega
end Go.Proofs.Ytfclpggbcmbcjaa
