/- script: a line's words, collected. What 'behind' makes of a story. -/
import Derived.Test.YtpcdbkaeijhmfaaGreatDoorHWd
namespace Go.Proofs.YtpcdbkaeijhmfaaGreatDoor
set_option maxRecDepth 100000
set_option linter.unusedVariables false
set_option linter.unusedSimpArgs false
open Go.RowKit Go.Shelf
theorem words_seq (b : Nat) (t : By) (w : World) (ht : t.length ≤ 999999) (hb : Blk w b 9 #[.string (ba t)]) :
    SeqW Fence.wide 6 Tryz.prog 66 #[.pointer (some ⟨b, 0, none⟩)] (fun x : By => #[sEnc x]) (fun X Y => Frm (fun q => q = b) X Y) (fun X Y => Frm (fun q => w.heap.size ≤ q) X Y) (sGood w.heap.size)
      (fun ys => ys = wordsB t) (t.length + 1) w := fun l J W hW hJ hY h0 =>
  words1_in 6 (by omega) l b w.heap.size t J (by omega) hJ hY W (hb.kept hW id) ⟨hb.lt, hW.size⟩ h0
theorem words_any (t : By) (w : World) : Calls Tryz.prog 42 #[.string (ba t)] w fun e w' => e = .returned (.func (.func 66) #[] #[.pointer (some ⟨w.heap.size, 0, none⟩)]) ∧ w' = w.alloc (.cells #[.string (ba t)] 9) := by
  generalize ba t = S
  go_enter Tryz.func42, Tryz.ntmps42
  go_wp2
  go_ret
  exact ⟨rfl, rfl⟩
theorem wordsB_all (l : By) : (∀ x ∈ wordsB l, x ≠ [] ∧ x.length ≤ l.length) ∧ (wordsB l).length ≤ l.length := by
  have key : ∀ n (l : By), l.length ≤ n → (∀ x ∈ wordsB l, x ≠ [] ∧ x.length ≤ l.length) ∧ (wordsB l).length ≤ l.length := by
    intro n
    induction n with
    | zero =>
      intro l hl
      have : l = [] := List.eq_nil_of_length_eq_zero (by omega)
      subst this
      rw [wordsB_nil rfl]
      simp
    | succ n ih =>
      intro l hl
      cases h : l.dropWhile (· == 32) with
      | nil => rw [wordsB_nil h]; simp
      | cons c r =>
        have hc32 : c ≠ 32 := by
          have := List.head?_dropWhile_not (· == (32 : UInt8)) l
          rw [h] at this
          simpa using this
        have h1 : (c :: r).length ≤ l.length := by rw [← h]; exact (List.dropWhile_sublist _).length_le
        have h2 := endB_bounds c r hc32
        rw [wordsB_cons h, Nat.max_eq_right h2.1]
        have g2 : ((c :: r).drop (endB (c :: r))).length = (c :: r).length - endB (c :: r) := List.length_drop
        have g3 : ((c :: r).take (endB (c :: r))).length = min (endB (c :: r)) (c :: r).length := List.length_take
        rw [List.length_cons] at h1 g2 g3
        obtain ⟨k1, k2⟩ := ih ((c :: r).drop (endB (c :: r))) (by omega)
        refine ⟨fun x hx => ?_, by rw [List.length_cons]; omega⟩
        rcases List.mem_cons.1 hx with rfl | hx
        · exact ⟨fun e => by rw [e] at g3; simp at g3; omega, by omega⟩
        · obtain ⟨a, b⟩ := k1 x hx
          exact ⟨a, by omega⟩
  exact key l.length l (Nat.le_refl _)
/-- A line's words, in memory of their own. -/
def WordsPost (t : By) (w : World) (e : Ending) (w' : World) : Prop := ∃ A c, e = .returned (.slice A (wordsB t).length c) ∧ SAt w' (KS w') A (wordsB t).length c (wordsB t) ∧ Frm (fun _ => False) w w'
theorem collect_any (t : By) (w : World) (ht : t.length ≤ 999999) :
    Calls Tryz.prog 41 #[.func (.func 66) #[] #[.pointer (some ⟨w.heap.size, 0, none⟩)]] (w.alloc (.cells #[.string (ba t)] 9)) (WordsPost t w) := by
  have hb := Blk.new w 9 #[.string (ba t)]
  have hF : Frm (fun _ => False) w (w.alloc (.cells #[.string (ba t)] 9)) := (Frm.refl _ w).alloc _
  generalize w.alloc (.cells #[.string (ba t)] 9) = w1 at *
  refine (WS.collect_calls _ _ (enters_of Tryz.func66 (by kernel_rfl) rfl) w.heap.size (t.length + 1) (by omega) _ w1 hb.lt (words_seq w.heap.size t w1 ht hb)).mono ?_
  rintro e w2 ⟨v, xs, rfl, rfl, ho, -, hF2⟩
  obtain ⟨A, c, rfl, -, -⟩ := own_form ho
  have e : WS.cellsOf (wordsB t) = svb (wordsB t) := by
    simp only [WS.cellsOf, svb]
    induction wordsB t with
    | nil => rfl
    | cons x l ih => rw [List.flatMap_cons, ih]; rfl
  rw [e] at ho
  have hs := (OSl.of_own ho (K := fun _ => True) fun _ _ => trivial).sl
  refine ⟨A, c, rfl, ⟨hs.mono fun q hq => hq.2, fun x hx => by have := ((wordsB_all t).1 x hx).2; omega⟩, hF.trans hF2 fun q hq => .inr (by rw [hq]; exact Nat.le_refl _)⟩
end Go.Proofs.YtpcdbkaeijhmfaaGreatDoor
namespace Go.Proofs.YtpcdbkaeijhmfaaGreatDoor
set_option maxRecDepth 100000
set_option linter.unusedVariables false
set_option linter.unusedSimpArgs false
open Go.RowKit
theorem beh_word {b : Nat} {st : St} {wv rv av pv : Value} {r : Option By} {w w' : World} {e : Ending} (hB : Blk w b 50 (stCells st wv rv av pv)) (hL : Lsts w (b + 1) st wv rv av pv) (h : BehPost b 1 (b + 1) wv st.words r w e w') : LinePost b (r.map fun t => { st with words := st.words ++ [t] }) w e w' := by
  obtain ⟨rfl, h1, h2⟩ := h
  cases r with
  | none => exact LinePost.no rfl (StT.of_frm (h1 rfl) hB.lt)
  | some t =>
    obtain ⟨v', w3, rfl, ht, hF, hat⟩ := h2 t rfl
    obtain ⟨vs, k1, k2, k3⟩ := id hL.words
    have hwb : ¬ wv.ownBlock = some b := own_blk_ne k1 hB (by decide)
    have hB3 := hB.kept hF hwb
    have hty : ∀ q cs, Blk w q 5 cs → ¬ wv.ownBlock = some q := fun q cs hc => own_blk_ne k1 hc (by decide)
    have hr3 := hL.reads.kept hF (fun q hq hk => hL.apart q hk hq) hty
    have ha3 := hF.own hL.answers fun q hq hk => own_apart k1 hL.answers (by decide) hq hk
    have hp3 := hF.own hL.picks fun q hq hk => own_apart k1 hL.picks (by decide) hq hk
    have hL3 : Lsts w3 (b + 1) { st with words := st.words ++ [t] } v' rv av pv := ⟨ht, hr3, ha3, hp3, fun q hq hk => by
      rcases hat with h | h
      · exact hL.apart q (h ▸ hq) hk
      · have := h q hq; have := (hL.reads.lt q hk).2; omega⟩
    exact LinePost.yes rfl (StT.turn (v := wv) (.inl rfl) hB rfl hF hwb hat) ⟨v', rv, av, pv, hB3.set_ 1 _, hL3.set_ hB3⟩
theorem beh_read {b : Nat} {st : St} {wv rv av pv : Value} {r : Option By} {w w' : World} {e : Ending} (hB : Blk w b 50 (stCells st wv rv av pv)) (hL : Lsts w (b + 1) st wv rv av pv) (h : BehPost b 10 (b + 1) rv st.reads r w e w') : LinePost b (r.map fun t => { st with reads := st.reads ++ [t] }) w e w' := by
  obtain ⟨rfl, h1, h2⟩ := h
  cases r with
  | none => exact LinePost.no rfl (StT.of_frm (h1 rfl) hB.lt)
  | some t =>
    obtain ⟨v', w3, rfl, ht, hF, hat⟩ := h2 t rfl
    obtain ⟨vs, k1, k2, k3⟩ := id hL.reads
    have hwb : ¬ rv.ownBlock = some b := own_blk_ne k1 hB (by decide)
    have hB3 := hB.kept hF hwb
    have hty : ∀ q cs, Blk w q 5 cs → ¬ rv.ownBlock = some q := fun q cs hc => own_blk_ne k1 hc (by decide)
    have hw3 := hL.words.kept hF (fun q hq hk => hL.apart q hq hk) hty
    have ha3 := hF.own hL.answers fun q hq hk => own_apart k1 hL.answers (by decide) hq hk
    have hp3 := hF.own hL.picks fun q hq hk => own_apart k1 hL.picks (by decide) hq hk
    have hL3 : Lsts w3 (b + 1) { st with reads := st.reads ++ [t] } wv v' av pv := ⟨hw3, ht, ha3, hp3, fun q hq hk => by
      rcases hat with h | h
      · exact hL.apart q hq (h ▸ hk)
      · have := h q hk; have := (hL.words.lt q hq).2; omega⟩
    exact LinePost.yes rfl (StT.turn (v := rv) (.inr (.inl rfl)) hB rfl hF hwb hat) ⟨wv, v', av, pv, hB3.set_ 10 _, hL3.set_ hB3⟩
theorem wordB_one (st : St) (ws : List By) : wordB st ws = (oneTx ws).map fun t => { st with words := st.words ++ [t] } := by
  match ws with
  | [] => rfl
  | [_] => rfl
  | _ :: _ :: _ => rfl
theorem readB_one (st : St) (ws : List By) : readB st ws = (oneTx ws).map fun t => { st with reads := st.reads ++ [t] } := by
  match ws with
  | [] => rfl
  | [_] => rfl
  | _ :: _ :: _ => rfl
theorem numsB_len : ∀ (ws : List By) (ns : List Int), numsB ws = some ns → ns.length = ws.length
  | [], ns, h => by cases h; rfl
  | w :: r, ns, h => by
    rw [numsB] at h
    cases hw : numB w with
    | none => rw [hw] at h; cases h
    | some n =>
      rw [hw] at h
      cases hr : numsB r with
      | none => rw [hr] at h; cases h
      | some l =>
        rw [hr] at h
        cases h
        have := numsB_len r l hr
        simp [this]
/-- How many things a story lists. -/
def totS (st : St) : Nat := st.words.length + st.reads.length + st.answers.length + st.picks.length
theorem LinePost.first {b : Nat} {r : Option St} {w w1 w' : World} {e : Ending} (h : LinePost b r w1 e w') (hT : StT b w w1) : LinePost b r w e w' := ⟨h.1, hT.trans h.2.1, h.2.2⟩
end Go.Proofs.YtpcdbkaeijhmfaaGreatDoor
