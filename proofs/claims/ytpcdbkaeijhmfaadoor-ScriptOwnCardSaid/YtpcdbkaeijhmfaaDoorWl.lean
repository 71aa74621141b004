/- script: a line's words, collected. -/
import Derived.Test.YtpcdbkaeijhmfaaDoorWd
namespace Go.Proofs.YtpcdbkaeijhmfaaDoor
set_option maxRecDepth 100000
set_option linter.unusedVariables false
set_option linter.unusedSimpArgs false
open Go.RowKit Go.Shelf
theorem words_seq (b : Nat) (t : By) (w : World) (ht : t.length ≤ 999999) (hb : Blk w b 9 #[.string (ba t)]) :
    SeqW Fence.wide 6 Tryd.prog 60 #[.pointer (some ⟨b, 0, none⟩)] (fun x : By => #[sEnc x]) (fun X Y => Frm (fun q => q = b) X Y) (fun X Y => Frm (fun q => w.heap.size ≤ q) X Y) (sGood w.heap.size)
      (fun ys => ys = wordsB t) (t.length + 1) w := fun l J W hW hJ hY h0 =>
  words1_in 6 (by omega) l b w.heap.size t J (by omega) hJ hY W (hb.kept hW id) ⟨hb.lt, hW.size⟩ h0
theorem words_any (t : By) (w : World) : Calls Tryd.prog 44 #[.string (ba t)] w fun e w' => e = .returned (.func (.func 60) #[] #[.pointer (some ⟨w.heap.size, 0, none⟩)]) ∧ w' = w.alloc (.cells #[.string (ba t)] 9) := by
  generalize ba t = S
  go_enter Tryd.func44, Tryd.ntmps44
  go_wp2
  go_ret
  exact ⟨rfl, rfl⟩
theorem wordsB_all (l : By) : (∀ x ∈ wordsB l, x ≠ [] ∧ x.length ≤ l.length) ∧ (wordsB l).length ≤ l.length := by
  have key : ∀ n (l : By), l.length ≤ n → (∀ x ∈ wordsB l, x ≠ [] ∧ x.length ≤ l.length) ∧ (wordsB l).length ≤ l.length := by
    intro n
    induction n with
    | zero =>
      intro l hl
      have : l = [] := List.eq_nil_of_length_eq_zero (by omega)
      subst this
      rw [wordsB_nil rfl]
      simp
    | succ n ih =>
      intro l hl
      cases h : l.dropWhile (· == 32) with
      | nil => rw [wordsB_nil h]; simp
      | cons c r =>
        have hc32 : c ≠ 32 := by
          have := List.head?_dropWhile_not (· == (32 : UInt8)) l
          rw [h] at this
          simpa using this
        have h1 : (c :: r).length ≤ l.length := by rw [← h]; exact (List.dropWhile_sublist _).length_le
        have h2 := endB_bounds c r hc32
        rw [wordsB_cons h, Nat.max_eq_right h2.1]
        have g2 : ((c :: r).drop (endB (c :: r))).length = (c :: r).length - endB (c :: r) := List.length_drop
        have g3 : ((c :: r).take (endB (c :: r))).length = min (endB (c :: r)) (c :: r).length := List.length_take
        rw [List.length_cons] at h1 g2 g3
        obtain ⟨k1, k2⟩ := ih ((c :: r).drop (endB (c :: r))) (by omega)
        refine ⟨fun x hx => ?_, by rw [List.length_cons]; omega⟩
        rcases List.mem_cons.1 hx with rfl | hx
        · exact ⟨fun e => by rw [e] at g3; simp at g3; omega, by omega⟩
        · obtain ⟨a, b⟩ := k1 x hx
          exact ⟨a, by omega⟩
  exact key l.length l (Nat.le_refl _)
/-- A line's words, in memory of their own. -/
def WordsPost (t : By) (w : World) (e : Ending) (w' : World) : Prop := ∃ A c, e = .returned (.slice A (wordsB t).length c) ∧ SAt w' (KS w') A (wordsB t).length c (wordsB t) ∧ Frm (fun _ => False) w w'
theorem collect_any (t : By) (w : World) (ht : t.length ≤ 999999) :
    Calls Tryd.prog 43 #[.func (.func 60) #[] #[.pointer (some ⟨w.heap.size, 0, none⟩)]] (w.alloc (.cells #[.string (ba t)] 9)) (WordsPost t w) := by
  have hb := Blk.new w 9 #[.string (ba t)]
  have hF : Frm (fun _ => False) w (w.alloc (.cells #[.string (ba t)] 9)) := (Frm.refl _ w).alloc _
  generalize w.alloc (.cells #[.string (ba t)] 9) = w1 at *
  refine (WS.collect_calls _ _ (enters_of Tryd.func60 (by kernel_rfl) rfl) w.heap.size (t.length + 1) (by omega) _ w1 hb.lt (words_seq w.heap.size t w1 ht hb)).mono ?_
  rintro e w2 ⟨v, xs, rfl, rfl, ho, -, hF2⟩
  obtain ⟨A, c, rfl, -, -⟩ := own_form ho
  have e : WS.cellsOf (wordsB t) = svb (wordsB t) := by
    simp only [WS.cellsOf, svb]
    induction wordsB t with
    | nil => rfl
    | cons x l ih => rw [List.flatMap_cons, ih]; rfl
  rw [e] at ho
  have hs := (OSl.of_own ho (K := fun _ => True) fun _ _ => trivial).sl
  refine ⟨A, c, rfl, ⟨hs.mono fun q hq => hq.2, fun x hx => by have := ((wordsB_all t).1 x hx).2; omega⟩, hF.trans hF2 fun q hq => .inr (by rw [hq]; exact Nat.le_refl _)⟩
end Go.Proofs.YtpcdbkaeijhmfaaDoor
