/- What 'behind' makes of a story. -/
import Derived.Test.YtpcdbkaeijhmfaaDoorWl
namespace Go.Proofs.YtpcdbkaeijhmfaaDoor
set_option maxRecDepth 100000
set_option linter.unusedVariables false
set_option linter.unusedSimpArgs false
open Go.RowKit
theorem beh_word {b : Nat} {st : St} {wv rv av pv : Value} {r : Option By} {w w' : World} {e : Ending} (hB : Blk w b 60 (stCells st wv rv av pv)) (hL : Lsts w (b + 1) st wv rv av pv) (h : BehPost b 1 (b + 1) wv st.words r w e w') : LinePost b (r.map fun t => { st with words := st.words ++ [t] }) w e w' := by
  obtain ⟨rfl, h1, h2⟩ := h
  cases r with
  | none => exact LinePost.no rfl (StT.of_frm (h1 rfl) hB.lt)
  | some t =>
    obtain ⟨v', w3, rfl, ht, hF, hat⟩ := h2 t rfl
    obtain ⟨vs, k1, k2, k3⟩ := id hL.words
    have hwb : ¬ wv.ownBlock = some b := own_blk_ne k1 hB (by decide)
    have hB3 := hB.kept hF hwb
    have hty : ∀ q cs, Blk w q 5 cs → ¬ wv.ownBlock = some q := fun q cs hc => own_blk_ne k1 hc (by decide)
    have hr3 := hL.reads.kept hF (fun q hq hk => hL.apart q hk hq) hty
    have ha3 := hF.own hL.answers fun q hq hk => own_apart k1 hL.answers (by decide) hq hk
    have hp3 := hF.own hL.picks fun q hq hk => own_apart k1 hL.picks (by decide) hq hk
    have hL3 : Lsts w3 (b + 1) { st with words := st.words ++ [t] } v' rv av pv := ⟨ht, hr3, ha3, hp3, fun q hq hk => by
      rcases hat with h | h
      · exact hL.apart q (h ▸ hq) hk
      · have := h q hq; have := (hL.reads.lt q hk).2; omega⟩
    exact LinePost.yes rfl (StT.turn (v := wv) (.inl rfl) hB rfl hF hwb hat) ⟨v', rv, av, pv, hB3.set_ 1 _, hL3.set_ hB3⟩
theorem beh_read {b : Nat} {st : St} {wv rv av pv : Value} {r : Option By} {w w' : World} {e : Ending} (hB : Blk w b 60 (stCells st wv rv av pv)) (hL : Lsts w (b + 1) st wv rv av pv) (h : BehPost b 10 (b + 1) rv st.reads r w e w') : LinePost b (r.map fun t => { st with reads := st.reads ++ [t] }) w e w' := by
  obtain ⟨rfl, h1, h2⟩ := h
  cases r with
  | none => exact LinePost.no rfl (StT.of_frm (h1 rfl) hB.lt)
  | some t =>
    obtain ⟨v', w3, rfl, ht, hF, hat⟩ := h2 t rfl
    obtain ⟨vs, k1, k2, k3⟩ := id hL.reads
    have hwb : ¬ rv.ownBlock = some b := own_blk_ne k1 hB (by decide)
    have hB3 := hB.kept hF hwb
    have hty : ∀ q cs, Blk w q 5 cs → ¬ rv.ownBlock = some q := fun q cs hc => own_blk_ne k1 hc (by decide)
    have hw3 := hL.words.kept hF (fun q hq hk => hL.apart q hq hk) hty
    have ha3 := hF.own hL.answers fun q hq hk => own_apart k1 hL.answers (by decide) hq hk
    have hp3 := hF.own hL.picks fun q hq hk => own_apart k1 hL.picks (by decide) hq hk
    have hL3 : Lsts w3 (b + 1) { st with reads := st.reads ++ [t] } wv v' av pv := ⟨hw3, ht, ha3, hp3, fun q hq hk => by
      rcases hat with h | h
      · exact hL.apart q hq (h ▸ hk)
      · have := h q hk; have := (hL.words.lt q hq).2; omega⟩
    exact LinePost.yes rfl (StT.turn (v := rv) (.inr (.inl rfl)) hB rfl hF hwb hat) ⟨wv, v', av, pv, hB3.set_ 10 _, hL3.set_ hB3⟩
theorem wordB_one (st : St) (ws : List By) : wordB st ws = (oneTx ws).map fun t => { st with words := st.words ++ [t] } := by
  match ws with
  | [] => rfl
  | [_] => rfl
  | _ :: _ :: _ => rfl
theorem readB_one (st : St) (ws : List By) : readB st ws = (oneTx ws).map fun t => { st with reads := st.reads ++ [t] } := by
  match ws with
  | [] => rfl
  | [_] => rfl
  | _ :: _ :: _ => rfl
theorem numsB_len : ∀ (ws : List By) (ns : List Int), numsB ws = some ns → ns.length = ws.length
  | [], ns, h => by cases h; rfl
  | w :: r, ns, h => by
    rw [numsB] at h
    cases hw : numB w with
    | none => rw [hw] at h; cases h
    | some n =>
      rw [hw] at h
      cases hr : numsB r with
      | none => rw [hr] at h; cases h
      | some l =>
        rw [hr] at h
        cases h
        have := numsB_len r l hr
        simp [this]
/-- How many things a story lists. -/
def totS (st : St) : Nat := st.words.length + st.reads.length + st.answers.length + st.picks.length
theorem LinePost.first {b : Nat} {r : Option St} {w w1 w' : World} {e : Ending} (h : LinePost b r w1 e w') (hT : StT b w w1) : LinePost b r w e w' := ⟨h.1, hT.trans h.2.1, h.2.2⟩
end Go.Proofs.YtpcdbkaeijhmfaaDoor
