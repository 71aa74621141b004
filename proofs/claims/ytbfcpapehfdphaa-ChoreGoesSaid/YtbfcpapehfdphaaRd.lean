/- A region that draws, within a round of the widest fence, by a plan for one without. -/
import Derived.Test.YtbfcpapehfdphaaOr
import Derived.RangeFuncNested
import Derived.TacticsInMore
namespace Go.Proofs.Ytbfcpapehfdphaa
theorem opIn_of_wp {P : Program} {l n : Nat} {o : Oper} {a : Act} {w : World} {K1 K2 : Act → World → Prop} {Q : Exit → Act → World → Prop} (hd : ∀ c, o.op ≠ .defer c) (hK : ∀ a w, K1 a w → K2 a w) (h : o.wp P a w K1 (fun _ _ _ => False)) : o.wpIn (Fence.wide.inRound l) n P a w K2 Q := by
  refine ⟨fun _ _ => trivial, ?_⟩
  show o.uponIn (Fence.wide.inRound l) n P a K2 Q ((o.semAt (some l) a.eval).run P w)
  rw [Oper.semAt_some l a.eval o hd]
  unfold Oper.wp at h
  generalize (execOp a.eval o).run P w = r at *
  cases r with
  | ok x w' =>
    cases x with
    | value v => exact hK _ _ h
    | skip => exact hK _ _ h
    | defer d => exact hK _ _ h
    | enter f args =>
      refine ⟨fun h => (by cases h), CallsIn.inRound l (callsIn_wide.2 (Calls.mono h ?_))⟩
      intro e w'' he
      cases e with
      | returned v => exact hK _ _ he
      | panicked c => exact he.elim
      | outgrown => exact he.elim fun _ h => h.elim fun _ h => h.elim
    | row row args =>
      refine ⟨fun h => (by cases h), fun c cs _ => ?_⟩
      obtain ⟨v, w2, r, s⟩ := h c cs
      exact ⟨v, w2, hK _ _ r, stepsIn_wide.2 s⟩
    | round => exact h.elim
    | _ => exact h.elim
  | halt x w' => cases x <;> exact h.elim
theorem opIn_any {P : Program} {ops : Array Oper} {l n i : Nat} {a : Act} {w : World} {K K1 K2 : Act → World → Prop} {Q : Exit → Act → World → Prop} (hd : ∀ (i : Nat) (o : Oper), ops[i]? = some o → ∀ c : Call, o.op ≠ .defer c) (hK : ∀ a w, K1 a w → K2 a w)
    (h : wpOp P ops (Exit.then K (fun _ _ _ => False)) i K1 a w) : wpOpIn (Fence.wide.inRound l) n P ops (Exit.then K Q) i K2 a w := by
  unfold wpOp at h
  unfold wpOpIn
  cases ho : ops[i]? with
  | none => simp only [ho] at h; exact hK _ _ h
  | some o =>
    simp only [ho] at h ⊢
    split
    · rename_i hw
      rw [if_pos hw] at h
      rcases h with h | ⟨-, b, w1, h⟩
      · exact opIn_of_wp (hd i o ho) hK h
      · exact h.elim
    · rename_i hw
      rw [if_neg hw] at h
      exact ⟨fun _ _ => trivial, hK _ _ h⟩
theorem anyIn_of_any {P : Program} {md : Region.Mode} {ops : Array Oper} {l n : Nat} {K : Act → World → Prop} {Q : Exit → Act → World → Prop} (hd : ∀ (i : Nat) (o : Oper), ops[i]? = some o → ∀ c : Call, o.op ≠ .defer c) : ∀ (f : Nat) (listed : Array Bool) (a : Act) (w : World),
    wpAny P md ops (Exit.then K (fun _ _ _ => False)) f listed a w → wpAnyIn (Fence.wide.inRound l) n P md ops (Exit.then K Q) f listed a w
  | 0, _, _, _, h => h
  | f + 1, _, _, _, h => ⟨h.1, fun i hi => opIn_any hd (fun a w => anyIn_of_any hd f _ a w) (h.2 i hi)⟩
theorem wpIn_region_of {P : Program} {id l n : Nat} {ls : List Oper} {a : Act} {w : World} {K : Act → World → Prop} {Q : Exit → Act → World → Prop} (hm : P.follows .mixedOrders = true) (hd : (ls.all fun o => match o.op with | .defer _ => false | _ => true) = true)
    (N : Nat) (hn : N = ls.toArray.size) (listed : Array Bool) (hl : listed = Array.replicate N false) (h : wpAny P .any ls.toArray (Exit.then K (fun _ _ _ => False)) N listed a w.drew) : (Code.region id ls.toArray true).wpIn (Fence.wide.inRound l) n P (Exit.then K Q) a w := by
  subst hn hl
  refine wpIn_region_any hm (anyIn_of_any (fun i o ho c hc => ?_) _ _ _ _ h)
  have hmem : o ∈ ls := by
    have := Array.mem_of_getElem? ho
    simpa using this
  have := List.all_eq_true.1 hd o hmem
  rw [hc] at this
  cases this
theorem wpIn_region_last {P : Program} {id l n : Nat} {ls : List Oper} {a : Act} {w : World} {Q : Exit → Act → World → Prop} (hm : P.follows .mixedOrders = true) (hd : (ls.all fun o => match o.op with | .defer _ => false | _ => true) = true)
    (N : Nat) (hn : N = ls.toArray.size) (listed : Array Bool) (hl : listed = Array.replicate N false) (h : wpAny P .any ls.toArray (Exit.then (Q .normal) (fun _ _ _ => False)) N listed a w.drew) : (Code.region id ls.toArray true).wpIn (Fence.wide.inRound l) n P Q a w :=
  wpIn_mono (wpIn_region_of (Q := fun _ _ _ => False) hm hd N hn listed hl h) (by intro e a w h; cases e <;> first | exact h | exact h.elim)
end Go.Proofs.Ytbfcpapehfdphaa
