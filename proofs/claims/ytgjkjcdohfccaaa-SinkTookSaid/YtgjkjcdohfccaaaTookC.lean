/- Shown: teasellaw26.SinkTook answers true for every input, and leaves its arguments as they were; no condition. -/
import Derived.Test.YtgjkjcdohfccaaaTook
import Derived.Test.YtgjkjcdohfccaaaBools
import Derived.Test.YtgjkjcdohfccaaaStr
namespace Go.Proofs.Ytgjkjcdohfccaaa
open Go.ChangeShapes Go.WideShapes Go.ChangeAt Go.RowKit
theorem Try.own : ownKnob Try.prog.godebug = none := by kernel_rfl
theorem Try.laidOut : laidOutB Try.prog = true := by kernel_rfl
theorem hit_ints : ∀ (j : Nat) (f : Field), (match Try.prog.underlying 29 with | some (.struct fs) => fs | _ => #[])[j]? = some f → Try.prog.underlying f.type = some (.int .i64) := by
  rw [Try.underlying29]
  intro j f hf
  match j, hf with
  | 0, hf => cases hf; exact Try.underlying3
  | 1, hf => cases hf; exact Try.underlying3
theorem flat_of (ds : List (List Int)) (h : ∀ d ∈ ds, d.length = 2) : ∃ l : List (Int × Int), flatI ds = flat l := by
  induction ds with
  | nil => exact ⟨[], rfl⟩
  | cons d ds ih =>
    obtain ⟨l, hl⟩ := ih fun d hd => h d (by simp [hd])
    match d, h d (by simp) with
    | [x, y], _ => exact ⟨(x, y) :: l, by rw [flatI_cons, hl, flat_cons]; rfl⟩
set_option maxRecDepth 100000 in
theorem took_lifted (os : Os) (started : os.Started) (H : Type) (enc : TypeId × Value → H) :
    ReturnsInHanded {} Try.checked os 5 .any (Rows.sinkTookSpec.pre6 enc Try.prog Try.f5 Rows.sinkTookRow.domain false) (Rows.sinkTookSpec.post enc Try.prog Try.f5 false true false false) := by
  refine returnsInHanded_of_change (C := Try.checked) Try.own started (by kernel_rfl) Try.func5
    (ChangeSpec.witness6 (enc := enc) (C := Try.checked) false ⟨#[], #[.slice none 0 0, .slice none 0 0], []⟩ 8 (by kernel_rfl) (by kernel_rfl) (by kernel_rfl) (by kernel_rfl)) ?_
  intro W base args ds gs before hval0 hW _ _
  have hval : ∀ (j : Nat) t v, Try.f5.params[j]? = some t → args[j]? = some v → Value.okWide Try.prog W .any base t v := hval0
  have hW' := hW
  obtain ⟨p, q, hA0, hV, rfl, hfz, hnd⟩ := hW
  have hA : DataW.TrodAll enc Try.prog W 0 (fun _ => true) true Try.f5.params.toList args.toList ds p := hA0
  rw [Try.params5] at hA hval
  obtain ⟨rfl, rfl⟩ := trodVars_none hV
  obtain ⟨v0, vs0, d0, ds0, p0, q0, hargs, rfl, rfl, h0, r0⟩ := trodAll_cons hA
  obtain ⟨v1, vs1, d1, ds1, p1, q1, rfl, rfl, rfl, h1, r1⟩ := trodAll_cons r0
  obtain ⟨rfl, rfl, rfl⟩ := trodAll_nil r1
  obtain rfl : args = #[v0, v1] := by cases args; simp_all
  obtain ⟨an, ha⟩ := read_bools Try.underlying22 Try.underlying4 (by kernel_rfl) (hval 0 _ v0 rfl rfl) h0
  obtain ⟨ds, hds, hs⟩ := read_int_structs Try.underlying23 Try.underlying29 (by kernel_rfl) (by kernel_rfl) (by decide) hit_ints (hval 1 _ v1 rfl rfl) h1
  obtain ⟨l, hl⟩ := flat_of ds fun d hd => (hds d hd).1
  rw [hl] at hs
  refine (took_law v0 v1 an l W ha hs).mono fun e W' ⟨hE, hF⟩ => ?_
  exact ⟨_, hE, law_post hW' rfl Try.laidOut (by kernel_rfl) rfl Try.underlying4 rfl (hF.below (Nat.le_refl _) fun _ h => h.elim)⟩
theorem took_holds : Rows.SinkTookSaid :=
  OpenClaim.holds_of_wide 5 Try.f5 rfl rfl rfl rfl rfl rfl rfl ⟨rfl, rfl, rfl, rfl, rfl⟩ rfl rfl rfl rfl rfl (by kernel_rfl) Try.func5 (by kernel_rfl)
    (of_decide_eq_true (by kernel_rfl)) (by unfold Func.isWrapper; first | (rw [if_pos (by decide +kernel)]; kernel_rfl) | (rw [if_neg (by decide +kernel)]; exact ⟨rfl, rfl⟩))
    (fun os started H enc _ => took_lifted os started H enc)
end Go.Proofs.Ytgjkjcdohfccaaa
