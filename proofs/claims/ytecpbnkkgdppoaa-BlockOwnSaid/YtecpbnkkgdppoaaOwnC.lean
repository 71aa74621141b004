/- Shown: teasellaw19.BlockOwn answers true for every input, and leaves its arguments as they were; no condition. -/
import Derived.Test.YtecpbnkkgdppoaaOwn
import Derived.Test.YtecpbnkkgdppoaaLaw
namespace Go.Proofs.Ytecpbnkkgdppoaa
open Go.ChangeShapes Go.WideShapes Go.ChangeAt Go.RowKit
theorem Try.own : ownKnob Try.prog.godebug = none := by kernel_rfl
theorem Try.laidOut : laidOutB Try.prog = true := by kernel_rfl
set_option maxRecDepth 100000 in
theorem own_lifted (os : Os) (started : os.Started) (H : Type) (enc : TypeId × Value → H) :
    ReturnsInHanded {} Try.checked os 7 .any (Rows.blockOwnSpec.pre6 enc Try.prog Try.f7 Rows.blockOwnRow.domain false) (Rows.blockOwnSpec.post enc Try.prog Try.f7 false true false false) := by
  refine returnsInHanded_of_change (C := Try.checked) Try.own started (by kernel_rfl) Try.func7
    (ChangeSpec.witness6 (enc := enc) (C := Try.checked) false ⟨#[], #[.int .i64 0, .int .i64 0, .int .i64 0, .slice none 0 0], []⟩ 8 (by kernel_rfl) (by kernel_rfl) (by kernel_rfl) (by kernel_rfl)) ?_
  intro W base args ds gs before hval0 hW _ _
  have hval : ∀ (j : Nat) t v, Try.f7.params[j]? = some t → args[j]? = some v → Value.okWide Try.prog W .any base t v := hval0
  have hW' := hW
  obtain ⟨p, q, hA0, hV, rfl, hfz, hnd⟩ := hW
  have hA : DataW.TrodAll enc Try.prog W 0 (fun _ => true) true Try.f7.params.toList args.toList ds p := hA0
  rw [Try.params7] at hA hval
  obtain ⟨rfl, rfl⟩ := trodVars_none hV
  obtain ⟨v0, vs0, d0, ds0, p0, q0, hargs, rfl, rfl, h0, r0⟩ := trodAll_cons hA
  obtain ⟨v1, vs1, d1, ds1, p1, q1, rfl, rfl, rfl, h1, r1⟩ := trodAll_cons r0
  obtain ⟨v2, vs2, d2, ds2, p2, q2, rfl, rfl, rfl, h2, r2⟩ := trodAll_cons r1
  obtain ⟨v3, vs3, d3, ds3, p3, q3, rfl, rfl, rfl, h3, r3⟩ := trodAll_cons r2
  obtain ⟨rfl, rfl, rfl⟩ := trodAll_nil r3
  obtain rfl : args = #[v0, v1, v2, v3] := by cases args; simp_all
  obtain ⟨m0, rfl, hm0⟩ := read_int Try.underlying3 (hval 0 _ v0 rfl rfl) h0
  obtain ⟨m1, rfl, hm1⟩ := read_int Try.underlying3 (hval 1 _ v1 rfl rfl) h1
  obtain ⟨m2, rfl, hm2⟩ := read_int Try.underlying3 (hval 2 _ v2 rfl rfl) h2
  obtain ⟨ys3, hd3⟩ := read_bytes Try.underlying22 Try.underlying5 (by kernel_rfl) (hval 3 _ v3 rfl rfl) h3
  obtain ⟨A3, n3, c3, rfl, _⟩ := id hd3
  refine (bown_any m0 m1 m2 A3 n3 c3 ys3 W hd3).mono fun e W' ⟨hE, hF⟩ => ?_
  exact ⟨_, hE, law_post hW' rfl Try.laidOut (by kernel_rfl) rfl Try.underlying4 rfl (hF.below (Nat.le_refl _) fun _ h => h.elim)⟩
theorem own_holds : Rows.BlockOwnSaid :=
  OpenClaim.holds_of_wide 7 Try.f7 rfl rfl rfl rfl rfl rfl rfl ⟨rfl, rfl, rfl, rfl, rfl⟩ rfl rfl rfl rfl rfl (by kernel_rfl) Try.func7 (by kernel_rfl)
    (of_decide_eq_true (by kernel_rfl)) (by unfold Func.isWrapper; first | (rw [if_pos (by decide +kernel)]; kernel_rfl) | (rw [if_neg (by decide +kernel)]; exact ⟨rfl, rfl⟩))
    (fun os started H enc _ => own_lifted os started H enc)
end Go.Proofs.Ytecpbnkkgdppoaa
