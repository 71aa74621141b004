/- Shown: teasellaw19.BlockTells answers true for every input of bulk at most 1048576, and leaves its arguments as they were; no other condition. -/
import Derived.Test.YtecpbnkkgdppoaaTells
import Derived.Test.YtecpbnkkgdppoaaUb
import Derived.Test.YtecpbnkkgdppoaaLaw
import Derived.JoinedCond
namespace Go.Proofs.Ytecpbnkkgdppoaa
open Go.ChangeShapes Go.WideShapes Go.ChangeAt Go.RowKit
theorem Try.own : ownKnob Try.prog.godebug = none := by kernel_rfl
theorem Try.laidOut : laidOutB Try.prog = true := by kernel_rfl
theorem tells_contract (H : Type) (enc : TypeId × Value → H) (W : World) (base : Nat) (args : Array Value) (ds gs : List (DataW H)) (before : List MemPlace)
    (hval0 : ∀ (j : Nat) t v, Try.f3.params[j]? = some t → args[j]? = some v → Value.okWide Try.prog W .any base t v)
    (hW : DataW.Whole enc Try.prog Try.f3.params.toList Rows.blockTellsSpec.vars false W args.toList ds gs before) (hk : Rows.uptoSmall H (ds ++ gs) = true) :
    Calls Try.prog 3 args W fun e W' => ∃ v, e = .returned v ∧ Rows.blockTellsSpec.post enc Try.prog Try.f3 false true false false W args v W' := by
  have hval : ∀ (j : Nat) t v, Try.f3.params[j]? = some t → args[j]? = some v → Value.okWide Try.prog W .any base t v := hval0
  have hW' := hW
  obtain ⟨p, q, hA0, hV, rfl, hfz, hnd⟩ := hW
  have hA : DataW.TrodAll enc Try.prog W 0 (fun _ => true) true Try.f3.params.toList args.toList ds p := hA0
  rw [Try.params3] at hA hval
  obtain ⟨rfl, rfl⟩ := trodVars_none hV
  obtain ⟨v0, vs0, d0, ds0, p0, q0, hargs, rfl, rfl, h0, r0⟩ := trodAll_cons hA
  obtain ⟨v1, vs1, d1, ds1, p1, q1, rfl, rfl, rfl, h1, r1⟩ := trodAll_cons r0
  obtain ⟨v2, vs2, d2, ds2, p2, q2, rfl, rfl, rfl, h2, r2⟩ := trodAll_cons r1
  obtain ⟨v3, vs3, d3, ds3, p3, q3, rfl, rfl, rfl, h3, r3⟩ := trodAll_cons r2
  obtain ⟨v4, vs4, d4, ds4, p4, q4, rfl, rfl, rfl, h4, r4⟩ := trodAll_cons r3
  obtain ⟨v5, vs5, d5, ds5, p5, q5, rfl, rfl, rfl, h5, r5⟩ := trodAll_cons r4
  obtain ⟨v6, vs6, d6, ds6, p6, q6, rfl, rfl, rfl, h6, r6⟩ := trodAll_cons r5
  obtain ⟨rfl, rfl, rfl⟩ := trodAll_nil r6
  obtain rfl : args = #[v0, v1, v2, v3, v4, v5, v6] := by cases args; simp_all
  obtain ⟨m0, rfl, hm0⟩ := read_int Try.underlying3 (hval 0 _ v0 rfl rfl) h0
  obtain ⟨m1, rfl, hm1⟩ := read_int Try.underlying3 (hval 1 _ v1 rfl rfl) h1
  obtain ⟨m2, rfl, hm2⟩ := read_int Try.underlying3 (hval 2 _ v2 rfl rfl) h2
  obtain ⟨t, ht⟩ := read_bytes Try.underlying22 Try.underlying5 (by kernel_rfl) (hval 3 _ v3 rfl rfl) h3
  obtain ⟨A3, n3, c3, rfl, _⟩ := id ht
  obtain ⟨vs, L, hs, he⟩ := read_rows Try.underlying23 Try.underlying22 Try.underlying5 (by kernel_rfl) (by kernel_rfl) (hval 4 _ v4 rfl rfl) h4
  obtain ⟨A4, n4, c4, rfl, _⟩ := id hs
  obtain ⟨A5, n5, c5, bs, rfl, hbs⟩ := read_blocks (hval 5 _ v5 rfl rfl) h5
  obtain ⟨m6, rfl, hm6⟩ := read_int Try.underlying3 (hval 6 _ v6 rfl rfl) h6
  have hbk := bulk_blocks h5 hbs
  have hk2 : Rows.uptoBulkAll _ ≤ 1048576 := of_decide_eq_true hk
  simp only [List.append_nil, Rows.uptoBulkAll] at hk2
  refine (tells_any m0 m1 m2 m6 A3 A4 A5 n3 c3 n4 c4 n5 c5 t vs L bs W ht hs he hbs (by omega)).mono fun e W' ⟨hE, hF⟩ => ?_
  exact ⟨_, hE, law_post hW' rfl Try.laidOut (by kernel_rfl) rfl Try.underlying4 rfl (hF.below (Nat.le_refl _) fun _ h => h.elim)⟩
set_option maxRecDepth 100000 in
theorem tells_lifted (os : Os) (started : os.Started) (H : Type) (enc : TypeId × Value → H) (F : Stop.Interp) :
    ReturnsInHanded {} Try.checked os 3 .any ((Rows.OpenSpec.upto Rows.blockTellsSpec).pre6 enc Try.prog Try.f3 Rows.blockTellsUptoRow.domain false) (((Rows.OpenSpec.upto Rows.blockTellsSpec).at F).post enc Try.prog Try.f3 false true false false) := by
  refine returnsInHanded_of_cond (C := Try.checked) (s := Rows.OpenSpec.upto Rows.blockTellsSpec) (k := Rows.uptoSmall) rfl Try.own started (by kernel_rfl) Try.func3
    (OpenSpec.witness (enc := enc) (C := Try.checked) (s := Rows.OpenSpec.upto Rows.blockTellsSpec) (k := Rows.uptoSmall) rfl false ⟨#[], #[.int .i64 0, .int .i64 0, .int .i64 0, .slice none 0 0, .slice none 0 0, .slice none 0 0, .int .i64 0], []⟩ 8 (by kernel_rfl) (by kernel_rfl) (by kernel_rfl)
      (x := ([.lit (.int .i64 0), .lit (.int .i64 0), .lit (.int .i64 0), .nil, .nil, .nil, .lit (.int .i64 0)], [], [])) (by kernel_rfl) rfl (by kernel_rfl)) ?_
  intro W base args ds gs before hval hW _ hk _
  exact tells_contract H enc W base args ds gs before hval hW hk
theorem tells_holds : Rows.BlockTellsUptoSaid :=
  OpenClaim.holds_of_cond 3 Try.f3 rfl rfl rfl rfl rfl rfl rfl ⟨rfl, rfl, rfl, rfl, rfl⟩ rfl rfl rfl rfl rfl (by kernel_rfl) Try.func3 (by kernel_rfl)
    (of_decide_eq_true (by kernel_rfl)) (by unfold Func.isWrapper; first | (rw [if_pos (by decide +kernel)]; kernel_rfl) | (rw [if_neg (by decide +kernel)]; exact ⟨rfl, rfl⟩))
    (fun os started H enc _ F => tells_lifted os started H enc F)
end Go.Proofs.Ytecpbnkkgdppoaa
