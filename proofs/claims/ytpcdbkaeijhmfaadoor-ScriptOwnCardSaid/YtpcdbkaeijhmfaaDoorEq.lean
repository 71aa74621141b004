/- Equal slices: bytes, booleans, integers, texts. -/
import Derived.Test.YtpcdbkaeijhmfaaDoorTx
namespace Go.Proofs.YtpcdbkaeijhmfaaDoor
set_option maxRecDepth 100000
set_option linter.unusedVariables false
set_option linter.unusedSimpArgs false
open Go.RowKit
attribute [local go_sem] Oper.semAt_some
theorem str_eq' (l l' : By) : (({ data := l.toArray } : ByteArray).toList == ({ data := l'.toArray } : ByteArray).toList) = decide (l = l') := by
  rw [ByteArray.toList_mk, ByteArray.toList_mk, Bool.eq_iff_iff, beq_iff_eq, decide_eq_true_iff]
theorem equalB_any (K : Nat → Prop) (v v' : Value) (l l' : By) (w : World) (h : Sl w K v (bv l)) (h' : Sl w K v' (bv l')) :
    Calls Tryd.prog 27 #[v, v'] w fun e w' => e = .returned (.bool (decide (l = l'))) ∧ w = w' := by
  have e1 := run_conv (P := Tryd.prog) Tryd.underlying43 Tryd.underlying5 Tryd.underlying9 h
  have e2 := run_conv (P := Tryd.prog) Tryd.underlying43 Tryd.underlying5 Tryd.underlying9 h'
  have Hs := Lib.hid (str_eq' l l')
  obtain ⟨A, n, c, rfl, -⟩ := h
  obtain ⟨A', n', c', rfl, -⟩ := h'
  generalize (⟨l.toArray⟩ : ByteArray) = S1 at *
  generalize (⟨l'.toArray⟩ : ByteArray) = S2 at *
  go_enter Tryd.func27, Tryd.ntmps27
  go_wp2_with fail
  go_ret
  exact ⟨ret_bool Hs.out, rfl⟩
theorem take_ne {α : Type} {l l' : List α} {k : Nat} (h : k < l.length) (h' : k < l'.length) (hne : l[k] ≠ l'[k]) : l ≠ l' := by
  rintro rfl
  exact hne rfl
theorem take_same {α : Type} {l l' : List α} {k : Nat} (h : k < l.length) (h' : k < l'.length) (ht : l.take k = l'.take k) (he : l[k] = l'[k]) : l.take (k + 1) = l'.take (k + 1) := by
  rw [List.take_succ_eq_append_getElem h, List.take_succ_eq_append_getElem h', ht, he]
set_option maxHeartbeats 1600000 in
theorem eqT_any (K : Nat → Prop) (v v' : Value) (l l' : List By) (w : World) (h : TxS w K v l) (h' : TxS w K v' l') :
    Calls Tryd.prog 26 #[v, v', .func (.func 27) #[] #[]] w fun e w' => e = .returned (.bool (decide (l = l'))) ∧ w = w' := by
  obtain ⟨A, c, rfl, hn1, hn2⟩ := h.form
  obtain ⟨A', c', rfl, hn1', hn2'⟩ := h'.form
  obtain ⟨n, hn⟩ : ∃ n, n = l.length := ⟨_, rfl⟩
  obtain ⟨n', hn'⟩ : ∃ n, n = l'.length := ⟨_, rfl⟩
  have hnm : n ≤ 9223372036854775807 := by omega
  have hnm' : n' ≤ 9223372036854775807 := by omega
  obtain ⟨R, hR⟩ : ∃ R, R = decide (l = l') := ⟨_, rfl⟩
  rw [← hR]
  rw [← hn] at h ⊢
  rw [← hn'] at h' ⊢
  have H := Lib.hid (And.intro h (And.intro h' (And.intro hn (And.intro hn' hR))))
  clear h h' hn1 hn2 hn1' hn2' hR
  by_cases hnn : n = n'
  · subst hnn
    have hl : ((n : Int) != (n : Int)) = false := by simp
    clear hn hn'
    go_enter Tryd.func26, Tryd.ntmps26
    go_wp2_with fail
    go_loopw [17] (fun i wr => ∃ k : Nat, k ≤ n ∧ i = .int .i64 k ∧ wr = w ∧ Hid (l.take k = l'.take k)) (fun i _ => n - (intOf i).toNat)
    case atStart => exact ⟨0, Nat.zero_le _, rfl, rfl, Lib.hid (by simp)⟩
    case round =>
      obtain ⟨k, hk, rfl, rfl, hT⟩ := hrel
      obtain ⟨h, h', hn, hn', hR⟩ := H.out
      by_cases hlt : k < n
      · have hkx : k < l.length := by omega
        have hky : k < l'.length := by omega
        obtain ⟨u, g, o, rfl, hKg, hc, hu⟩ := h.at_ k hkx
        obtain ⟨u', g', o', rfl, hKg', hc', hu'⟩ := h'.at_ k hky
        have hq := equalB_any K u u' l[k] l'[k] wr hu hu'
        obtain ⟨B, m, d, rfl, -⟩ := id hu
        obtain ⟨B', m', d', rfl, -⟩ := id hu'
        obtain ⟨z, hz⟩ : ∃ z, z = decide (l[k] = l'[k]) := ⟨_, rfl⟩
        rw [← hz] at hq
        have H1 := Lib.hid (show ∃ (a : k < l.length) (b : k < l'.length), l.take k = l'.take k ∧ R = decide (l = l') ∧ z = decide (l[k] = l'[k]) ∧ k < n from ⟨hkx, hky, hT.out, hR, hz, hlt⟩)
        clear h h' hn hn' hR hkx hky hKg hKg' hu hu' hz hT
        go_wp2_with fail
        refine hq.mono ?_
        rintro e w1 ⟨rfl, rfl⟩
        clear hq
        obtain ⟨hkx, hky, hT, hR, hz, hlt⟩ := H1.out
        cases z with
        | true =>
          have ht := take_same hkx hky hT (of_decide_eq_true hz.symm)
          have Ht := Lib.hid ht
          clear ht hkx hky hT hR hz
          go_wp2_with fail
          go_roundw
          case rel => exact ⟨k + 1, by omega, by go_num, by first | rfl | trivial, Ht⟩
          case measure => simp [intOf]; omega
        | false =>
          have hne : R = false := by rw [hR]; exact decide_eq_false (take_ne hkx hky (of_decide_eq_false hz.symm))
          have Hn := Lib.hid hne
          clear hne hkx hky hT hR hz
          go_wp2_with fail
          go_ret
          exact ⟨by rw [Hn.out]; rfl, by first | rfl | trivial⟩
      · obtain rfl : k = n := by omega
        have he : R = true := by
          rw [hR]
          refine decide_eq_true ?_
          have := hT.out
          rwa [List.take_of_length_le (by omega), List.take_of_length_le (by omega)] at this
        have He := Lib.hid he
        clear h h' hn hn' hR he
        go_wp2_with fail
        go_ret
        exact ⟨by rw [He.out]; rfl, by first | rfl | trivial⟩
  · have hl : ((n : Int) != (n' : Int)) = true := by simp; omega
    have Hn := Lib.hid (show R = false by
      obtain ⟨h, h', hn, hn', hR⟩ := H.out
      rw [hR]; exact decide_eq_false fun e => hnn (by rw [hn, hn', e]))
    clear hn hn' hnn
    go_enter Tryd.func26, Tryd.ntmps26
    go_wp2_with fail
    go_ret
    exact ⟨by rw [Hn.out]; rfl, rfl⟩
set_option maxHeartbeats 1600000 in
theorem eqBo_any (K : Nat → Prop) (v v' : Value) (l l' : List Bool) (w : World) (h : Sl w K v (bvs l)) (h' : Sl w K v' (bvs l')) :
    Calls Tryd.prog 28 #[v, v'] w fun e w' => e = .returned (.bool (decide (l = l'))) ∧ ∃ q, w' = w.drewN q := by
  obtain ⟨A, n, c, rfl, hn, hn1, hn2, hx⟩ := h
  obtain ⟨A', n', c', rfl, hn', hn1', hn2', hx'⟩ := h'
  rw [bvs, List.length_map] at hn hn'
  have hnm : n ≤ 9223372036854775807 := by omega
  have hnm' : n' ≤ 9223372036854775807 := by omega
  obtain ⟨R, hR⟩ : ∃ R, R = decide (l = l') := ⟨_, rfl⟩
  rw [← hR]
  have H := Lib.hid (And.intro hx (And.intro hx' (And.intro hn (And.intro hn' hR))))
  clear hx hx' hn1 hn2 hn1' hn2' hR hn hn'
  by_cases hnn : n = n'
  · subst hnn
    have hl : ((n : Int) != (n : Int)) = false := by simp
    go_enter Tryd.func28, Tryd.ntmps28
    go_wp2_with fail
    go_loopw [13] (fun i wr => ∃ k : Nat, k ≤ n ∧ i = .int .i64 k ∧ (∃ q, wr = w.drewN q) ∧ Hid (l.take k = l'.take k)) (fun i _ => n - (intOf i).toNat)
    case atStart => exact ⟨0, Nat.zero_le _, rfl, ⟨0, rfl⟩, Lib.hid (by simp)⟩
    case round =>
      obtain ⟨k, hk, rfl, ⟨q0, rfl⟩, hT⟩ := hrel
      obtain ⟨hx, hx', hn, hn', hR⟩ := H.out
      by_cases hlt : k < n
      · have hkx : k < l.length := by omega
        have hky : k < l'.length := by omega
        obtain ⟨g, o, rfl, hKg, hc⟩ := hx.resolve_left (by omega)
        obtain ⟨g', o', rfl, hKg', hc'⟩ := hx'.resolve_left (by omega)
        have c1 : w.cell? ⟨g, o + k, none⟩ = some (.bool l[k]) := by have := hc k (by simpa [bvs] using hkx); simp only [bvs, List.getElem_map] at this; exact this
        have c2 : w.cell? ⟨g', o' + k, none⟩ = some (.bool l'[k]) := by have := hc' k (by simpa [bvs] using hky); simp only [bvs, List.getElem_map] at this; exact this
        obtain ⟨x, hxx⟩ : ∃ x, x = l[k] := ⟨_, rfl⟩
        obtain ⟨y, hyy⟩ : ∃ y, y = l'[k] := ⟨_, rfl⟩
        rw [← hxx] at c1
        rw [← hyy] at c2
        have H1 := Lib.hid (show ∃ (a : k < l.length) (b : k < l'.length), l.take k = l'.take k ∧ R = decide (l = l') ∧ x = l[k] ∧ y = l'[k] ∧ k < n from ⟨hkx, hky, hT.out, hR, hxx, hyy, hlt⟩)
        clear hx hx' hn hn' hR hkx hky hKg hKg' hc hc' hT hxx hyy
        go_upto_region 6 with fail
        cases hz : (!(x == y)) with
        | false =>
          have Hz := Lib.hid hz
          go_region
          all_goals
            clear hz c1 c2
            obtain ⟨hkx, hky, hT, hR, hxx, hyy, hlt⟩ := H1.out
            have ht := take_same hkx hky hT (by rw [← hxx, ← hyy]; simpa using Hz.out)
            have Ht := Lib.hid ht
            clear ht hkx hky hT hR hxx hyy
            go_wp2_with fail
            exact ⟨⟨k + 1, by omega, by go_num, ⟨q0 + 1, rfl⟩, Ht⟩, by simp [intOf]; omega⟩
        | true =>
          have Hz := Lib.hid hz
          go_region
          all_goals
            clear hz c1 c2
            obtain ⟨hkx, hky, hT, hR, hxx, hyy, hlt⟩ := H1.out
            have hne : R = false := by rw [hR]; exact decide_eq_false (take_ne hkx hky (by rw [← hxx, ← hyy]; simpa using Hz.out))
            have Hn := Lib.hid hne
            clear hne hkx hky hT hR hxx hyy
            go_wp2_with fail
            go_ret
            exact ⟨by rw [Hn.out]; rfl, q0 + 1, rfl⟩
      · obtain rfl : k = n := by omega
        have he : R = true := by
          rw [hR]
          refine decide_eq_true ?_
          have := hT.out
          rwa [List.take_of_length_le (by omega), List.take_of_length_le (by omega)] at this
        have He := Lib.hid he
        clear hx hx' hn hn' hR he
        go_wp2_with fail
        go_ret
        exact ⟨by rw [He.out]; rfl, q0, rfl⟩
  · have hl : ((n : Int) != (n' : Int)) = true := by simp; omega
    have Hn := Lib.hid (show R = false by
      obtain ⟨h, h', hn, hn', hR⟩ := H.out
      rw [hR]; exact decide_eq_false fun e => hnn (by rw [hn, hn', e]))
    clear hnn
    go_enter Tryd.func28, Tryd.ntmps28
    go_wp2_with fail
    go_ret
    exact ⟨by rw [Hn.out]; rfl, 0, rfl⟩
theorem eqI_any (K : Nat → Prop) (v v' : Value) (l l' : List Int) (w : World) (h : Sl w K v (ivs l)) (h' : Sl w K v' (ivs l')) :
    Calls Tryd.prog 29 #[v, v'] w fun e w' => e = .returned (.bool (decide (l = l'))) ∧ ∃ q, w' = w.drewN q := by
  obtain ⟨A, n, c, rfl, hn, hn1, hn2, hx⟩ := h
  obtain ⟨A', n', c', rfl, hn', hn1', hn2', hx'⟩ := h'
  rw [ivs, List.length_map] at hn hn'
  by_cases hnn : n = n'
  · subst hnn
    by_cases h0 : n = 0
    · subst h0
      refine (Tryd.slices_Equal_int_empty A A' c 0 c' w (by omega)).mono ?_
      rintro e w' ⟨rfl, rfl⟩
      rw [List.eq_nil_of_length_eq_zero hn.symm, List.eq_nil_of_length_eq_zero hn'.symm]
      exact ⟨rfl, 0, rfl⟩
    · obtain ⟨g, o, rfl, -, hc⟩ := hx.resolve_left h0
      obtain ⟨g', o', rfl, -, hc'⟩ := hx'.resolve_left h0
      have key : ∀ (ns : List Int) (g o : Nat), (∀ i (hi : i < (ivs ns).length), w.cell? ⟨g, o + i, none⟩ = some (ivs ns)[i]) → ∀ j, j < ns.length → w.cell? ⟨g, o + j, none⟩ = some (.int .i64 (ns.getD j 0)) := fun ns g o hc j hj => by
        rw [hc j (by simpa [ivs] using hj)]
        simp [ivs, hj]
      refine (Tryd.slices_Equal_int g o n c g' o' n c' l l' w (by omega) (by omega) (by omega) (by omega) (key l g o hc) (key l' g' o' hc')).mono ?_
      rintro e w' ⟨rfl, q, rfl⟩
      refine ⟨?_, q, rfl⟩
      rw [List.take_of_length_le (by omega), List.take_of_length_le (by omega)]
      congr 2
      rw [Bool.eq_iff_iff, beq_iff_eq, decide_eq_true_iff]
  · refine (Tryd.slices_Equal_int_lens A A' n c n' c' w hnn).mono ?_
    rintro e w' ⟨rfl, rfl⟩
    refine ⟨?_, 0, rfl⟩
    rw [decide_eq_false fun e => hnn (by rw [hn, hn', e])]
end Go.Proofs.YtpcdbkaeijhmfaaDoor
