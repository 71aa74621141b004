/- The walk of teasellaw26.SinkTells. -/
import Derived.Test.YtgjkjcdohfccaaaWk
import Derived.Test.YtgjkjcdohfccaaaPl
namespace Go.Proofs.Ytgjkjcdohfccaaa
open Go.RowKit
theorem SlZ.take2 {w : World} {K : Nat → Prop} {A : Option Addr} {N c k : Nat} {l : List (Int × Int)} (h : SlZ w K 2 (.slice A N c) (flat l)) (hk : k ≤ N) : SlZ w K 2 (.slice A k c) (flat (l.take k)) := by
  obtain ⟨A', n, c', hv, hn, hc, hm, hx⟩ := h
  cases hv
  rw [flat_length] at hn
  have hft : flat (l.take k) = (flat l).take (k * 2) := by
    have h1 : flat l = flat (l.take k) ++ flat (l.drop k) := by rw [← flat_append, List.take_append_drop]
    rw [h1, List.take_left' (by rw [flat_length, List.length_take]; omega)]
  refine ⟨A, k, c, rfl, by rw [flat_length, List.length_take]; omega, by omega, hm, ?_⟩
  by_cases hk0 : k = 0
  · exact .inl hk0
  · obtain ⟨g, o, rfl, hK, hx⟩ := hx.resolve_left (by omega)
    refine .inr ⟨g, o, rfl, hK, fun i hi => ?_⟩
    have hi' : i < (flat l).length := by rw [hft, List.length_take] at hi; omega
    rw [hx i hi']
    simp [hft]
set_option maxRecDepth 100000 in
set_option maxHeartbeats 4000000 in
theorem tells_any (va vl : Value) (an : List Bool) (l : List (Int × Int)) (w : World) (h : Sl w (fun k => k < w.heap.size) va (bvs an)) (h' : SlZ w (fun k => k < w.heap.size) 2 vl (flat l)) :
    Calls Try.prog 3 #[va, vl] w fun e w' => e = .returned (.bool true) ∧ Frm (fun _ => False) w w' := by
  obtain ⟨A, n, c, rfl, hn, hc, hm, hx⟩ := id h
  obtain ⟨A2, m, c2, rfl, hn2, hc2, hm2, hx2⟩ := h'.hits
  rw [bvs_length] at hn
  have H := Lib.hid (And.intro h (And.intro h' (And.intro hn (And.intro hn2 hx2))))
  clear h h' hn hx hn2 hx2
  by_cases h40 : (40 : Int) < n
  · go_enter Try.func3, Try.ntmps3
    go_wp2_with fail
    refine (wakes_any w).mono ?_
    rintro e w' ⟨rfl, hF⟩
    go_wp2_with fail
    go_ret
    exact ⟨rfl, hF⟩
  by_cases h100 : (100 : Int) < m
  · go_enter Try.func3, Try.ntmps3
    go_wp2_with fail
    refine (wakes_any w).mono ?_
    rintro e w' ⟨rfl, hF⟩
    go_wp2_with fail
    go_ret
    exact ⟨rfl, hF⟩
  have hnew := new_eq H.out.1 (fun _ h => h) (by have := H.out.2.2.1; omega)
  have Hnew := Lib.hid hnew
  clear hnew
  go_enter Try.func3, Try.ntmps3
  go_wp2_with fail
  refine Hnew.out.mono ?_
  rintro e w1 ⟨b, a, B, rfl, hS, hF, hB, ha⟩
  have HB := Lib.hid (And.intro hB ha)
  have HS := Lib.hid (And.intro hS hF)
  clear hS hF hB ha Hnew
  go_wp2_with fail
  go_loopw [6] (fun i wr => ∃ k : Nat, ∃ g, k ≤ m ∧ i = .int .i64 k ∧ Hid (SAt wr B b a g an (tkL an (l.take k)) k ∧ Frm (fun _ => False) w wr)) (fun i _ => m - (intOf i).toNat)
  case atStart => exact ⟨0, none, Nat.zero_le _, rfl, Lib.hid HS.out⟩
  case round =>
    obtain ⟨k, g, hk, rfl, hrel⟩ := hrel
    by_cases hlt : k < m
    · obtain ⟨ga, o, rfl, hga, hcs⟩ := H.out.2.2.2.2.resolve_left (by omega)
      have hkl : k < l.length := by have := H.out.2.2.2.1; omega
      obtain ⟨q0, q1⟩ := hcs k hkl
      have c0 := hrel.out.2.cell q0 id
      have c1 := hrel.out.2.cell q1 id
      have hts : l.take (k + 1) = l.take k ++ [l[k]] := List.take_succ_eq_append_getElem hkl
      have htk := tkL_snoc an (l.take k) l[k]
      rw [← hts, List.length_take, Nat.min_eq_left (by omega)] at htk
      have hsl := H.out.2.1.take2 (k := k + 1) (by omega)
      generalize hlk : l[k] = p at *
      obtain ⟨x, y⟩ := p
      have ho := offer_eq (x := x) (y := y) (s := says an k) hrel.out.1 (by omega) rfl htk.symm
      have Ho := Lib.hid (And.intro ho hsl)
      have hcut : ∀ W, (Instr.slice 23 (.slice (some ⟨ga, o, none⟩) m c2) none (some (.int .i64 ((k : Int) + 1))) none).run Try.prog W = .ok (.slice (some ⟨ga, o, none⟩) (k + 1) c2) W := fun W => by
        have := run_take (P := Try.prog) Try.underlying23 (fun w => Try.sizeOf29 w) (some ⟨ga, o, none⟩) m c2 (k + 1) (by omega) (by omega) W
        simpa using this
      clear q0 q1 hcs hts htk hsl hlk ho
      dsimp only at c0 c1
      generalize hsk : says an k = s at *
      go_wp2_with fail
      refine Ho.out.1.mono ?_
      rintro e w2 ⟨rfl, g', hS2, hg', hF2⟩
      have hF3 := offer_frm hrel.out.1 HB.out.1 hrel.out.2 hF2
      have H2 := Lib.hid (And.intro hS2 hF3)
      clear hS2 hg' hF2 hF3 c0 c1
      go_wp2_with fail
      refine (says_walk (fun k => k < w.heap.size) _ an k w2 (H.out.1.keptTo fun q hq => ⟨H2.out.2.block q hq id, hq⟩) (by omega) (by have := H.out.2.2.1; omega)).mono ?_
      rintro e w' ⟨rfl, rfl⟩
      rw [hsk]
      clear hsk
      have hss : (s != s) = false := by simp
      go_wp2_with fail
      refine (offers_any _ _ _ _ _ _ _ _ H2.out.1).mono ?_
      rintro e w' ⟨rfl, rfl⟩
      have hkk : (((k + 1 : Nat) : Int) != (k : Int) + 1) = false := by simp
      have htl : (l.take (k + 1)).length = k + 1 := by rw [List.length_take]; omega
      have hrt := rtook_any (fun k => k < w.heap.size) (fun k => k < w.heap.size) _ _ an (l.take (k + 1)) w2 (H.out.1.keptTo fun q hq => ⟨H2.out.2.block q hq id, hq⟩) (Ho.out.2.keptTo fun q hq => ⟨H2.out.2.block q hq id, hq⟩) (fun q hq => Nat.lt_of_lt_of_le hq H2.out.2.size) (fun q hq => Nat.lt_of_lt_of_le hq H2.out.2.size) (by have := H.out.2.2.1; omega) (by omega)
      unfold TookPost at hrt
      rw [htl] at hrt
      have Hrt := Lib.hid hrt
      clear hrt htl hkk hss
      go_wp2_with fail
      refine Hrt.out.mono ?_
      rintro e w3 ⟨v, rfl, hv, hF⟩
      have H3 := Lib.hid (And.intro (H2.out.1.keptF hF) (H2.out.2.trans hF (fun _ h => h.elim)))
      obtain ⟨A3, c3, rfl, _, _⟩ := own_form hv
      have Hv := Lib.hid (And.intro hv hF)
      clear hv hF Hrt hcut
      generalize hd : (((k + 1 - (tkL an (l.take (k + 1))).length : Nat)) : Int) = d
      go_wp2_with fail
      refine (took_any _ _ _ _ _ _ _ _ H3.out.1).mono ?_
      rintro e w4 ⟨v4, rfl, hv4, hF⟩
      have H4 := Lib.hid (And.intro (H3.out.1.keptF hF) (H3.out.2.trans hF (fun _ h => h.elim)))
      obtain ⟨A4, c4, rfl, _, _⟩ := own_form hv4
      have hv' := hF.own Hv.out.1 (fun _ _ => id)
      have Hv4 := Lib.hid (And.intro hv4 hv')
      clear hv4 hF hv' H3 Hv
      go_wp2_with fail
      refine (same_any _ _ _ _ (tkL an (l.take (k + 1))) (tkL an (l.take (k + 1))) _ (SlZ.of_own (K := fun _ => True) Hv4.out.1 (fun _ _ => trivial)) (SlZ.of_own (K := fun _ => True) Hv4.out.2 (fun _ _ => trivial))).mono ?_
      rintro e w' ⟨rfl, q, rfl⟩
      rw [show decide (tkL an (l.take (k + 1)) = tkL an (l.take (k + 1))) = true from by simp]
      have H5 := Lib.hid (And.intro (H4.out.1.keptF ((Frm.refl _ _).drewN q)) (H4.out.2.drewN q))
      generalize w4.drewN q = w5 at *
      clear H4 Hv4
      go_wp2_with fail
      refine (refused_any _ _ _ _ _ _ _ _ H5.out.1).mono ?_
      rintro e w' ⟨rfl, q2, rfl⟩
      have H6 := Lib.hid (And.intro (H5.out.1.keptF ((Frm.refl _ _).drewN q2)) (H5.out.2.drewN q2))
      generalize w5.drewN q2 = w6 at *
      rw [hd]
      have hdd : (d != d) = false := by simp
      clear hd H5 H2
      go_wp2_with fail
      go_roundw
      case rel => exact ⟨k + 1, g', by omega, by go_num, H6⟩
      case measure => simp [intOf]; omega
    · obtain rfl : k = m := by omega
      have hw1 := within_any (fun k => k < w.heap.size) _ an wr (H.out.1.keptTo fun q hq => ⟨hrel.out.2.block q hq id, hq⟩) (fun q hq => Nat.lt_of_lt_of_le hq hrel.out.2.size) (by have := H.out.2.2.1; omega)
      have hw2 := fun w2 (hF : Frm (fun _ => False) w w2) => rWithin_any (fun k => k < w.heap.size) _ an w2 (H.out.1.keptTo fun q hq => ⟨hF.block q hq id, hq⟩) (by have := H.out.2.2.1; omega)
      unfold WinPost at hw1
      rw [win_agree] at hw1
      dsimp only at hw1
      generalize (((winRef an).getD 0 : Nat) : Int) = f at *
      generalize (winRef an).isSome = t at *
      have Hw := Lib.hid (And.intro hw1 hw2)
      clear hw1 hw2
      go_wp2_with fail
      refine Hw.out.1.mono ?_
      rintro e w2 ⟨rfl, hF⟩
      have H2 := Lib.hid (hrel.out.2.trans hF (fun _ h => h.elim))
      clear hF
      go_wp2_with fail
      refine (Hw.out.2 w2 H2.out).mono ?_
      rintro e w' ⟨rfl, rfl⟩
      have e1 : (f == f) = true := by simp
      have e2 : (t == t) = true := by simp
      go_wp2_with fail
      refine (wakes_any w2).mono ?_
      rintro e w' ⟨rfl, hF⟩
      go_wp2_with fail
      go_ret
      exact ⟨rfl, H2.out.trans hF (fun _ h => h.elim)⟩
end Go.Proofs.Ytgjkjcdohfccaaa
