/- The walk of teasellaw26.SinkWithin. -/
import Derived.Test.YtgjkjcdohfccaaaWk
import Derived.Test.YtgjkjcdohfccaaaPl
namespace Go.Proofs.Ytgjkjcdohfccaaa
open Go.RowKit
def hitsTo (k : Nat) : List (Int × Int) := (List.range k).map fun i : Nat => ((i : Int), (0 : Int))
theorem hitsTo_succ (k : Nat) : hitsTo (k + 1) = hitsTo k ++ [((k : Int), 0)] := by simp [hitsTo, List.range_succ]
@[simp] theorem hitsTo_length (k : Nat) : (hitsTo k).length = k := by simp [hitsTo]
/-- Between two rounds: the sink, row and longest. -/
def WRel (w : World) (B b : Nat) (a g : Option Nat) (an : List Bool) (k r m : Nat) (wr : World) : Prop :=
  SAt wr B b a g an (tkL an (hitsTo k)) k ∧ Frm (fun _ => False) w wr ∧ wfold (saysTo an k) = (m, r)
theorem wrel_next {w wr w2 : World} {B b : Nat} {a g g' : Option Nat} {an : List Bool} {k r m : Nat} (h : WRel w B b a g an k r m wr) (hw : w.heap.size ≤ B) (hS : SAt w2 B b a g' an (if says an k = true then tkL an (hitsTo k) ++ [((k : Int), 0)] else tkL an (hitsTo k)) (k + 1)) (hF : Frm (fun k => k = b ∨ g = some k) wr w2) :
    WRel w B b a g' an (k + 1) (if says an k = true then 0 else r + 1) (max m (if says an k = true then 0 else r + 1)) w2 := by
  refine ⟨?_, offer_frm h.1 hw h.2.1 hF, ?_⟩
  · rw [hitsTo_succ, tkL_snoc, hitsTo_length]; exact hS
  · rw [saysTo_succ, wfold_snoc, h.2.2]; rfl
theorem win_cases (an : List Bool) (N : Nat) : (an.isEmpty = false ∧ an.contains true = false ∧ winOf an = (0, false)) ∨
    (∃ M, winOf an = (M + 1, true) ∧ M ≤ an.length ∧ (wfold (saysTo an N)).1 ≤ M ∧ (N < 2 * an.length ∨ (wfold (saysTo an N)).1 = M)) := by
  cases hne : an.isEmpty with
  | true =>
    rw [List.isEmpty_iff] at hne
    subst hne
    exact .inr ⟨0, rfl, Nat.zero_le _, by rw [fold_nil]; exact Nat.le_refl _, .inr (by rw [fold_nil])⟩
  | false =>
    cases hc : an.contains true with
    | false => exact .inl ⟨rfl, rfl, by unfold winOf; rw [hne, hc]; rfl⟩
    | true =>
      refine .inr ⟨(wfold (saysTo an (2 * an.length))).1, by unfold winOf; rw [hne, hc]; rfl, ?_, most_le hc N, ?_⟩
      · obtain ⟨⟨i, h1, h2⟩, _⟩ := fold_most an (2 * an.length)
        exact Nat.le_of_lt (noAt_lt hc h2)
      · rcases Nat.lt_or_ge N (2 * an.length) with h | h
        · exact .inl h
        · exact .inr (Nat.le_antisymm (most_le hc N) (most_mono an h))
set_option maxRecDepth 100000 in
set_option maxHeartbeats 4000000 in
theorem win_any (va : Value) (z : Int) (an : List Bool) (w : World) (h : Sl w (fun k => k < w.heap.size) va (bvs an)) :
    Calls Try.prog 4 #[va, .int .i64 z] w fun e w' => e = .returned (.bool true) ∧ Frm (fun _ => False) w w' := by
  obtain ⟨A, n, c, rfl, hn, hc, hm, hx⟩ := id h
  rw [bvs_length] at hn
  have H := Lib.hid (And.intro h hn)
  clear h hn hx
  by_cases h40 : (40 : Int) < n
  · go_enter Try.func4, Try.ntmps4
    go_wp2_with fail
    refine (wakes_any w).mono ?_
    rintro e w' ⟨rfl, hF⟩
    go_wp2_with fail
    go_ret
    exact ⟨rfl, hF⟩
  by_cases h0 : z < 0
  · go_enter Try.func4, Try.ntmps4
    go_wp2_with fail
    refine (wakes_any w).mono ?_
    rintro e w' ⟨rfl, hF⟩
    go_wp2_with fail
    go_ret
    exact ⟨rfl, hF⟩
  by_cases h100 : 100 < z
  · go_enter Try.func4, Try.ntmps4
    go_wp2_with fail
    refine (wakes_any w).mono ?_
    rintro e w' ⟨rfl, hF⟩
    go_wp2_with fail
    go_ret
    exact ⟨rfl, hF⟩
  obtain ⟨N, rfl⟩ : ∃ N : Nat, z = N := ⟨z.toNat, by omega⟩
  have hnew := fun w1 (hF : Frm (fun _ => False) w w1) => new_eq (w := w1) (H.out.1.keptTo (K' := fun k => k < w.heap.size) fun q hq => ⟨hF.block q hq id, hq⟩) (fun q hq => Nat.lt_of_lt_of_le hq hF.size) (by have := H.out.2; omega)
  have hwin := within_any _ _ an w H.out.1 (fun _ h => h) (by have := H.out.2; omega)
  unfold WinPost at hwin
  have Hnew := Lib.hid (And.intro hnew hwin)
  clear hnew hwin
  generalize hF : (((winOf an).1 : Nat) : Int) = F at Hnew
  generalize hO : (winOf an).2 = ok at Hnew
  have HO := Lib.hid (And.intro hF hO)
  clear hF hO
  go_enter Try.func4, Try.ntmps4
  go_wp2_with fail
  refine Hnew.out.2.mono ?_
  rintro e w0 ⟨rfl, hF0⟩
  have HF0 := Lib.hid hF0
  clear hF0
  go_wp2_with fail
  refine (Hnew.out.1 w0 HF0.out).mono ?_
  rintro e w1 ⟨b, a, B, rfl, hS, hF, hB, ha⟩
  have HB := Lib.hid (And.intro (Nat.le_trans HF0.out.size hB) ha)
  have HS := Lib.hid (And.intro hS (HF0.out.trans hF (fun _ h => h.elim)))
  clear hS hF hB ha Hnew
  go_wp2_with fail
  go_loopw [8, 9, 10] (fun x y i wr => ∃ k r m : Nat, ∃ g, k ≤ N ∧ r ≤ k ∧ m ≤ k ∧ i = .int .i64 k ∧ x = .int .i64 r ∧ y = .int .i64 m ∧ Hid (WRel w B b a g an k r m wr)) (fun _ _ i _ => N - (intOf i).toNat)
  case atStart => exact ⟨0, 0, 0, none, Nat.zero_le _, Nat.le_refl _, Nat.le_refl _, rfl, rfl, rfl, Lib.hid ⟨HS.out.1, HS.out.2, rfl⟩⟩
  case round =>
    obtain ⟨k, r, m, g, hk, hr, hm', rfl, rfl, rfl, hrel⟩ := hrel
    by_cases hlt : k < N
    · have ho := offer_any B b k a g an _ (k : Int) 0 wr hrel.out.1 (by omega)
      unfold OfferPost at ho
      have hnx := fun g' w2 => wrel_next (g' := g') (w2 := w2) hrel.out HB.out.1
      have Ho := Lib.hid (And.intro ho hnx)
      clear ho hnx
      generalize says an k = s at *
      go_wp2_with fail
      refine Ho.out.1.mono ?_
      rintro e w2 ⟨rfl, g', hS2, hg', hF2⟩
      have H2 := Lib.hid (Ho.out.2 g' w2 hS2 hF2)
      clear hS2 hF2 Ho hg'
      cases s <;> simp only [Bool.false_eq_true, if_false, if_true] at H2
      all_goals
        have htl := tkL_len an (hitsTo (k + 1))
        rw [hitsTo_length] at htl
        have hrf := fun q => refused_any B b (k + 1) a g' an (tkL an (hitsTo (k + 1))) (w2.drewN q) (H2.out.1.keptF ((Frm.refl _ _).drewN q))
        have htk := fun q => took_any B b (k + 1) a g' an (tkL an (hitsTo (k + 1))) (w2.drewN q) (H2.out.1.keptF ((Frm.refl _ _).drewN q))
        have hof := fun w3 (hF : Frm (fun _ => False) w2 w3) => offers_any B b (k + 1) a g' an (tkL an (hitsTo (k + 1))) w3 (H2.out.1.keptF hF)
        unfold CloneHPost at htk
        generalize (tkL an (hitsTo (k + 1))).length = T at *
        generalize hD : ((k + 1 - T : Nat) : Int) = D at *
        have hd1 : D + (T : Int) = (k : Int) + 1 := by omega
        have hd2 : 0 ≤ D ∧ D ≤ 1000 := by omega
        obtain ⟨hd2, hd3⟩ := hd2
        have hd4 : (D + (T : Int) != ((k + 1 : Nat) : Int)) = false := by rw [hd1]; simp
        have Hc := Lib.hid (And.intro hrf (And.intro htk (And.intro hof hd1)))
        clear hD hrf htk hof hd1
        go_wp2_with fail
        all_goals
          refine (Hc.out.1 0).mono ?_
          rintro e w' ⟨rfl, q, rfl⟩
          go_wp2_with fail
          refine (Hc.out.2.1 q).mono ?_
          rintro e w4 ⟨v4, rfl, hv4, hF4⟩
          obtain ⟨A4, c4, rfl, _, _⟩ := own_form hv4
          have H4 := Lib.hid (((Frm.refl (fun _ => False) w2).drewN q).trans hF4 (fun _ h => h.elim))
          clear hv4 hF4
          go_wp2_with fail
          refine (Hc.out.2.2.1 w4 H4.out).mono ?_
          rintro e w' ⟨rfl, rfl⟩
          go_wp2_with fail
          go_roundw
          case rel => exact ⟨k + 1, _, _, g', by omega, by omega, by omega, by go_num, by first | rfl | go_num, by congr 1; omega, ⟨H2.out.1.keptF H4.out, H2.out.2.1.trans H4.out (fun _ h => h.elim), H2.out.2.2⟩⟩
          case measure => simp [intOf]; omega
    · obtain rfl : k = N := by omega
      have hcase := win_cases an k
      rw [hrel.out.2.2] at hcase
      rcases hcase with ⟨hne, hct, hw⟩ | ⟨M, hw, hM1, hM2, hM3⟩
      · rw [hw] at HO
        obtain ⟨rfl, rfl⟩ := HO.out
        have hrf := refused_any B b k a g an _ wr hrel.out.1
        rw [tkL_len_none hne hct] at hrf
        have Hr := Lib.hid hrf
        have hn0 : 0 < n := by
          rw [H.out.2]
          rcases Nat.eq_zero_or_pos an.length with h | h
          · rw [List.length_eq_zero_iff] at h; subst h; cases hne
          · exact h
        clear hne hct hw hrf
        go_wp2_with fail
        refine Hr.out.mono ?_
        rintro e w' ⟨rfl, q, rfl⟩
        go_wp2_with fail
        refine (wakes_any _).mono ?_
        rintro e w' ⟨rfl, hF⟩
        go_wp2_with fail
        go_ret
        exact ⟨rfl, (hrel.out.2.1.drewN q).trans hF (fun _ h => h.elim)⟩
      · rw [hw] at HO
        obtain ⟨hF, rfl⟩ := HO.out
        have hn1 := H.out.2
        dsimp only at hF hM2 hM3
        have f1 : 1 ≤ F := by omega
        have f2 : F ≤ (n : Int) + 1 := by omega
        have f3 : (m : Int) ≤ F - 1 := by omega
        have f5 : F ≤ 1000 := by omega
        by_cases h2 : (k : Int) < 2 * (n : Int)
        · have HH := Lib.hid (And.intro hF hn1)
          clear hF hn1 hM1 hM2 hM3 hw HO
          go_wp2_with fail
          refine (wakes_any _).mono ?_
          rintro e w' ⟨rfl, hF⟩
          go_wp2_with fail
          go_ret
          exact ⟨rfl, hrel.out.2.1.trans hF (fun _ h => h.elim)⟩
        · have f4 : ((m : Int) == F - 1) = true := by simp; omega
          have HH := Lib.hid (And.intro hF hn1)
          clear hF hn1 hM1 hM2 hM3 hw HO
          go_wp2_with fail
          refine (wakes_any _).mono ?_
          rintro e w' ⟨rfl, hF⟩
          go_wp2_with fail
          go_ret
          exact ⟨rfl, hrel.out.2.1.trans hF (fun _ h => h.elim)⟩
end Go.Proofs.Ytgjkjcdohfccaaa
