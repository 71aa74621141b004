/- The walks of teaselref24.Over, Stuck. -/
import Derived.Test.YtnibllkcacalhaaHRx
namespace Go.Proofs.Ytnibllkcacalhaa
set_option maxRecDepth 100000
open Go.RowKit
theorem over_no {cs : List Ch} {k : Nat} (h : k < cs.length) (hf : overB cs[k] = false) : cs.all overB = false := by
  rw [List.all_eq_false]
  exact ⟨cs[k], List.getElem_mem h, by simp [hf]⟩
set_option maxHeartbeats 1600000 in
theorem rover_n (V : Value) (N : Nt) (w : World) (h : NR w V N) (hsm : SmN N) : Calls Try.prog 23 #[V] w (RetBool (rightNt N && overNt N) w) := by
  have hrr := fun (W : World) (hW : Frm (fun _ => False) w W) => rright_v V N W (h.kept hW) hsm.1
  obtain ⟨A1, n1, c1, A, n, c, rfl⟩ := h.form
  obtain ⟨W, hW⟩ : ∃ W, W = w.alloc (.cells #[.slice A1 n1 c1, .slice A n c] 25) := ⟨_, rfl⟩
  obtain ⟨G, hG⟩ : ∃ G, G = w.heap.size := ⟨_, rfl⟩
  have hF : Frm (fun _ => False) w W := by rw [hW]; exact (Frm.refl _ w).alloc _
  have hb : Blk W G 25 #[.slice A1 n1 c1, .slice A n c] := by rw [hW, hG]; exact Blk.new w _ _
  obtain ⟨_, _, _, _, _, _, e, ps, cks, h1, h2, h3, h4⟩ := h
  cases e
  obtain ⟨hn, hnc, hcm, hx⟩ := h2.cells
  have hnm : n ≤ 9223372036854775807 := by omega
  have H := Lib.hid (And.intro hF (And.intro hb (And.intro hn (And.intro hx (And.intro h4 (And.intro h2.2 hrr))))))
  clear h1 h2 h3 h4 hn hx hF hb hnc hcm hrr hsm
  go_enter Try.func23, Try.ntmps23
  go_upto_region 1 with fail
  rw [← hG, ← hW]
  clear hG hW
  go_wp2_with fail
  go_loopw [3] (fun i wr => ∃ k : Nat, k ≤ n ∧ i = .int .i64 k ∧ Hid ((∀ j (h : j < N.cs.length), j < k → overB N.cs[j] = true) ∧ Frm (fun _ => False) W wr)) (fun i _ => n - (intOf i).toNat)
  case atStart => exact ⟨0, Nat.zero_le _, rfl, Lib.hid ⟨fun j _ h => by omega, Frm.refl _ _⟩⟩
  case round =>
    obtain ⟨k, hk, rfl, hT⟩ := hrel
    have hbw := H.out.2.1.kept hT.out.2 id
    have x0 : wr.cell? ⟨G, 0, none⟩ = some (.slice A1 n1 c1) := hbw.cell 0
    have x1 : wr.cell? ⟨G, 1, none⟩ = some (.slice A n c) := hbw.cell 1
    clear hbw
    by_cases hlt : k < n
    · obtain ⟨hF, -, hn, hx, h4, hrow, -⟩ := H.out
      have hkx : k < cks.length := by omega
      obtain ⟨g, o, rfl, hg, d0, d1, d2, d3⟩ := hx k hkx
      have hFw := hF.trans hT.out.2 fun _ h => h.elim
      have hra := hrow cks[k] (List.getElem_mem hkx)
      obtain ⟨A5, n5, c5, e5, -⟩ := id hra
      rw [e5] at d0 hra
      replace d0 := hFw.cell d0 id
      replace d1 := hFw.cell d1 id
      replace d2 := hFw.cell d2 id
      replace d3 := hFw.cell d3 id
      have hkN : k < N.cs.length := by rw [← h4, List.length_map]; exact hkx
      have hck : cks[k].c = N.cs[k] := by simp only [← h4, List.getElem_map]
      have hl5 : n5 = N.cs[k].row.length := by rw [← hck]; exact hra.cells.1
      rw [hck] at d1 d2 d3
      have hno : overB N.cs[k] = false → overNt N = false := fun h => over_no hkN h
      have hyes : overB N.cs[k] = true → ∀ j (h : j < N.cs.length), j < k + 1 → overB N.cs[j] = true := fun hb j h hj => by
        rcases Nat.lt_or_ge j k with h1 | h1
        · exact hT.out.1 j h h1
        · obtain rfl : j = k := by omega
          exact hb
      have hob : overB N.cs[k] = decide (N.cs[k].at_ = (n5 : Int)) := by unfold overB; rw [hl5]
      have HS := Lib.hid (And.intro hno (And.intro hyes (And.intro hT.out.2 (And.intro hFw hob))))
      clear hF hn hx h4 hg hFw hck hno hyes hT hrow hra e5 hl5 hob
      have hrt := fun (W : World) => rover_any A5 n5 c5 N.cs[k].at_ N.cs[k].sum N.cs[k].wrong W
      have HC := Lib.hid hrt
      clear hrt
      have hk0 : (0 : Int) ≤ (k : Int) := by omega
      go_wp2_with fail
      refine (HC.out _).mono ?_
      rintro e w2 ⟨rfl, hF2⟩
      rw [← HS.out.2.2.2.2]
      have HF2 := Lib.hid (And.intro (tr HS.out.2.2.1 hF2) (tr HS.out.2.2.2.1 hF2))
      clear hF2 d0 d1 d2 d3 x0 x1 HC
      cases hov : overB N.cs[k] with
      | true =>
        have HY := Lib.hid (HS.out.2.1 hov)
        clear hov
        go_wp2_with fail
        go_roundw
        case rel => exact ⟨k + 1, by omega, by go_num, Lib.hid ⟨HY.out, HF2.out.1⟩⟩
        case measure => simp [intOf]; omega
      | false =>
        have HY := Lib.hid (HS.out.1 hov)
        clear hov
        go_wp2_with fail
        go_ret
        exact ⟨by rw [HY.out]; simp, HF2.out.2⟩
    · obtain rfl : k = n := by omega
      have hr : overNt N = true := by
        unfold overNt
        rw [List.all_eq_true]
        intro y hy
        obtain ⟨j, hj, rfl⟩ := List.getElem_of_mem hy
        exact hT.out.1 j hj (by have := H.out.2.2.1; have h4 := H.out.2.2.2.2.1; have := congrArg List.length h4; simp at this; omega)
      have hFw := H.out.1.trans hT.out.2 fun _ h => h.elim
      have HR := Lib.hid (And.intro hr (And.intro hFw (H.out.2.2.2.2.2.2 wr hFw)))
      clear hr hFw
      go_wp2_with fail
      refine HR.out.2.2.mono ?_
      rintro e w2 ⟨rfl, hF2⟩
      have HF2 := Lib.hid (tr HR.out.2.1 hF2)
      clear hF2 x0 x1
      go_wp2_with fail
      go_ret
      exact ⟨by rw [HR.out.1]; simp, HF2.out⟩
set_option maxHeartbeats 1600000 in
theorem rstuck_n (V : Value) (N : Nt) (w : World) (h : NR w V N) (hsm : SmN N) : Calls Try.prog 25 #[V] w (RetBool (stuckNt N) w) := by
  have hrr := fun (W : World) (hW : Frm (fun _ => False) w W) => rright_v V N W (h.kept hW) hsm.1
  have hro := fun (W : World) (hW : Frm (fun _ => False) w W) => rover_n V N W (h.kept hW) hsm
  have hrd := fun (W : World) (hW : Frm (fun _ => False) w W) => rready_n V N W (h.kept hW) hsm
  obtain ⟨A1, n1, c1, A, n, c, rfl⟩ := h.form
  obtain ⟨W, hW⟩ : ∃ W, W = w.alloc (.cells #[.slice A1 n1 c1, .slice A n c] 25) := ⟨_, rfl⟩
  obtain ⟨G, hG⟩ : ∃ G, G = w.heap.size := ⟨_, rfl⟩
  have hF : Frm (fun _ => False) w W := by rw [hW]; exact (Frm.refl _ w).alloc _
  have hb : Blk W G 25 #[.slice A1 n1 c1, .slice A n c] := by rw [hW, hG]; exact Blk.new w _ _
  have H := Lib.hid (And.intro hF (And.intro hb (And.intro hrr (And.intro hro hrd))))
  have x0 : W.cell? ⟨G, 0, none⟩ = some (.slice A1 n1 c1) := hb.cell 0
  have x1 : W.cell? ⟨G, 1, none⟩ = some (.slice A n c) := hb.cell 1
  clear hF hb hrr hro hrd h hsm
  have hst : stuckNt N = (rightNt N && (!(rightNt N && overNt N) && decide ((rdAll N).length = 0))) := by
    rw [rdAll_nil]; unfold stuckNt
    cases rightNt N <;> simp
  rw [hst]
  clear hst
  go_enter Try.func25, Try.ntmps25
  go_upto_region 1 with fail
  rw [← hG, ← hW]
  clear hG hW
  go_wp2_with fail
  refine (H.out.2.2.1 W H.out.1).mono ?_
  rintro e w1 ⟨rfl, hF1⟩
  have HF1 := Lib.hid (tr H.out.1 hF1)
  replace x0 := hF1.cell x0 id
  replace x1 := hF1.cell x1 id
  clear hF1
  cases hr : rightNt N with
  | false =>
    go_wp2_with fail
    go_ret
    exact ⟨by rw [hr]; simp, HF1.out⟩
  | true =>
    have Hr := Lib.hid hr
    clear hr
    go_wp2_with fail
    refine (H.out.2.2.2.1 w1 HF1.out).mono ?_
    rw [Hr.out]
    rintro e w2 ⟨rfl, hF2⟩
    have HF2 := Lib.hid (tr HF1.out hF2)
    replace x0 := hF2.cell x0 id
    replace x1 := hF2.cell x1 id
    clear hF2
    rw [Bool.true_and]
    cases ho : overNt N with
    | true =>
      have HO := Lib.hid ho
      clear ho
      go_wp2_with fail
      go_ret
      exact ⟨by rw [Hr.out, HO.out]; simp, HF2.out⟩
    | false =>
      have HO := Lib.hid ho
      clear ho
      go_wp2_with fail
      refine (H.out.2.2.2.2 w2 HF2.out).mono ?_
      rintro e w3 ⟨v, rfl, hown, -, hF3⟩
      obtain ⟨Av, cv, rfl, -, -⟩ := ints_len hown
      have HF3 := Lib.hid (tr HF2.out hF3)
      clear hown hF3 x0 x1
      generalize (rdAll N).length = L at *
      cases L with
      | zero =>
        go_wp2_with fail
        go_ret
        exact ⟨by rw [Hr.out, HO.out]; simp, HF3.out⟩
      | succ L =>
        have hz : (((L + 1 : Nat) : Int) == 0) = false := by rw [beq_eq_false_iff_ne]; omega
        go_wp2_with fail
        go_ret
        exact ⟨by rw [Hr.out, HO.out]; simp; omega, HF3.out⟩
end Go.Proofs.Ytnibllkcacalhaa
