/- The walks of teasellaw24.sane, errands. What the laws of nets ask: plain; Great at a value. -/
import Derived.Test.YtnibllkcacalhaaGF
import Derived.Test.YtnibllkcacalhaaHWa
import Derived.Test.YtnibllkcacalhaaGG
namespace Go.Proofs.Ytnibllkcacalhaa
set_option maxRecDepth 100000
open Go.RowKit
theorem sane_no {cs : List Ch} {k : Nat} (h : k < cs.length) (hf : decide (cs[k].wrong ≤ cs[k].at_) = false) : (cs.all fun c => decide (c.wrong ≤ c.at_)) = false := by
  rw [List.all_eq_false]
  exact ⟨cs[k], List.getElem_mem h, by simp [hf]⟩
set_option maxHeartbeats 1600000 in
theorem sane_v (V : Value) (N : Nt) (w : World) (h : NR w V N) : Calls Try.prog 29 #[V] w (RetBool (saneB N) w) := by
  obtain ⟨A1, n1, c1, A, n, c, rfl⟩ := h.form
  obtain ⟨W, hW⟩ : ∃ W, W = w.alloc (.cells #[.slice A1 n1 c1, .slice A n c] 25) := ⟨_, rfl⟩
  obtain ⟨G, hG⟩ : ∃ G, G = w.heap.size := ⟨_, rfl⟩
  have hF : Frm (fun _ => False) w W := by rw [hW]; exact (Frm.refl _ w).alloc _
  have hb : Blk W G 25 #[.slice A1 n1 c1, .slice A n c] := by rw [hW, hG]; exact Blk.new w _ _
  obtain ⟨_, _, _, _, _, _, e, ps, cks, h1, h2, h3, h4⟩ := h
  cases e
  obtain ⟨hn, hnc, hcm, hx⟩ := h2.cells
  have hnm : n ≤ 9223372036854775807 := by omega
  have H := Lib.hid (And.intro hF (And.intro hb (And.intro hn (And.intro hx h4))))
  clear h1 h2 h3 h4 hn hx hF hb hnc hcm
  go_enter Try.func29, Try.ntmps29
  go_upto_region 1 with fail
  rw [← hG, ← hW]
  clear hG hW
  go_wp2_with fail
  go_loopw [3] (fun i wr => ∃ k : Nat, k ≤ n ∧ i = .int .i64 k ∧ Hid ((∀ j (h : j < N.cs.length), j < k → N.cs[j].wrong ≤ N.cs[j].at_) ∧ Frm (fun _ => False) W wr)) (fun i _ => n - (intOf i).toNat)
  case atStart => exact ⟨0, Nat.zero_le _, rfl, Lib.hid ⟨fun j _ h => by omega, Frm.refl _ _⟩⟩
  case round =>
    obtain ⟨k, hk, rfl, hT⟩ := hrel
    have hbw := H.out.2.1.kept hT.out.2 id
    have x1 : wr.cell? ⟨G, 1, none⟩ = some (.slice A n c) := hbw.cell 1
    clear hbw
    by_cases hlt : k < n
    · obtain ⟨hF, -, hn, hx, h4⟩ := H.out
      have hkx : k < cks.length := by omega
      obtain ⟨g, o, rfl, hg, d0, d1, d2, d3⟩ := hx k hkx
      have hFw := hF.trans hT.out.2 fun _ h => h.elim
      replace d1 := hFw.cell d1 id
      replace d3 := hFw.cell d3 id
      have hkN : k < N.cs.length := by rw [← h4, List.length_map]; exact hkx
      have hck : cks[k].c = N.cs[k] := by simp only [← h4, List.getElem_map]
      rw [hck] at d1 d3
      have hno : decide (N.cs[k].wrong ≤ N.cs[k].at_) = false → saneB N = false := fun h => sane_no hkN h
      have hyes : N.cs[k].wrong ≤ N.cs[k].at_ → ∀ j (h : j < N.cs.length), j < k + 1 → N.cs[j].wrong ≤ N.cs[j].at_ := fun hb j h hj => by
        rcases Nat.lt_or_ge j k with h1 | h1
        · exact hT.out.1 j h h1
        · obtain rfl : j = k := by omega
          exact hb
      have HS := Lib.hid (And.intro hno (And.intro hyes hT.out.2))
      clear hF hn hx h4 hg hFw hck hno hyes hT d0 d2
      generalize N.cs[k] = cc at *
      clear hkN hkx
      have hk0 : (0 : Int) ≤ (k : Int) := by omega
      by_cases hs : cc.wrong ≤ cc.at_
      · have h2 : decide (cc.at_ < cc.wrong) = false := by simp; omega
        have Hy := Lib.hid (HS.out.2.1 hs)
        clear hs
        go_wp2_with fail
        go_quiet (fail)
        go_wp2_with fail
        go_roundw
        case rel => exact ⟨k + 1, by omega, by go_num, Lib.hid ⟨Hy.out, HS.out.2.2.drewN _⟩⟩
        case measure => simp [intOf]; omega
      · have h2 : decide (cc.at_ < cc.wrong) = true := by simp; omega
        have Hn := Lib.hid (HS.out.1 (by simpa using hs))
        clear hs
        go_wp2_with fail
        go_quiet (fail)
        go_wp2_with fail
        go_ret
        exact ⟨by rw [Hn.out]; rfl, (H.out.1.trans HS.out.2.2 fun _ h => h.elim).drewN _⟩
    · obtain rfl : k = n := by omega
      have hr : saneB N = true := by
        unfold saneB
        rw [List.all_eq_true]
        intro y hy
        obtain ⟨j, hj, rfl⟩ := List.getElem_of_mem hy
        simpa using hT.out.1 j hj (by have := H.out.2.2.1; have h4 := H.out.2.2.2.2; have := congrArg List.length h4; simp at this; omega)
      have HR := Lib.hid hr
      clear hr
      go_wp2_with fail
      go_ret
      exact ⟨by rw [HR.out]; rfl, H.out.1.trans hT.out.2 fun _ h => h.elim⟩
end Go.Proofs.Ytnibllkcacalhaa
namespace Go.Proofs.Ytnibllkcacalhaa
set_option maxRecDepth 100000
open Go.RowKit
def GreatV (N : Nt) (w : World) (e : Ending) (w' : World) : Prop := ∃ g : Bool, e = .returned (.bool g) ∧ Frm (fun _ => False) w w' ∧ (g = false → SmN N ∧ leftNt N ≤ 1000000)
theorem left_le (l : List Ch) (h : ∀ c ∈ l, c.row.length ≤ 1000) : (l.map leftC).sum ≤ l.length * 1000 := by
  induction l with
  | nil => simp
  | cons y ys ih =>
    have h1 := h y (by simp)
    have h2 := ih fun c hc => h c (by simp [hc])
    simp only [List.map_cons, List.sum_cons, List.length_cons]
    have : leftC y ≤ y.row.length := by unfold leftC; omega
    omega
theorem great_v (V : Value) (N : Nt) (w : World) (h : NR w V N) : Calls Try.prog 8 #[V] w (GreatV N w) := by
  obtain ⟨A1, n1, c1, A, n, c, rfl, ps, cks, h1, h2, h3, h4⟩ := h
  obtain ⟨N1, N2⟩ := N
  dsimp only at h3 h4
  subst h3 h4
  refine (great_n A1 n1 c1 A n c ps cks w h1 h2).mono ?_
  rintro e w' ⟨g, rfl, hF, hg⟩
  refine ⟨g, rfl, hF, fun h => ?_⟩
  obtain ⟨q1, ⟨-, q2, q3⟩, q4⟩ := hg h
  have hrow : ∀ c ∈ cks.map (·.c), c.row.length ≤ 1000 := fun c hc => by
    obtain ⟨k, hk, rfl⟩ := List.mem_map.1 hc
    have := q4 k hk; omega
  refine ⟨⟨by rw [List.length_map]; omega, by rw [List.length_map]; omega, fun p hp => ?_, fun c hc => by have := hrow c hc; omega⟩, ?_⟩
  · obtain ⟨k, hk, rfl⟩ := List.mem_map.1 hp
    have := q3 k hk; omega
  · have := left_le _ hrow
    unfold leftNt
    rw [List.length_map] at this
    dsimp only
    omega
theorem sm_right {N : Nt} (h : rightNt N = true) : SmN N ∧ leftNt N ≤ 1000000 := by
  obtain ⟨q1, q2, q3, q4⟩ := right_sm h
  refine ⟨⟨by omega, by omega, fun p hp => by have := q3 p hp; omega, fun c hc => by have := q4 c hc; omega⟩, ?_⟩
  have := left_le N.cs fun c hc => by have := q4 c hc; omega
  unfold leftNt
  omega
theorem clean_right {N : Nt} (h : cleanNt N = true) : rightNt N = true := by
  unfold cleanNt at h
  simp only [Bool.and_eq_true] at h
  exact h.1
/-- What NetPicks asks. -/
theorem picks_plain {N : Nt} (xs ys : List Int) (hcl : cleanNt N = true) (hs : saneB N = true) :
    (finN (runNt N xs).1).1 = (finN N).1 ∧ (finN (runNt N ys).1).1 = (finN N).1 ∧ (runNt N xs).2 + (finN (runNt N xs).1).2 = (finN N).2 ∧ (runNt N ys).2 + (finN (runNt N ys).1).2 = (finN N).2 ∧ (finN N).2 ≤ 1000000 ∧
      rightNt N = true ∧ rightNt (runNt N xs).1 = true ∧ rightNt (runNt N ys).1 = true ∧ SmN (runNt N xs).1 ∧ SmN (runNt N ys).1 ∧ leftNt (runNt N xs).1 ≤ 1000000 ∧ leftNt (runNt N ys).1 ≤ 1000000 ∧ True := by
  have e1 := fin_run xs N hcl hs
  have e2 := fin_run ys N hcl hs
  have hr := clean_right hcl
  have r1 := (run_goes xs N hr hs).1
  have r2 := (run_goes ys N hr hs).1
  have hl := (fin_le (leftNt N) N (Nat.le_refl _)).1
  have hm := (sm_right hr).2
  refine ⟨by rw [e1], by rw [e2], by rw [e1], by rw [e2], by omega, hr, r1, r2, (sm_right r1).1, (sm_right r2).1, (sm_right r1).2, (sm_right r2).2, trivial⟩
end Go.Proofs.Ytnibllkcacalhaa
