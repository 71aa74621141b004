/- teaselref19.Great; teaselref19.Join. -/
import Derived.Test.YtecpbnkkgdppoaaOn
namespace Go.Proofs.Ytecpbnkkgdppoaa
open Go.RowKit
def totG (l : List Bk) : Nat := (l.map fun b => b.c.data.length).sum
theorem totG_append (a b : List Bk) : totG (a ++ b) = totG a + totG b := by simp [totG]
theorem totG_one (b : Bk) : totG [b] = b.c.data.length := by simp [totG]
theorem totG_take (l : List Bk) (k : Nat) : totG (l.take k) ≤ totG l := by
  conv => rhs; rw [← List.take_append_drop k l]
  rw [totG_append]; omega
theorem totG_step (l : List Bk) (k : Nat) (h : k < l.length) : totG (l.take (k + 1)) = totG (l.take k) + l[k].c.data.length := by
  rw [List.take_succ_eq_append_getElem h, totG_append, totG_one]
theorem joinG_len (l : List Bk) : (joinG (l.map (·.c))).length ≤ totG l := by
  induction l with
  | nil => exact Nat.le_refl _
  | cons b l ih =>
    rw [List.map_cons, ← List.singleton_append, joinG_append, List.length_append, joinG_one]
    have e : totG (b :: l) = b.c.data.length + totG l := by simp [totG]
    have h : (partG b.c).length ≤ b.c.data.length := by
      unfold partG; split
      · rw [List.length_drop]; omega
      · simp
    omega
def Great19Post (bs : List Bk) (w : World) (e : Ending) (w' : World) : Prop :=
  ∃ g : Bool, e = .returned (.bool g) ∧ w = w' ∧ (g = false → bs.length ≤ 80 ∧ totG bs ≤ 9000)
set_option maxRecDepth 100000 in
set_option maxHeartbeats 400000 in
theorem great19_any (K : Nat → Prop) (A : Option Addr) (m c : Nat) (bs : List Bk) (w : World) (h : BsAt w K A m c bs) (ht : totG bs ≤ 4000000) :
    Calls Try.prog 9 #[.slice A m c] w (Great19Post bs w) := by
  obtain ⟨hm, hmc, hcm, hx⟩ := id h
  have H := Lib.hid (And.intro hx (And.intro ht hm))
  clear hx ht hm h
  go_enter Try.func9, Try.ntmps9
  go_wp2
  go_loop [3, 4] (fun t i => ∃ k s : Nat, k ≤ m ∧ k ≤ 81 ∧ i = .int .i64 k ∧ t = .int .i64 s ∧ s ≤ 4000000 ∧ Hid (s = totG (bs.take k))) (fun _ i => m - (intOf i).toNat)
  case atStart => exact ⟨0, 0, Nat.zero_le _, by omega, rfl, rfl, by omega, rfl⟩
  case round =>
    obtain ⟨k, s, hk, hk81, rfl, rfl, hs, Hs⟩ := hrel
    by_cases hlt : k < m
    · by_cases h80 : k ≤ 80
      · by_cases h3 : s ≤ 9000
        · have hkx : k < bs.length := by have := H.out.2.2; omega
          obtain ⟨g, o, rfl, hg, -, -, -, d3, sa⟩ := H.out.1 k hkx
          have hs1 := totG_step bs k hkx
          have hs2 := totG_take bs (k + 1)
          obtain ⟨A5, n5, c5, e5, hn5, hnc5, hc5, -⟩ := id sa
          rw [bv_length] at hn5
          rw [e5] at d3
          have Ht := Lib.hid (show totG (bs.take (k + 1)) = totG (bs.take k) + n5 from by rw [hs1, hn5])
          have hsn : s + n5 ≤ 4000000 := by rw [hs1, ← Hs.out, ← hn5] at hs2; have := H.out.2.1; omega
          clear hs1 hs2 sa e5 hn5 hg hkx
          have hk0 : 0 ≤ (k : Int) := by omega
          go_wp2
          go_round
          case rel => exact ⟨k + 1, s + n5, by omega, by omega, by go_num, by go_num, by omega, by show s + n5 = _; rw [Ht.out, ← Hs.out]⟩
          case measure => simp [intOf]; omega
        · go_wp2
          all_goals
            go_ret
            exact ⟨true, rfl, rfl, fun h => by cases h⟩
      · go_wp2
        all_goals
          go_ret
          exact ⟨true, rfl, rfl, fun h => by cases h⟩
    · obtain rfl : k = m := by omega
      go_wp2
      all_goals
        go_ret
        refine ⟨_, rfl, rfl, fun h => ?_⟩
        have h1 := H.out.2.2
        have h2 := Hs.out
        rw [List.take_of_length_le (by omega)] at h2
        simp at h <;> exact ⟨by omega, by omega⟩
set_option maxRecDepth 100000 in
set_option maxHeartbeats 1600000 in
theorem rjoin_any (K : Nat → Prop) (A : Option Addr) (m c : Nat) (bs : List Bk) (w : World) (h : BsAt w K A m c bs) (hK : ∀ q, K q → q < w.heap.size) (ht : (joinG (bs.map (·.c))).length ≤ 100000000) :
    Calls Try.prog 17 #[.slice A m c] w (OwnPost (joinG (bs.map (·.c))) w) := by
  obtain ⟨i0, hi, hz0, hz1, hz2⟩ := info_parts infoU
  obtain ⟨hm, hmc, hcm, hx⟩ := id h
  have H := Lib.hid (And.intro hx (And.intro hK (And.intro ht hm)))
  clear hx hK ht hm h
  go_enter Try.func17, Try.ntmps17
  go_wp2_with fail
  go_loopw [3, 4] (fun t i wr => ∃ k : Nat, k ≤ m ∧ i = .int .i64 k ∧ Hid (JgRel bs w k t wr)) (fun _ i _ => m - (intOf i).toNat)
  case atStart => exact ⟨0, Nat.zero_le _, rfl, Lib.hid ⟨0, World.ownsRow_nil _ _ _ _, Frm.refl _ _⟩⟩
  case round =>
    obtain ⟨k, hk, rfl, hrel⟩ := hrel
    by_cases hlt : k < m
    · obtain ⟨hx, hK, ht, hm⟩ := H.out
      obtain ⟨s, hown, hF⟩ := hrel.out
      have hkb : k < bs.length := by omega
      obtain ⟨g1, o1, rfl, hg1, -, -, a2, a3, sa⟩ := hx k hkb
      replace a2 := hF.cell a2 id
      replace a3 := hF.cell a3 id
      have hk0 : 0 ≤ (k : Int) := by omega
      have hsa : Sl wr K bs[k].v (bv bs[k].c.data) := sa.kept fun q hq => hF.block q (hK q hq) id
      by_cases hwk : WarmOk bs[k].c
      · have hstep : joinG ((bs.map (·.c)).take (k + 1)) = joinG ((bs.map (·.c)).take k) ++ bs[k].c.data.drop bs[k].c.warm.toNat := by
          rw [List.take_succ_eq_append_getElem (by simpa using hkb), joinG_append]; rw [joinG_one]; congr 1; rw [List.getElem_map]; exact partG_ok hwk
        have hle := joinG_take (bs.map (·.c)) (k + 1)
        have hs : s = (joinG ((bs.map (·.c)).take k)).length := by have := hown.1; simp at this; omega
        generalize bs[k] = x at *
        obtain ⟨vx, n1, s1, w1, l1⟩ := x
        dsimp only at *
        obtain ⟨A5, n5, c5, rfl, hn5, hc5, hm5, hx5⟩ := id hsa
        rw [bv_length] at hn5
        obtain ⟨Wm, rfl⟩ : ∃ Wm : Nat, w1 = Wm := ⟨w1.toNat, by have := hwk.1; simp at this; omega⟩
        have hWm : Wm ≤ n5 := by have := hwk.2; simp at this; omega
        have hdr := run_drop (P := Try.prog) (t := 22) Try.underlying22 sizeU A5 n5 c5 (Wm : Int) (by omega) (by omega)
        rw [Int.toNat_natCast] at hdr
        simp only [Nat.mul_one] at hdr
        obtain ⟨A2, hA2⟩ : ∃ A2, A2 = if c5 = Wm then A5 else A5.map (fun x => x.add Wm) := ⟨_, rfl⟩
        rw [← hA2] at hdr
        have hdrop := hsa.drop Wm (by omega)
        rw [← hA2, show (bv l1).drop Wm = bv (l1.drop Wm) from by simp [bv, List.map_drop]] at hdrop
        have hsum : s + (bv (l1.drop Wm)).length ≤ 100000000 := by
          rw [hstep, List.length_append] at hle
          simp only [bv_length, Int.toNat_natCast] at hle ⊢
          omega
        have HA := Lib.hid (And.intro hown (And.intro hF (And.intro hdrop (And.intro hsum (And.intro hstep (And.intro hn5 hF.size))))))
        have g0 : decide (0 ≤ (Wm : Int)) = true := by simp
        clear hx hK ht hm hown hF sa hsa hwk hstep hle hs hx5 hA2 hdrop hsum hrel hn5 hkb hg1
        go_upto_region 5 with fail
        go_quiet (fail)
        go_wp2_with fail
        obtain ⟨W, hW⟩ : ∃ W, W = wr.drewN nq := ⟨_, rfl⟩
        have HW := Lib.hid (show W.ownsRow w.heap.size 5 1 u3 s (bv (joinG ((bs.map (·.c)).take k))) ∧ Sl W K (.slice A2 (n5 - Wm) (c5 - Wm)) (bv (l1.drop Wm)) ∧ Frm (fun _ => False) w W from hW ▸ ⟨HA.out.1, HA.out.2.2.1, HA.out.2.1.drewN _⟩)
        replace a2 : W.cell? ⟨g1, o1 + k * 4 + 2, none⟩ = some (.int .i64 Wm) := hW ▸ a2
        replace a3 : W.cell? ⟨g1, o1 + k * 4 + 3, none⟩ = some (.slice A5 n5 c5) := hW ▸ a3
        rw [← hW]
        clear hW
        go_region_law (refine step_append_sl (by rfl) _ _ 22 (by rfl) w.heap.size 5 i0 (.int .u8 0) 1 Try.underlying22 hi hz0 hz1 hz2 (by rfl) _ s _ (by rfl) HW.out.1 K _ (bv (l1.drop Wm)) (by rfl) HW.out.2.1 (bv_one _) (by unfold maxLen; have := HA.out.2.2.2.1; omega) (by have := HA.out.2.2.2.1; omega) HW.out.2.2.size ?_; intro A1 N c1 w1 HN hNc hc1 hown1 hg1 hat1)
        all_goals
          go_wp2_with fail
          go_roundw
          case rel => exact ⟨k + 1, by omega, by go_num, Lib.hid ⟨N, by rw [HA.out.2.2.2.2.1, Int.toNat_natCast, bv_app]; exact hown1, HW.out.2.2.drew.grown hg1 fun x hx => .inr (HW.out.1.lt x hx).1⟩⟩
          case measure => simp [intOf]; omega
      · have hstep : joinG ((bs.map (·.c)).take (k + 1)) = joinG ((bs.map (·.c)).take k) := by
          rw [List.take_succ_eq_append_getElem (by simpa using hkb), joinG_append, joinG_one]
          rw [List.getElem_map, partG_no hwk, List.append_nil]
        generalize bs[k] = x at *
        obtain ⟨vx, n1, s1, w1, l1⟩ := x
        dsimp only at *
        obtain ⟨A5, n5, c5, rfl, hn5, -⟩ := id hsa
        rw [bv_length] at hn5
        have hwk' : ¬ (0 ≤ w1 ∧ w1 ≤ (n5 : Int)) := by rw [hn5]; exact hwk
        have HA := Lib.hid (And.intro hown (And.intro hF hstep))
        clear hx hK ht hm hown hF sa hsa hwk hstep hrel hn5 hkb hg1
        by_cases h0 : 0 ≤ w1
        · have g0 : decide (0 ≤ w1) = true := by simpa using h0
          have g1 : decide (w1 ≤ (n5 : Int)) = false := by simp; omega
          clear hwk'
          go_upto_region 5 with fail
          go_quiet (fail)
          go_wp2_with fail
          go_roundw
          case rel => exact ⟨k + 1, by omega, by go_num, Lib.hid ⟨s, by rw [HA.out.2.2]; exact HA.out.1, HA.out.2.1.drewN _⟩⟩
          case measure => simp [intOf]; omega
        · have g0 : decide (0 ≤ w1) = false := by simp; omega
          clear hwk'
          go_upto_region 5 with fail
          go_quiet (fail)
          go_wp2_with fail
          go_roundw
          case rel => exact ⟨k + 1, by omega, by go_num, Lib.hid ⟨s, by rw [HA.out.2.2]; exact HA.out.1, HA.out.2.1.drewN _⟩⟩
          case measure => simp [intOf]; omega
    · obtain rfl : k = m := by omega
      go_wp2_with fail
      go_ret
      obtain ⟨s, hown, hF⟩ := hrel.out
      obtain ⟨-, -, -, hm⟩ := H.out
      rw [List.take_of_length_le (by simp; omega)] at hown
      have hs : s = (joinG (bs.map (·.c))).length := by have := hown.1; simp at this; omega
      subst hs
      exact ⟨_, rfl, hown, hF⟩
end Go.Proofs.Ytecpbnkkgdppoaa
