/- Join, block's and the reference's, of whatever blocks. -/
import Derived.Test.YtecpbnkkgdppoaaJo
namespace Go.Proofs.Ytecpbnkkgdppoaa
open Go.RowKit
def partG (b : Bc) : List UInt8 := if 0 ≤ b.warm ∧ b.warm ≤ (b.data.length : Int) then b.data.drop b.warm.toNat else []
def joinG (l : List Bc) : List UInt8 := l.flatMap partG
theorem partG_ok {b : Bc} (h : WarmOk b) : partG b = b.data.drop b.warm.toNat := if_pos h
theorem partG_no {b : Bc} (h : ¬ WarmOk b) : partG b = [] := if_neg h
theorem joinG_append (a b : List Bc) : joinG (a ++ b) = joinG a ++ joinG b := by simp [joinG]
theorem joinG_one (b : Bc) : joinG [b] = partG b := by simp [joinG]
theorem joinG_take (l : List Bc) (k : Nat) : (joinG (l.take k)).length ≤ (joinG l).length := by
  conv => rhs; rw [← List.take_append_drop k l]
  rw [joinG_append, List.length_append]; omega
def JgRel (bs : List Bk) (w : World) (k : Nat) (t : Value) (wr : World) : Prop :=
  ∃ s : Nat, wr.ownsRow w.heap.size 5 1 t s (bv (joinG ((bs.map (·.c)).take k))) ∧ Frm (fun _ => False) w wr
set_option maxHeartbeats 1600000 in
theorem gjoin_any (K : Nat → Prop) (A : Option Addr) (m c : Nat) (bs : List Bk) (w : World) (h : BsAt w K A m c bs) (hK : ∀ q, K q → q < w.heap.size) (ht : (joinG (bs.map (·.c))).length ≤ 100000000) :
    Calls Try.prog 16 #[.slice A m c] w (OwnPost (joinG (bs.map (·.c))) w) := by
  obtain ⟨i0, hi, hz0, hz1, hz2⟩ := info_parts infoU
  obtain ⟨hm, hmc, hcm, hx⟩ := id h
  have H := Lib.hid (And.intro hx (And.intro hK (And.intro ht hm)))
  clear hx hK ht hm h
  go_enter Try.func16, Try.ntmps16
  go_wp2_with fail
  go_loopw [3, 8] (fun t i wr => ∃ k : Nat, k ≤ m ∧ i = .int .i64 k ∧ Hid (JgRel bs w k t wr)) (fun _ i _ => m - (intOf i).toNat)
  case atStart => exact ⟨0, Nat.zero_le _, rfl, Lib.hid ⟨0, World.ownsRow_nil _ _ _ _, Frm.refl _ _⟩⟩
  case round =>
    obtain ⟨k, hk, rfl, hrel⟩ := hrel
    by_cases hlt : k < m
    · obtain ⟨hx, hK, ht, hm⟩ := H.out
      obtain ⟨s, hown, hF⟩ := hrel.out
      have hkb : k < bs.length := by omega
      obtain ⟨g1, o1, rfl, hg1, a0, a1, a2, a3, sa⟩ := hx k hkb
      replace a0 := hF.cell a0 id
      replace a1 := hF.cell a1 id
      replace a2 := hF.cell a2 id
      replace a3 := hF.cell a3 id
      have hsa : Sl wr K bs[k].v (bv bs[k].c.data) := sa.kept fun q hq => hF.block q (hK q hq) id
      by_cases hwk : WarmOk bs[k].c
      · have hstep : joinG ((bs.map (·.c)).take (k + 1)) = joinG ((bs.map (·.c)).take k) ++ bs[k].c.data.drop bs[k].c.warm.toNat := by
          rw [List.take_succ_eq_append_getElem (by simpa using hkb), joinG_append]; rw [joinG_one]; congr 1; rw [List.getElem_map]; exact partG_ok hwk
        have hle := joinG_take (bs.map (·.c)) (k + 1)
        have hs : s = (joinG ((bs.map (·.c)).take k)).length := by have := hown.1; simp at this; omega
        generalize bs[k] = x at *
        obtain ⟨vx, n1, s1, w1, l1⟩ := x
        dsimp only at *
        obtain ⟨A5, n5, c5, rfl, hn5, hc5, hm5, hx5⟩ := id hsa
        rw [bv_length] at hn5
        obtain ⟨Wm, rfl⟩ : ∃ Wm : Nat, w1 = Wm := ⟨w1.toNat, by have := hwk.1; simp at this; omega⟩
        have hWm : Wm ≤ n5 := by have := hwk.2; simp at this; omega
        have hdr := run_drop (P := Try.prog) (t := 22) Try.underlying22 sizeU A5 n5 c5 (Wm : Int) (by omega) (by omega)
        rw [Int.toNat_natCast] at hdr
        simp only [Nat.mul_one] at hdr
        obtain ⟨A2, hA2⟩ : ∃ A2, A2 = if c5 = Wm then A5 else A5.map (fun x => x.add Wm) := ⟨_, rfl⟩
        rw [← hA2] at hdr
        have hdrop := hsa.drop Wm (by omega)
        rw [← hA2, show (bv l1).drop Wm = bv (l1.drop Wm) from by simp [bv, List.map_drop]] at hdrop
        have hsum : s + (bv (l1.drop Wm)).length ≤ 100000000 := by
          rw [hstep, List.length_append] at hle
          simp only [bv_length, Int.toNat_natCast] at hle ⊢
          omega
        have HA := Lib.hid (And.intro hown (And.intro hF (And.intro hdrop (And.intro hsum (And.intro hstep hn5)))))
        clear hx hK ht hm hown hF sa hsa hwk hstep hle hs hx5 hA2 hdrop hsum hrel hn5 hkb hg1
        go_upto_region 5 with fail
        have hFa : Frm (fun _ => False) wr (wr.alloc (.cells #[.int .i64 n1, .int .i64 s1, .int .i64 Wm, .slice A5 n5 c5] 40)) := (Frm.refl _ wr).alloc _
        have hb := Blk.new wr 40 #[.int .i64 n1, .int .i64 s1, .int .i64 Wm, .slice A5 n5 c5]
        obtain ⟨g, hg⟩ : ∃ g, g = wr.heap.size := ⟨_, rfl⟩
        rw [← hg] at hb
        rw [← hg]
        generalize wr.alloc (.cells #[.int .i64 n1, .int .i64 s1, .int .i64 Wm, .slice A5 n5 c5] 40) = wa at *
        obtain ⟨p0, p1, p2, p3, -⟩ := blk4 hb
        have hK9 := H.out.2.1
        obtain ⟨hown, hF, hdrop, -⟩ := HA.out
        have hda : Sl wa K (.slice A2 (n5 - Wm) (c5 - Wm)) (bv (l1.drop Wm)) := hdrop.kept fun q hq => hFa.block q (Nat.lt_of_lt_of_le (hK9 q hq) hF.size) id
        have howa := hFa.own hown fun _ _ => id
        have hza : w.heap.size ≤ wa.heap.size := Nat.le_trans hF.size hFa.size
        have HB := Lib.hid (And.intro hda (And.intro howa (And.intro hza (hF.trans hFa fun _ h => h.elim))))
        clear hda howa hza hF hdrop hown hK9 hFa hb hg a0 a1 a2 a3
        go_wp2_with (at_builtin; refine wpList_append_sl (by rfl) _ _ 22 (by rfl) w.heap.size 5 i0 (.int .u8 0) 1 Try.underlying22 hi hz0 hz1 hz2 (by rfl) _ s _ (by rfl) HB.out.2.1 K _ (bv (l1.drop Wm)) (by rfl) HB.out.1 (bv_one _) (by unfold maxLen; have := HA.out.2.2.2.1; omega) (by have := HA.out.2.2.2.1; omega) HB.out.2.2.1 ?_; intro A1 N c1 w1 HN hNc hc1 hown1 hg1 hat1)
        go_roundw
        case rel => exact ⟨k + 1, by omega, by go_num, Lib.hid ⟨N, by rw [HA.out.2.2.2.2.1, Int.toNat_natCast, bv_app]; exact hown1, HB.out.2.2.2.grown hg1 fun x hx => .inr (HB.out.2.1.lt x hx).1⟩⟩
        case measure => simp [intOf]; omega
      · have hstep : joinG ((bs.map (·.c)).take (k + 1)) = joinG ((bs.map (·.c)).take k) := by
          rw [List.take_succ_eq_append_getElem (by simpa using hkb), joinG_append, joinG_one]
          rw [List.getElem_map, partG_no hwk, List.append_nil]
        generalize bs[k] = x at *
        obtain ⟨vx, n1, s1, w1, l1⟩ := x
        dsimp only at *
        obtain ⟨A5, n5, c5, rfl, hn5, -⟩ := id hsa
        rw [bv_length] at hn5
        have hwk' : ¬ (0 ≤ w1 ∧ w1 ≤ (n5 : Int)) := by rw [hn5]; exact hwk
        have HA := Lib.hid (And.intro hown (And.intro hF hstep))
        clear hx hK ht hm hown hF sa hsa hwk hstep hrel hn5 hkb hg1
        go_upto_region 5 with fail
        have hFa : Frm (fun _ => False) wr (wr.alloc (.cells #[.int .i64 n1, .int .i64 s1, .int .i64 w1, .slice A5 n5 c5] 40)) := (Frm.refl _ wr).alloc _
        have hb := Blk.new wr 40 #[.int .i64 n1, .int .i64 s1, .int .i64 w1, .slice A5 n5 c5]
        obtain ⟨g, hg⟩ : ∃ g, g = wr.heap.size := ⟨_, rfl⟩
        rw [← hg] at hb
        rw [← hg]
        generalize wr.alloc (.cells #[.int .i64 n1, .int .i64 s1, .int .i64 w1, .slice A5 n5 c5] 40) = wa at *
        obtain ⟨p0, p1, p2, p3, -⟩ := blk4 hb
        have HB := Lib.hid hFa
        clear hb hg hFa a0 a1 a2 a3
        by_cases h0 : 0 ≤ w1
        · have g0 : decide (0 ≤ w1) = true := by simpa using h0
          have g1 : decide (w1 ≤ (n5 : Int)) = false := by simp; omega
          clear hwk'
          go_wp2_with fail
          go_roundw
          case rel => exact ⟨k + 1, by omega, by go_num, Lib.hid ⟨s, by rw [HA.out.2.2]; exact HB.out.own HA.out.1 fun _ _ => id, HA.out.2.1.trans HB.out fun _ h => h.elim⟩⟩
          case measure => simp [intOf]; omega
        · have g0 : decide (0 ≤ w1) = false := by simp; omega
          clear hwk'
          go_wp2_with fail
          go_roundw
          case rel => exact ⟨k + 1, by omega, by go_num, Lib.hid ⟨s, by rw [HA.out.2.2]; exact HB.out.own HA.out.1 fun _ _ => id, HA.out.2.1.trans HB.out fun _ h => h.elim⟩⟩
          case measure => simp [intOf]; omega
    · obtain rfl : k = m := by omega
      go_wp2_with fail
      go_ret
      obtain ⟨s, hown, hF⟩ := hrel.out
      obtain ⟨-, -, -, hm⟩ := H.out
      rw [List.take_of_length_le (by simp; omega)] at hown
      have hs : s = (joinG (bs.map (·.c))).length := by have := hown.1; simp at this; omega
      subst hs
      exact ⟨_, rfl, hown, hF⟩
end Go.Proofs.Ytecpbnkkgdppoaa
