/- The walk of teasellaw21.FifoOwn. -/
import Derived.Test.YtchhfhldpkaadaaTh
import Derived.Deep.RegionHeld3
namespace Go.Proofs.Ytchhfhldpkaadaa
open Go.RowKit Go.Shelf
/-- A row of ints of the walk's own, whatever is in it. -/
def Mine (w : World) (B : Nat) (A : Option Addr) (N : Nat) : Prop := N = 0 ∨ ∃ g o cs, A = some ⟨g, o, none⟩ ∧ B ≤ g ∧ Blk w g 3 cs ∧ ∀ i, i < N → ∃ x, cs[o + i]? = some (.int .i64 x)
theorem Mine.of {w : World} {B N c : Nat} {A : Option Addr} {xs : List Int} (h : OSl w (fun k => B ≤ k) 3 (.slice A N c) (xs.map iv)) : Mine w B A N := by
  obtain ⟨A', N', c', he, hn, _, _, hx⟩ := h
  cases he
  rcases hx with ⟨rfl, rfl⟩ | ⟨g, o, cs, rfl, hK, hb, _, hx⟩
  · exact .inl (by omega)
  · exact .inr ⟨g, o, cs, rfl, hK, hb, fun i hi => ⟨_, by rw [hx i (by omega)]; simp [iv]; rfl⟩⟩
theorem Mine.set_ {w : World} {B N g o : Nat} (h : Mine w B (some ⟨g, o, none⟩) N) (hN : N ≠ 0) (i : Nat) (x : Int) : Mine (w.setCell ⟨g, o + i, none⟩ (.int .i64 x)) B (some ⟨g, o, none⟩) N := by
  obtain ⟨g', o', cs, hA, hB, hb, hc⟩ := h.resolve_left hN
  cases hA
  refine .inr ⟨g, o, _, rfl, hB, hb.set_ _ _, fun j hj => ?_⟩
  obtain ⟨y, hy⟩ := hc j hj
  rw [Array.getElem?_setIfInBounds]
  split
  · obtain ⟨h1, _⟩ := Array.getElem?_eq_some_iff.1 hy
    exact ⟨x, by rw [if_pos (by omega)]⟩
  · exact ⟨y, hy⟩
set_option maxRecDepth 100000 in
set_option maxHeartbeats 4000000 in
theorem own_any (room : Int) (hroom : room ≤ 9223372036854775807) (A : Option Addr) (n c : Nat) (l : List Int) (w : World) (h : Sl w (fun k => k < w.heap.size) (.slice A n c) (l.map iv)) :
    Calls Try.prog 6 #[.int .i64 room, .slice A n c] w fun e w' => e = .returned (.bool true) ∧ Frm (fun _ => False) w w' := by
  have hbd : n = l.length ∧ n ≤ c ∧ c ≤ 9223372036854775807 := by
    obtain ⟨A', n', c', he, hn, hc, hm, _⟩ := h
    cases he
    rw [List.length_map] at hn
    exact ⟨hn, hc, hm⟩
  obtain ⟨hn, hnc, hcm⟩ := hbd
  have H := Lib.hid (And.intro h hn)
  clear h hn
  have hmay := may_any room
  by_cases hr : 1 ≤ room ∧ room ≤ 16
  · obtain ⟨m, rfl⟩ := Int.eq_ofNat_of_zero_le (show 0 ≤ room by omega)
    rw [show decide (1 ≤ (m : Int) ∧ (m : Int) ≤ 16) = true from by simpa using hr] at hmay
    have Hmay := Lib.hid hmay
    clear hmay
    by_cases h40 : (40 : Int) < (n : Int)
    · go_enter Try.func6, Try.ntmps6
      go_wp2_with fail
      refine (Hmay.out w).mono ?_
      rintro e w' ⟨rfl, rfl⟩
      go_wp2_with fail
      refine (wakes_any w).mono ?_
      rintro e w' ⟨rfl, hF⟩
      go_wp2_with fail
      go_ret
      exact ⟨rfl, hF⟩
    · obtain ⟨i0, hi, hz0, hz1, hz2⟩ := info_parts CI.infoI
      go_enter Try.func6, Try.ntmps6
      go_wp2_with fail
      refine (Hmay.out w).mono ?_
      rintro e w' ⟨rfl, rfl⟩
      clear Hmay
      go_wp2_with fail
      refine (QI.W.new m w (by omega) (by omega)).mono ?_
      rintro e w1 ⟨b, g, rfl, hW, hb, hg⟩
      have HT := Lib.hid (And.intro hW (And.intro hb hg))
      clear hW hb hg
      by_cases hmn : n ≤ m
      · have htk := fun w => run_take (P := Try.prog) (sz := 1) Try.underlying31 (fun w => by kernel_rfl) A n c (n : Int) (by omega) (by omega) w
        simp only [Int.toNat_natCast] at htk
        have hsl : Sl w (fun k => k < w.heap.size) (.slice A n c) ((l.take n).map iv) := by
          obtain ⟨⟨A', n', c', he, _, _, _, hx⟩, hn⟩ := H.out
          cases he
          refine ⟨A, n, c, rfl, by simp; omega, by omega, hcm, ?_⟩
          rcases hx with h0 | ⟨g, o, rfl, hK, hx⟩
          · exact .inl (by omega)
          · exact .inr ⟨g, o, rfl, hK, fun i hi => by rw [hx i (by simp at hi ⊢; omega)]; simp⟩
        have Hs := Lib.hid hsl
        clear hsl
        have hN16 := (show n ≤ n ∧ n ≤ m ∧ n ≤ 16 from by omega)
        have hown0 : ∀ w2, (w1.alloc (Obj.cells #[] 3)).grownBy w2 (Value.slice (some ⟨w1.heap.size, 0, none⟩) 0 0).ownBlock → Frm (fun _ => False) w1 w2 := fun w2 hg => ((Frm.refl _ w1).alloc _).grown hg (fun k hk => Or.inr (by have h : some w1.heap.size = some k := hk; injection h; omega))
        have Hfr := Lib.hid hown0
        clear hown0
        go_wp2_with (at_builtin; refine wpList_append_sl (by rfl) _ _ 31 (by rfl) w1.heap.size 3 i0 (.int .i64 0) 8 Try.underlying31 hi hz0 hz1 hz2 (by rfl) _ 0 [] (by rfl) (own_new0 rfl (Nat.le_refl _)) (fun k => k < w.heap.size) _ ((l.take n).map iv) (by rfl) (by exact Hs.out.keptTo fun k hk => ⟨(HT.out.1.2.1.alloc _).block k hk id, hk⟩) (iv_one _) (by unfold maxLen; rw [List.length_map, List.length_take]; omega) (by rw [List.length_map, List.length_take]; omega) (by simp) ?_; intro A2 N2 c2 w2 HN2 hNc2 hc2 hown2 hg2 hat2)
        have hN2 : N2 = n := by have := HN2.out; have := H.out.2; simp at *; omega
        have hF2 := Hfr.out w2 hg2
        have HO := Lib.hid (And.intro hown2 hF2)
        clear hown2 hg2 hat2 HN2 hF2 Hfr
        subst hN2
        have hfitc : ([] : List Int).length + (l.take N2).length ≤ m := by simp; omega
        have Hfit := Lib.hid hfitc
        clear hfitc
        have hO1 : OSl w2 (fun k => w1.heap.size ≤ k ∧ k < w2.heap.size) 3 (.slice A2 N2 c2) ((l.take N2).map iv) := OSl.of_own (by simpa using HO.out.1) (fun g hg => HO.out.1.lt g hg)
        have HO1 := Lib.hid hO1
        clear hO1
        go_wp2_with fail
        refine ((HT.out.1.same HO.out.2).put (l := l.take N2) HO1.out.sl (fun k hk => ⟨by have := HT.out.2.1; have := hk.1.1; omega, by have := HT.out.2.2; have := hk.1.1; omega, hk.lt⟩) Hfit.out).mono ?_
        rintro e w3 ⟨rfl, hW3, hF3⟩
        have HM : Hid (Mine w3 w1.heap.size A2 N2) := Lib.hid (Mine.of (HO1.out.kept (K' := fun k => w1.heap.size ≤ k) fun k hk => ⟨hF3.block k hk.2 (by have := HT.out.2; have := hk.1; omega), hk.1⟩))
        have H3 := Lib.hid hW3
        clear hW3 hF3 HO HO1
        go_wp2_with fail
        go_loopw [10] (fun i wr => ∃ k : Nat, k ≤ N2 ∧ i = .int .i64 k ∧ Hid (Mine wr w1.heap.size A2 N2 ∧ Frm (fun k => w1.heap.size ≤ k) w3 wr)) (fun i _ => N2 - (intOf i).toNat)
        case atStart => exact ⟨0, Nat.zero_le _, rfl, Lib.hid ⟨HM.out, Frm.refl _ _⟩⟩
        case round =>
          obtain ⟨k, hk, rfl, hrel⟩ := hrel
          by_cases hlt : k < N2
          · obtain ⟨ga, o, cs, rfl, hga, hb, hcs⟩ := hrel.out.1.resolve_left (by omega)
            obtain ⟨x, hx⟩ := hcs k hlt
            have c0 : wr.cell? ⟨ga, o + k, none⟩ = some (.int .i64 x) := (hb.cell _).trans hx
            have f0 : wr.frozen? ⟨ga, o + k, none⟩ = false := hb.frozen _
            clear hb hcs hx
            go_wp2_with fail
            go_roundw
            case rel => exact ⟨k + 1, by omega, by go_num, Lib.hid ⟨hrel.out.1.set_ (by omega) k _, hrel.out.2.setCell ⟨ga, o + k, none⟩ (.inl hga) _⟩⟩
            case measure => simp [intOf]; omega
          · obtain rfl : k = N2 := by omega
            have H4 := Lib.hid (H3.out.kept hrel.out.2 (by have := HT.out.2; omega) (by have := HT.out.2; omega) (fun q hq => by have := HT.out.1.2.1.size; omega))
            have HB : Hid (b < wr.heap.size ∧ g < wr.heap.size) := Lib.hid H4.out.1.lt
            clear H3 hrel HM hlt
            go_wp2_with fail
            refine H4.out.all.mono ?_
            rintro e w5 ⟨v5, rfl, hv5, hW5, hF5⟩
            obtain ⟨A5, N5, c5, rfl, -, hc5, hm5, -⟩ := id hv5
            have HM5 : Hid (Mine w5 wr.heap.size A5 N5) := Lib.hid (Mine.of hv5)
            have H5 := Lib.hid hW5
            clear hv5 hW5 hF5 H4
            generalize wr.heap.size = BB at *
            go_wp2_with fail
            go_loopw [12] (fun i wq => ∃ q : Nat, q ≤ N5 ∧ i = .int .i64 q ∧ Hid (Mine wq BB A5 N5 ∧ Frm (fun k => BB ≤ k) w5 wq)) (fun i _ => N5 - (intOf i).toNat)
            case atStart => exact ⟨0, Nat.zero_le _, rfl, Lib.hid ⟨HM5.out, Frm.refl _ _⟩⟩
            case round =>
              obtain ⟨q, hq, rfl, hrel⟩ := hrel
              by_cases hlt : q < N5
              · obtain ⟨ga, o, cs, rfl, hga, hb, hcs⟩ := hrel.out.1.resolve_left (by omega)
                obtain ⟨x, hx⟩ := hcs q hlt
                have c0 : wr.cell? ⟨ga, o + q, none⟩ = some (.int .i64 x) := (hb.cell _).trans hx
                have f0 : wr.frozen? ⟨ga, o + q, none⟩ = false := hb.frozen _
                clear hb hcs hx
                go_wp2_with fail
                go_roundw
                case rel => exact ⟨q + 1, by omega, by go_num, Lib.hid ⟨hrel.out.1.set_ (by omega) q _, hrel.out.2.setCell ⟨ga, o + q, none⟩ (.inl hga) _⟩⟩
                case measure => simp [intOf]; omega
              · obtain rfl : q = N5 := by omega
                have H6 := Lib.hid (H5.out.kept hrel.out.2 (by have := HB.out; omega) (by have := HB.out; omega) (fun q hq => by have := H5.out.2.1.size; have := HB.out; have := H5.out.2.2; omega))
                clear hrel HM5 H5
                go_wp2_with fail
                go_region_held3 (fun _ => True) (exact trivial)
                  (first
                  | (go_at_call 20; refine ((H6.out.drewN 1).all).mono ?_; rintro e w7 ⟨v7, rfl, hv7, hW7, hF7⟩; have H7 := Lib.hid hW7)
                  | (go_at_call 19; refine (ints_any v7 (.slice A k c) _ _ (l.take k) (l.take k) _ (by exact hv7.sl) (by exact Hs.out.keptTo (K' := fun _ => True) fun k hk => ⟨H7.out.2.1.block k hk id, trivial⟩)).mono ?_; rintro e w8 ⟨rfl, k8, rfl⟩; have H8 := Lib.hid (H7.out.drewN k8))
                  | (go_at_call 8; refine (wakes_any _).mono ?_; rintro e w9 ⟨rfl, hF9⟩))
                go_wp2_with fail
                go_ret
                exact ⟨by simp, H8.out.2.1.trans hF9 (fun _ h => h.elim)⟩
      · have htk := fun w => run_take (P := Try.prog) (sz := 1) Try.underlying31 (fun w => by kernel_rfl) A n c (m : Int) (by omega) (by omega) w
        simp only [Int.toNat_natCast] at htk
        have hsl : Sl w (fun k => k < w.heap.size) (.slice A m c) ((l.take m).map iv) := by
          obtain ⟨⟨A', n', c', he, _, _, _, hx⟩, hn⟩ := H.out
          cases he
          refine ⟨A, m, c, rfl, by simp; omega, by omega, hcm, ?_⟩
          rcases hx with h0 | ⟨g, o, rfl, hK, hx⟩
          · exact .inl (by omega)
          · exact .inr ⟨g, o, rfl, hK, fun i hi => by rw [hx i (by simp at hi ⊢; omega)]; simp⟩
        have Hs := Lib.hid hsl
        clear hsl
        have hN16 := (show m ≤ n ∧ m ≤ m ∧ m ≤ 16 from by omega)
        have hown0 : ∀ w2, (w1.alloc (Obj.cells #[] 3)).grownBy w2 (Value.slice (some ⟨w1.heap.size, 0, none⟩) 0 0).ownBlock → Frm (fun _ => False) w1 w2 := fun w2 hg => ((Frm.refl _ w1).alloc _).grown hg (fun k hk => Or.inr (by have h : some w1.heap.size = some k := hk; injection h; omega))
        have Hfr := Lib.hid hown0
        clear hown0
        go_wp2_with (at_builtin; refine wpList_append_sl (by rfl) _ _ 31 (by rfl) w1.heap.size 3 i0 (.int .i64 0) 8 Try.underlying31 hi hz0 hz1 hz2 (by rfl) _ 0 [] (by rfl) (own_new0 rfl (Nat.le_refl _)) (fun k => k < w.heap.size) _ ((l.take m).map iv) (by rfl) (by exact Hs.out.keptTo fun k hk => ⟨(HT.out.1.2.1.alloc _).block k hk id, hk⟩) (iv_one _) (by unfold maxLen; rw [List.length_map, List.length_take]; omega) (by rw [List.length_map, List.length_take]; omega) (by simp) ?_; intro A2 N2 c2 w2 HN2 hNc2 hc2 hown2 hg2 hat2)
        have hN2 : N2 = m := by have := HN2.out; have := H.out.2; simp at *; omega
        have hF2 := Hfr.out w2 hg2
        have HO := Lib.hid (And.intro hown2 hF2)
        clear hown2 hg2 hat2 HN2 hF2 Hfr
        subst hN2
        have hfitc : ([] : List Int).length + (l.take N2).length ≤ N2 := by simp; omega
        have Hfit := Lib.hid hfitc
        clear hfitc
        have hO1 : OSl w2 (fun k => w1.heap.size ≤ k ∧ k < w2.heap.size) 3 (.slice A2 N2 c2) ((l.take N2).map iv) := OSl.of_own (by simpa using HO.out.1) (fun g hg => HO.out.1.lt g hg)
        have HO1 := Lib.hid hO1
        clear hO1
        go_wp2_with fail
        refine ((HT.out.1.same HO.out.2).put (l := l.take N2) HO1.out.sl (fun k hk => ⟨by have := HT.out.2.1; have := hk.1.1; omega, by have := HT.out.2.2; have := hk.1.1; omega, hk.lt⟩) Hfit.out).mono ?_
        rintro e w3 ⟨rfl, hW3, hF3⟩
        have HM : Hid (Mine w3 w1.heap.size A2 N2) := Lib.hid (Mine.of (HO1.out.kept (K' := fun k => w1.heap.size ≤ k) fun k hk => ⟨hF3.block k hk.2 (by have := HT.out.2; have := hk.1; omega), hk.1⟩))
        have H3 := Lib.hid hW3
        clear hW3 hF3 HO HO1
        go_wp2_with fail
        go_loopw [10] (fun i wr => ∃ k : Nat, k ≤ N2 ∧ i = .int .i64 k ∧ Hid (Mine wr w1.heap.size A2 N2 ∧ Frm (fun k => w1.heap.size ≤ k) w3 wr)) (fun i _ => N2 - (intOf i).toNat)
        case atStart => exact ⟨0, Nat.zero_le _, rfl, Lib.hid ⟨HM.out, Frm.refl _ _⟩⟩
        case round =>
          obtain ⟨k, hk, rfl, hrel⟩ := hrel
          by_cases hlt : k < N2
          · obtain ⟨ga, o, cs, rfl, hga, hb, hcs⟩ := hrel.out.1.resolve_left (by omega)
            obtain ⟨x, hx⟩ := hcs k hlt
            have c0 : wr.cell? ⟨ga, o + k, none⟩ = some (.int .i64 x) := (hb.cell _).trans hx
            have f0 : wr.frozen? ⟨ga, o + k, none⟩ = false := hb.frozen _
            clear hb hcs hx
            go_wp2_with fail
            go_roundw
            case rel => exact ⟨k + 1, by omega, by go_num, Lib.hid ⟨hrel.out.1.set_ (by omega) k _, hrel.out.2.setCell ⟨ga, o + k, none⟩ (.inl hga) _⟩⟩
            case measure => simp [intOf]; omega
          · obtain rfl : k = N2 := by omega
            have H4 := Lib.hid (H3.out.kept hrel.out.2 (by have := HT.out.2; omega) (by have := HT.out.2; omega) (fun q hq => by have := HT.out.1.2.1.size; omega))
            have HB : Hid (b < wr.heap.size ∧ g < wr.heap.size) := Lib.hid H4.out.1.lt
            clear H3 hrel HM hlt
            go_wp2_with fail
            refine H4.out.all.mono ?_
            rintro e w5 ⟨v5, rfl, hv5, hW5, hF5⟩
            obtain ⟨A5, N5, c5, rfl, -, hc5, hm5, -⟩ := id hv5
            have HM5 : Hid (Mine w5 wr.heap.size A5 N5) := Lib.hid (Mine.of hv5)
            have H5 := Lib.hid hW5
            clear hv5 hW5 hF5 H4
            generalize wr.heap.size = BB at *
            go_wp2_with fail
            go_loopw [12] (fun i wq => ∃ q : Nat, q ≤ N5 ∧ i = .int .i64 q ∧ Hid (Mine wq BB A5 N5 ∧ Frm (fun k => BB ≤ k) w5 wq)) (fun i _ => N5 - (intOf i).toNat)
            case atStart => exact ⟨0, Nat.zero_le _, rfl, Lib.hid ⟨HM5.out, Frm.refl _ _⟩⟩
            case round =>
              obtain ⟨q, hq, rfl, hrel⟩ := hrel
              by_cases hlt : q < N5
              · obtain ⟨ga, o, cs, rfl, hga, hb, hcs⟩ := hrel.out.1.resolve_left (by omega)
                obtain ⟨x, hx⟩ := hcs q hlt
                have c0 : wr.cell? ⟨ga, o + q, none⟩ = some (.int .i64 x) := (hb.cell _).trans hx
                have f0 : wr.frozen? ⟨ga, o + q, none⟩ = false := hb.frozen _
                clear hb hcs hx
                go_wp2_with fail
                go_roundw
                case rel => exact ⟨q + 1, by omega, by go_num, Lib.hid ⟨hrel.out.1.set_ (by omega) q _, hrel.out.2.setCell ⟨ga, o + q, none⟩ (.inl hga) _⟩⟩
                case measure => simp [intOf]; omega
              · obtain rfl : q = N5 := by omega
                have H6 := Lib.hid (H5.out.kept hrel.out.2 (by have := HB.out; omega) (by have := HB.out; omega) (fun q hq => by have := H5.out.2.1.size; have := HB.out; have := H5.out.2.2; omega))
                clear hrel HM5 H5
                go_wp2_with fail
                go_region_held3 (fun _ => True) (exact trivial)
                  (first
                  | (go_at_call 20; refine ((H6.out.drewN 1).all).mono ?_; rintro e w7 ⟨v7, rfl, hv7, hW7, hF7⟩; have H7 := Lib.hid hW7)
                  | (go_at_call 19; refine (ints_any v7 (.slice A k c) _ _ (l.take k) (l.take k) _ (by exact hv7.sl) (by exact Hs.out.keptTo (K' := fun _ => True) fun k hk => ⟨H7.out.2.1.block k hk id, trivial⟩)).mono ?_; rintro e w8 ⟨rfl, k8, rfl⟩; have H8 := Lib.hid (H7.out.drewN k8))
                  | (go_at_call 8; refine (wakes_any _).mono ?_; rintro e w9 ⟨rfl, hF9⟩))
                go_wp2_with fail
                go_ret
                exact ⟨by simp, H8.out.2.1.trans hF9 (fun _ h => h.elim)⟩
  · rw [show decide (1 ≤ room ∧ room ≤ 16) = false from by simpa using hr] at hmay
    have Hmay := Lib.hid hmay
    clear hmay hr
    go_enter Try.func6, Try.ntmps6
    go_wp2_with fail
    refine (Hmay.out w).mono ?_
    rintro e w' ⟨rfl, rfl⟩
    go_wp2_with fail
    refine (wakes_any w).mono ?_
    rintro e w' ⟨rfl, hF⟩
    go_wp2_with fail
    go_ret
    exact ⟨rfl, hF⟩
end Go.Proofs.Ytchhfhldpkaadaa
