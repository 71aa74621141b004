/- The walk of teasellaw18.BufferOwn. -/
import Derived.Test.YtkmammeaidfaaaaTells
namespace Go.Proofs.Ytkmammeaidfaaaa
open Go.RowKit
/-- A row of bytes of the walk's own, whatever is in it. -/
def Mine (w : World) (lo hi : Nat) (A : Option Addr) (N : Nat) : Prop := N = 0 ∨ ∃ g o cs, A = some ⟨g, o, none⟩ ∧ (lo ≤ g ∧ g < hi) ∧ Blk w g 5 cs ∧ ∀ i, i < N → ∃ x, cs[o + i]? = some (.int .u8 x)
theorem Mine.of {w : World} {lo hi N c : Nat} {A : Option Addr} {xs : List UInt8} (h : OSl w (fun k => lo ≤ k ∧ k < hi) 5 (.slice A N c) (bv xs)) : Mine w lo hi A N := by
  obtain ⟨A', N', c', he, hn, _, _, hx⟩ := h
  cases he
  rcases hx with ⟨rfl, rfl⟩ | ⟨g, o, cs, rfl, hK, hb, _, hx⟩
  · exact .inl (by omega)
  · exact .inr ⟨g, o, cs, rfl, hK, hb, fun i hi => ⟨_, by rw [hx i (by omega)]; simp [bv]; rfl⟩⟩
theorem Mine.set_ {w : World} {lo hi N g o : Nat} (h : Mine w lo hi (some ⟨g, o, none⟩) N) (hN : N ≠ 0) (i : Nat) (x : Int) : Mine (w.setCell ⟨g, o + i, none⟩ (.int .u8 x)) lo hi (some ⟨g, o, none⟩) N := by
  obtain ⟨g', o', cs, hA, hB, hb, hc⟩ := h.resolve_left hN
  cases hA
  refine .inr ⟨g, o, _, rfl, hB, hb.set_ _ _, fun j hj => ?_⟩
  obtain ⟨y, hy⟩ := hc j hj
  rw [Array.getElem?_setIfInBounds]
  split
  · obtain ⟨h1, _⟩ := Array.getElem?_eq_some_iff.1 hy
    exact ⟨x, by rw [if_pos (by omega)]⟩
  · exact ⟨y, hy⟩
/-- The pool, apart from the blocks from lo up to hi. -/
def O2 (w0 : World) (b : Nat) (fr : List Nat) (us : List Bool) (dt : List (List UInt8)) (lo hi : Nat) (wr : World) : Prop :=
  ∃ S, PAt wr S b 1 200 fr us dt ∧ (∀ k, S k → w0.heap.size ≤ k) ∧ (∀ k, lo ≤ k → k < hi → ¬ S k) ∧ hi ≤ wr.heap.size ∧ Frm (fun _ => False) w0 wr ∧ w0.heap.size ≤ lo
section
variable {w0 wr w2 : World} {b lo hi : Nat} {fr : List Nat} {us : List Bool} {dt : List (List UInt8)}
theorem O2.pw (h : O2 w0 b fr us dt lo hi wr) : PW w0 b 1 200 fr us dt wr := by
  obtain ⟨S, h1, h2, h3, h4, h5, h6⟩ := h
  exact ⟨S, h1, h2, h5⟩
theorem O2.of (h : PW w0 b 1 200 fr us dt wr) (hF : Frm (fun _ => False) wr w2) : O2 w0 b fr us dt wr.heap.size w2.heap.size w2 := by
  obtain ⟨S, h1, h2, h3⟩ := h
  exact ⟨S, h1.keptF hF, h2, fun k hk _ hk' => by have := h1.lt.2 k hk'; omega, Nat.le_refl _, h3.trans hF fun _ h => h.elim, h3.size⟩
theorem O2.write (h : O2 w0 b fr us dt lo hi wr) (hF : Frm (fun k => lo ≤ k ∧ k < hi) wr w2) : O2 w0 b fr us dt lo hi w2 := by
  obtain ⟨S, h1, h2, h3, h4, h5, h6⟩ := h
  exact ⟨S, h1.kept hF fun k hk hk' => h3 k hk'.1 hk'.2 hk, h2, h3, Nat.le_trans h4 hF.size, h5.trans hF fun k hk => .inr (by omega), h6⟩
theorem O2.put (h : O2 w0 b fr us dt lo hi wr) {l bs : List UInt8} {K : Nat → Prop} {a : Value} (hu : us[0]? = some true) (hdl : dt[0]? = some l) (hs : Sl wr K a (bv bs)) (hK : ∀ k, K k → k < wr.heap.size) (hlt : l.length + bs.length ≤ 200) :
    Calls Try.prog 16 #[.pointer (some ⟨b, 0, none⟩), .int .i64 0, a] wr fun e w2 => e = .returned (.bool true) ∧ O2 w0 b fr us (dt.set 0 (l ++ bs)) lo hi w2 ∧ ∀ k, lo ≤ k → k < hi → w2.heap[k]? = wr.heap[k]? := by
  obtain ⟨S, h1, h2, h3, h4, h5, h6⟩ := h
  refine (put_ok S K b 1 200 0 fr us dt l bs a wr h1 hu hdl hs hK hlt).mono fun e w' ⟨he, S', p1, p2, p3⟩ => ⟨he, ⟨S', p1, fun k hk => ?_, fun k hk1 hk2 hk => ?_, Nat.le_trans h4 p3.size, h5.trans p3 fun k hk => .inr (h2 k hk), h6⟩, fun k hk1 hk2 => p3.block k (by omega) (h3 k hk1 hk2)⟩
  · have := h5.size
    rcases p2 k hk with h | h
    · exact h2 k h
    · omega
  · rcases p2 k hk with h | h
    · exact h3 k hk1 hk2 h
    · omega
end
set_option maxRecDepth 100000 in
set_option maxHeartbeats 8000000 in
theorem own_any (A : Option Addr) (n c : Nat) (bs : List UInt8) (w : World) (h : Sl w (fun k => k < w.heap.size) (.slice A n c) (bv bs)) :
    Calls Try.prog 6 #[.slice A n c] w fun e w' => e = .returned (.bool true) ∧ Frm (fun _ => False) w w' := by
  have hbd : n = bs.length ∧ n ≤ c ∧ c ≤ 9223372036854775807 := by
    obtain ⟨A', n', c', he, hn, hc, hm, _⟩ := h
    cases he
    rw [bv_length] at hn
    exact ⟨hn, hc, hm⟩
  obtain ⟨hn, hnc, hcm⟩ := hbd
  have H := Lib.hid (And.intro h hn)
  clear h hn
  by_cases h200 : (200 : Int) < (n : Int)
  · go_enter Try.func6, Try.ntmps6
    go_wp2_with fail
    refine (wakes_any w).mono ?_
    rintro e w' ⟨rfl, hF⟩
    go_wp2_with fail
    go_ret
    exact ⟨rfl, hF⟩
  · obtain ⟨i0, hi, hz0, hz1, hz2⟩ := info_parts infoB
    go_enter Try.func6, Try.ntmps6
    go_wp2_with fail
    refine (new_ok 1 200 w (by omega) (by omega) (by omega) (by omega)).mono ?_
    rintro e w1 ⟨b, S, rfl, hP, hS, hF1⟩
    have HP : Hid (∃ S, PAt w1 S b 1 200 ([] ++ [0]) [false] [[]] ∧ (∀ k, S k → w.heap.size ≤ k) ∧ Frm (fun _ => False) w w1) := Lib.hid ⟨S, hP, hS, hF1⟩
    clear hP hS hF1
    go_wp2_with fail
    refine (take_ok HP.out.choose b 1 200 0 [] [false] [[]] w1 HP.out.choose_spec.1).mono ?_
    rintro e w2 ⟨rfl, hL⟩
    have H2 : Hid (PW w b 1 200 [] [true] [[]] w2) := Lib.hid (PW.step HP.out.choose_spec.2.1 HP.out.choose_spec.2.2 hL)
    clear hL
    go_wp2_with (at_builtin; refine wpList_append_sl (by rfl) _ _ 32 (by rfl) w2.heap.size 5 i0 (.int .u8 0) 1 Try.underlying32 hi hz0 hz1 hz2 (by rfl) _ 0 [] (by rfl) (own_new0 rfl (Nat.le_refl _)) (fun k => k < w.heap.size) _ (bv bs) (by rfl) (by exact H.out.1.keptTo fun k hk => ⟨(H2.out.frm.alloc _).block k hk id, hk⟩) (bv_one bs) (by unfold maxLen; rw [bv_length]; have := H.out.2; omega) (by rw [bv_length]; have := H.out.2; omega) (by simp) ?_; intro A3 N3 c3 w3 HN3 hNc3 hc3 hown3 hg3 hat3)
    have hF3 : Frm (fun _ => False) w2 w3 := ((Frm.refl _ w2).alloc _).grown hg3 (fun k hk => Or.inr (by have h : some w2.heap.size = some k := hk; injection h; omega))
    have hN3 : N3 = n := by have := HN3.out; have := H.out.2; simp at *; omega
    subst hN3
    have H3 := Lib.hid (And.intro hown3 hF3)
    clear hown3 hg3 hat3 hF3 HN3
    have hO3 : OSl w3 (fun k => w2.heap.size ≤ k ∧ k < w3.heap.size) 5 (.slice A3 N3 c3) (bv bs) := OSl.of_own (by simpa using H3.out.1) (fun g hg => H3.out.1.lt g hg)
    have HO3 := Lib.hid hO3
    clear hO3
    go_wp2_with fail
    have hO := O2.of H2.out H3.out.2
    refine (hO.put (l := []) (bs := bs) rfl rfl HO3.out.sl (fun k hk => hk.lt) (by have := H.out.2; simp; omega)).mono ?_
    rintro e w4 ⟨rfl, h4, hk4⟩
    have HM : Hid (Mine w4 w2.heap.size w3.heap.size A3 N3) := Lib.hid (Mine.of (HO3.out.kept (K' := fun k => w2.heap.size ≤ k ∧ k < w3.heap.size) fun k hk => ⟨hk4 k hk.1 hk.2, hk⟩))
    have H4 := Lib.hid h4
    clear h4 hk4 hO HO3 H3
    generalize w2.heap.size = lo at *
    generalize w3.heap.size = hi' at *
    go_wp2_with fail
    go_loopw [9] (fun i wr => ∃ k : Nat, k ≤ N3 ∧ i = .int .i64 k ∧ Hid (Mine wr lo hi' A3 N3 ∧ Frm (fun k => lo ≤ k ∧ k < hi') w4 wr)) (fun i _ => N3 - (intOf i).toNat)
    case atStart => exact ⟨0, Nat.zero_le _, rfl, Lib.hid ⟨HM.out, Frm.refl _ _⟩⟩
    case round =>
      clear HM
      obtain ⟨k, hk, rfl, hrel⟩ := hrel
      by_cases hlt : k < N3
      · obtain ⟨ga, o, cs, rfl, hga, hb, hcs⟩ := hrel.out.1.resolve_left (by omega)
        obtain ⟨x, hx⟩ := hcs k hlt
        have c0 : wr.cell? ⟨ga, o + k, none⟩ = some (.int .u8 x) := (hb.cell _).trans hx
        have f0 : wr.frozen? ⟨ga, o + k, none⟩ = false := hb.frozen _
        clear hb hcs hx
        go_wp2_with fail
        go_roundw
        case rel => exact ⟨k + 1, by omega, by go_num, Lib.hid ⟨hrel.out.1.set_ (by omega) k _, hrel.out.2.setCell ⟨ga, o + k, none⟩ (.inl hga) _⟩⟩
        case measure => simp [intOf]; omega
      · obtain rfl : k = N3 := by omega
        have H5 := Lib.hid (H4.out.write hrel.out.2)
        clear hrel H4 hlt hk
        go_wp2_with fail
        refine (H5.out.pw.data (n := 0) (l := [] ++ bs) rfl rfl rfl).mono ?_
        rintro e w6 ⟨v6, rfl, ho6, hF6⟩
        have hnb : ([] ++ bs : List UInt8).length = k := by have := H.out.2; simp; omega
        rw [hnb] at ho6
        have HM : Hid (Mine w6 wr.heap.size w6.heap.size (match v6 with | .slice A _ _ => A | _ => none) k) := Lib.hid (by
          obtain ⟨A6, c6, rfl, _, _⟩ := own_form ho6
          exact Mine.of (xs := bs) (OSl.of_own (by simpa using ho6) (fun g hg => ho6.lt g hg)))
        obtain ⟨A6, c6, rfl, hc6, hc6'⟩ := own_form ho6
        dsimp only at HM
        have H6 := Lib.hid (O2.of H5.out.pw hF6)
        clear ho6 hF6 H5 hnb
        generalize wr.heap.size = lo6 at *
        generalize w6.heap.size = hi6 at *
        go_wp2_with fail
        go_loopw [11] (fun i wr => ∃ j : Nat, j ≤ k ∧ i = .int .i64 j ∧ Hid (Mine wr lo6 hi6 A6 k ∧ Frm (fun q => lo6 ≤ q ∧ q < hi6) w6 wr)) (fun i _ => k - (intOf i).toNat)
        case atStart => exact ⟨0, Nat.zero_le _, rfl, Lib.hid ⟨HM.out, Frm.refl _ _⟩⟩
        case round =>
          clear HM
          obtain ⟨j, hj, rfl, hrel⟩ := hrel
          by_cases hlt : j < k
          · obtain ⟨ga, o, cs, rfl, hga, hb, hcs⟩ := hrel.out.1.resolve_left (by omega)
            obtain ⟨x, hx⟩ := hcs j hlt
            have c0 : wr.cell? ⟨ga, o + j, none⟩ = some (.int .u8 x) := (hb.cell _).trans hx
            have f0 : wr.frozen? ⟨ga, o + j, none⟩ = false := hb.frozen _
            clear hb hcs hx
            go_wp2_with fail
            go_roundw
            case rel => exact ⟨j + 1, by omega, by go_num, Lib.hid ⟨hrel.out.1.set_ (by omega) j _, hrel.out.2.setCell ⟨ga, o + j, none⟩ (.inl hga) _⟩⟩
            case measure => simp [intOf]; omega
          · obtain rfl : j = k := by omega
            have H7 := Lib.hid (H6.out.write hrel.out.2)
            clear hrel H6 hlt hj
            go_wp2_with fail
            have hcv0 : (convert 32 9 (.slice A j c)).run Try.prog wr.drew = .ok (.string ⟨bs.toArray⟩) wr.drew := run_conv (P := Try.prog) (dst := 9) Try.underlying32 Try.underlying5 Try.underlying9 (w := wr.drew) (H.out.1.keptTo (K' := fun _ => True) fun q hq => ⟨H7.out.pw.frm.block q hq id, trivial⟩)
            go_region_held (fun _ => True) (exact trivial)
              (first
              | (go_at_call 22; refine ((H7.out.pw.same ((Frm.refl _ wr).drewN 1)).data (n := 0) (l := [] ++ bs) rfl rfl rfl).mono ?_; rintro e w8 ⟨v8, rfl, hv8, hF8⟩; have hcv1 := run_conv (P := Try.prog) (dst := 9) Try.underlying32 Try.underlying5 Try.underlying9 (OSl.of_own (K := fun _ => True) (xs := bv bs) hv8 (fun _ _ => trivial)).sl; have H8 := Lib.hid ((H7.out.pw.same ((Frm.refl _ wr).drewN 1)).same hF8); have hcv2 := run_conv (P := Try.prog) (dst := 9) Try.underlying32 Try.underlying5 Try.underlying9 (H.out.1.keptTo (w' := w8) (K' := fun _ => True) fun q hq => ⟨H8.out.frm.block q hq id, trivial⟩))
              | (go_at_call 8; refine (wakes_any _).mono ?_; rintro e w9 ⟨rfl, hF9⟩))
            all_goals
              go_wp2_with fail
              go_ret
              exact ⟨by simp, H8.out.frm.trans hF9 fun _ h => h.elim⟩
end Go.Proofs.Ytkmammeaidfaaaa
