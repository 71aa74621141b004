/- The walks of teaselref18: Put, Bytes, Live, New. -/
import Derived.Test.YtkmammeaidfaaaaRe
namespace Go.Proofs.Ytkmammeaidfaaaa
open Go.RowKit
theorem rput_no (S : Nat → Prop) (b m size : Nat) (row : List Nat) (us : List Bool) (dt : List (List UInt8)) (n : Int) (A : Option Addr) (L c : Nat) (w : World) (h : RAt w S b m size row us dt) (hu : inUse us n = false) :
    Calls Try.prog 17 #[.pointer (some ⟨b, 0, none⟩), .int .i64 n, .slice A L c] w fun e w' => e = .returned (.bool false) ∧ ∃ k, w' = w.drewN k := by
  have H := fun k => uses_any S b m size row us dt n (w.drewN k) (h.drewN k)
  rw [hu] at H
  have H := Lib.hid H
  clear h hu
  go_enter Try.func17, Try.ntmps17
  go_wp2_with fail
  go_quiet ((go_at_call 27; exact quiet_left (H.out _)))
  go_wp2_with fail
  go_ret
  exact ⟨rfl, nq, rfl⟩
theorem rput_full (S : Nat → Prop) (b m size n : Nat) (row : List Nat) (us : List Bool) (dt : List (List UInt8)) (l : List UInt8) (A : Option Addr) (L c : Nat) (w : World) (h : RAt w S b m size row us dt) (hu : us[n]? = some true) (hdl : dt[n]? = some l) (hL : size < l.length + L) (hL2 : L ≤ 1000000) :
    Calls Try.prog 17 #[.pointer (some ⟨b, 0, none⟩), .int .i64 n, .slice A L c] w fun e w' => e = .returned (.bool false) ∧ ∃ k, w' = w.drewN k := by
  have e : inUse us (n : Int) = true := by simp [inUse, List.getD, hu]
  have hhas := fun k => uses_any S b m size row us dt n (w.drewN k) (h.drewN k)
  rw [e] at hhas
  have hnm : n < m := by have := (List.getElem?_eq_some_iff.1 hu).1; have := h.sz.2.1; omega
  have hm16 := h.sz.1.2.1
  have hs288 := h.sz.1.2.2.1
  obtain ⟨gu, gd, vr, vs, h1⟩ := h
  obtain ⟨c0, c1, c2, c3⟩ := h1.cells
  obtain ⟨A', c', l', hl', _, cr, ho, hc1, hc2, hs⟩ := h1.at_ n hnm
  rw [hdl] at hl'
  cases hl'
  have hsub : IntKind.i64.wrap ((l.length : Int) + (L : Int)) = (l.length : Int) + (L : Int) := IntWalk.i64_in _ (by omega)
  have hd : decide ((size : Int) < (l.length : Int) + (L : Int)) = true := by simp; omega
  have Hh := Lib.hid hhas
  clear h1 c1 c2 hhas e hu hdl ho hs hL
  generalize l.length = q at *
  go_enter Try.func17, Try.ntmps17
  go_wp2_with fail
  go_quiet ((go_at_call 27; exact quiet_left (Hh.out _)))
  go_wp2_with fail
  go_ret
  exact ⟨rfl, nq, rfl⟩
set_option maxHeartbeats 1000000 in
theorem rput_ok (S K : Nat → Prop) (b m size n : Nat) (row : List Nat) (us : List Bool) (dt : List (List UInt8)) (l bs : List UInt8) (v : Value) (w : World) (h : RAt w S b m size row us dt) (hu : us[n]? = some true) (hdl : dt[n]? = some l) (hv : Sl w K v (bv bs)) (hK : ∀ k, K k → k < w.heap.size) (hL : l.length + bs.length ≤ size) :
    Calls Try.prog 17 #[.pointer (some ⟨b, 0, none⟩), .int .i64 n, v] w (RP (.bool true) S b m size row us (dt.set n (l ++ bs)) w) := by
  have e : inUse us (n : Int) = true := by simp [inUse, List.getD, hu]
  have hhas := fun k => uses_any S b m size row us dt n (w.drewN k) (h.drewN k)
  rw [e] at hhas
  have hnm : n < m := by have := (List.getElem?_eq_some_iff.1 hu).1; have := h.sz.2.1; omega
  have hm16 := h.sz.1.2.1
  have hs288 := h.sz.1.2.2.1
  obtain ⟨gu, gd, vr, vs, h1⟩ := h
  obtain ⟨c0, c1, c2, c3⟩ := h1.cells
  obtain ⟨A', c', l', hl', he, cr, ho, hc1, hc2, hs⟩ := h1.at_ n hnm
  rw [hdl] at hl'
  cases hl'
  obtain ⟨A, L, c, rfl, hLb, hLc, hcm, _⟩ := id hv
  rw [bv_length] at hLb
  have hsub : IntKind.i64.wrap ((l.length : Int) + (L : Int)) = (l.length : Int) + (L : Int) := IntWalk.i64_in _ (by omega)
  have hd : decide ((size : Int) < (l.length : Int) + (L : Int)) = false := by simp; omega
  have fd := h1.hd.frozen n
  obtain ⟨i0, hi, hz0, hz1, hz2⟩ := info_parts infoB
  have HL := Lib.hid (And.intro hL hLb)
  have Hh := Lib.hid hhas
  have H1 := Lib.hid (And.intro h1 (And.intro he (And.intro ho (And.intro hv hK))))
  clear h1 c1 c2 hhas e hu hdl ho hs hL he hv hK hLb
  generalize hq : l.length = q at *
  have Hq := Lib.hid hq
  clear hq
  go_enter Try.func17, Try.ntmps17
  go_wp2_with fail
  go_quiet ((go_at_call 27; exact quiet_left (Hh.out _)))
  go_wp2_with fail
  have d3 : (w.drewN nq).cell? ⟨b, 3, none⟩ = some (.slice (some ⟨gd, 0, none⟩) m m) := c3
  have dr : (w.drewN nq).cell? ⟨gd, n, none⟩ = some (.slice A' q c') := cr
  have H2 : Hid (RAx (w.drewN nq) S b gu gd m size vr vs row us dt ∧ Sl (w.drewN nq) (fun k => k < (w.drewN nq).heap.size) (.slice A' q c') (bv l) ∧ Sl (w.drewN nq) (fun k => k < (w.drewN nq).heap.size) (.slice A L c) (bv bs) ∧ Frm S w (w.drewN nq)) := Lib.hid ⟨H1.out.1.drewN nq, H1.out.2.2.1.keptTo fun k hk => ⟨rfl, H1.out.1.lie.2.2.2 k hk.1⟩, H1.out.2.2.2.1.keptTo fun k hk => ⟨rfl, H1.out.2.2.2.2 k hk⟩, (Frm.refl _ w).drewN nq⟩
  have fd2 : (w.drewN nq).frozen? ⟨gd, n, none⟩ = false := fd
  have hgl2 : gd < (w.drewN nq).heap.size := H1.out.1.hd.lt
  have hbl2 : b < (w.drewN nq).heap.size := H1.out.1.hb.lt
  have hszz : (w.drewN nq).heap.size = w.heap.size := rfl
  have Hz := Lib.hid hszz
  clear c3 cr c0 fd hszz
  generalize w.drewN nq = wq at *
  have hfr : ∀ w2, ((wq.alloc (Obj.cells #[] 5)).drew).grownBy w2 (Value.slice (some ⟨wq.heap.size, 0, none⟩) 0 0).ownBlock → Frm (fun _ => False) wq w2 := fun w2 hg => (((Frm.refl _ wq).alloc _).drew).grown hg (fun k hk => Or.inr (by have h : some wq.heap.size = some k := hk; injection h; omega))
  have Hfr := Lib.hid hfr
  clear hfr
  go_region_law (first
    | (refine step_append_sl (by rfl) _ _ 32 (by rfl) wq.heap.size 5 i0 (.int .u8 0) 1 Try.underlying32 hi hz0 hz1 hz2 (by rfl) _ 0 [] (by rfl) (own_new0 rfl (Nat.le_refl _)) (fun k => k < wq.heap.size) _ (bv l) (by rfl) (by exact H2.out.2.1.keptTo fun k hk => ⟨Below.heap_alloc _ _ _ hk, hk⟩) (bv_one l) (by unfold maxLen; rw [bv_length]; have := HL.out; have := Hq.out; omega) (by rw [bv_length]; have := HL.out; have := Hq.out; omega) (by simp) ?_; intro A2 N2 c2 w2 HN2 hNc2 hc2 hown2 hg2 hat2; have Hg2 := Lib.hid (Hfr.out w2 hg2); have e3 := Hg2.out.cell d3 id; have er := Hg2.out.cell dr id; have ef := (Hg2.out.frozen (a := ⟨gd, n, none⟩) hgl2 id).trans fd2; have el := Nat.lt_of_lt_of_le hgl2 Hg2.out.size)
    | (refine step_append_sl (by rfl) _ _ 32 (by rfl) wq.heap.size 5 i0 (.int .u8 0) 1 Try.underlying32 hi hz0 hz1 hz2 (by rfl) _ N2 _ (by rfl) (by exact hown2) (fun k => k < wq.heap.size) _ (bv bs) (by rfl) (by exact H2.out.2.2.1.keptTo fun k hk => ⟨Hg2.out.block k hk id, hk⟩) (bv_one bs) (by unfold maxLen; rw [bv_length]; have := HN2.out; rw [bv_length] at this; have := HL.out; have := Hq.out; omega) (by rw [bv_length]; have := HN2.out; rw [bv_length] at this; have := HL.out; have := Hq.out; omega) (by have := Hg2.out.size; omega) ?_; intro A3 N3 c3' w3 HN3 hNc3 hc3 hown3 hg3 hat3; have hF3 : Frm (fun _ => False) wq w3 := Hg2.out.grown hg3 (fun k hk => Or.inr (hown2.lt k hk).1); have g3 := hF3.cell d3 id; have gr := hF3.cell dr id; have gf := (hF3.frozen (a := ⟨gd, n, none⟩) hgl2 id).trans fd2; have H3 := Lib.hid (And.intro hown3 hF3); clear hF3 hg3 hat3 hown3))
  all_goals
    go_wp2_with fail
    go_ret
    obtain ⟨hown3, hF3⟩ := H3.out
    obtain ⟨S3, r1, r2, r3⟩ := H2.out.1.data (n := n) hF3 (v' := .slice A3 N3 c3') (l' := l ++ bs) (by
      have := (OSl.of_own (K := fun k => wq.heap.size ≤ k ∧ k < w3.heap.size) (e := 5) (v := .slice A3 N3 c3') (xs := bv (l ++ bs)) (by simpa [bv] using hown3) (fun g hg => hown3.lt g hg)).sl
      exact this.mono fun k hk => hk.1) (by simp; have := HL.out; have := Hq.out; omega)
    exact ⟨rfl, S3, ⟨gu, gd, _, _, r1⟩, fun k hk => (r2 k hk).elim .inl (fun hh => .inr (by have := Hz.out; omega)), H2.out.2.2.2.trans r3 (fun k hk => .inl hk)⟩
theorem rbytes_no (S : Nat → Prop) (b m size : Nat) (row : List Nat) (us : List Bool) (dt : List (List UInt8)) (n : Int) (w : World) (h : RAt w S b m size row us dt) (hu : inUse us n = false) :
    Calls Try.prog 23 #[.pointer (some ⟨b, 0, none⟩), .int .i64 n] w fun e w' => e = .returned (.slice none 0 0) ∧ w = w' := by
  have H := uses_any S b m size row us dt n w h
  rw [hu] at H
  have H := Lib.hid H
  clear h hu
  go_enter Try.func23, Try.ntmps23
  go_wp2_with fail
  refine H.out.mono ?_
  rintro e w' ⟨rfl, rfl⟩
  go_wp2_with fail
  go_ret
  exact ⟨rfl, rfl⟩
def RBytesPost (S : Nat → Prop) (l : List UInt8) (w : World) (e : Ending) (w' : World) : Prop := ∃ A c, e = .returned (.slice A l.length c) ∧ Sl w S (.slice A l.length c) (bv l) ∧ w = w'
theorem rbytes_ok (S : Nat → Prop) (b m size n : Nat) (row : List Nat) (us : List Bool) (dt : List (List UInt8)) (l : List UInt8) (w : World) (h : RAt w S b m size row us dt) (hu : us[n]? = some true) (hdl : dt[n]? = some l) :
    Calls Try.prog 23 #[.pointer (some ⟨b, 0, none⟩), .int .i64 n] w (RBytesPost S l w) := by
  have hhas := uses_any S b m size row us dt n w h
  have e : inUse us (n : Int) = true := by simp [inUse, List.getD, hu]
  rw [e] at hhas
  have hnm : n < m := by have := (List.getElem?_eq_some_iff.1 hu).1; have := h.sz.2.1; omega
  have hm16 := h.sz.1.2.1
  obtain ⟨gu, gd, vr, vs, h1⟩ := h
  obtain ⟨c0, c1, c2, c3⟩ := h1.cells
  obtain ⟨A', c', l', hl', he, cr, ho, hc1, hc2, hs⟩ := h1.at_ n hnm
  rw [hdl] at hl'
  cases hl'
  have Hh := Lib.hid hhas
  have Ho := Lib.hid ho
  clear h1 c0 c1 c2 hhas e hu hdl ho hs he
  have H : ∀ q, q = l.length → Calls Try.prog 23 #[.pointer (some ⟨b, 0, none⟩), .int .i64 n] w fun e w' => e = .returned (.slice A' q c') ∧ w = w' := by
    intro q hq
    rw [← hq] at cr hc1
    clear hq
    go_enter Try.func23, Try.ntmps23
    go_wp2_with fail
    refine Hh.out.mono ?_
    rintro e w' ⟨rfl, rfl⟩
    go_wp2_with fail
    go_ret
    exact ⟨rfl, rfl⟩
  exact (H _ rfl).mono fun e w' ⟨h1, h2⟩ => ⟨A', c', h1, Ho.out.mono fun k hk => hk.1, h2⟩
set_option maxHeartbeats 1000000 in
theorem rlive_any (S : Nat → Prop) (b m size : Nat) (row : List Nat) (us : List Bool) (dt : List (List UInt8)) (w : World) (h : RAt w S b m size row us dt) :
    Calls Try.prog 20 #[.pointer (some ⟨b, 0, none⟩)] w (LivePost us m w) := by
  obtain ⟨i0, hi, hz0, hz1, hz2⟩ := info_parts infoI
  have hm16 := h.sz.1.2.1
  obtain ⟨gu, gd, vr, vs, h1⟩ := h
  have H := Lib.hid h1
  clear h1
  go_enter Try.func20, Try.ntmps20
  go_wp2_with fail
  go_loopw [3, 4] (fun vo i wr => ∃ k : Nat, k ≤ m ∧ i = .int .i64 k ∧ Hid (wr.ownsRow w.heap.size 3 1 vo (liveTo us k).length ((liveTo us k).map iv) ∧ Frm (fun _ => False) w wr)) (fun _ i _ => m - (intOf i).toNat)
  case atStart => exact ⟨0, Nat.zero_le _, rfl, Lib.hid ⟨by simpa [liveTo] using World.ownsRow_nil _ _ _ _, Frm.refl _ _⟩⟩
  case round =>
    obtain ⟨k, hk, rfl, hrel⟩ := hrel
    have hP := H.out.keptF hrel.out.2
    obtain ⟨c0, c1, c2, c3⟩ := hP.cells
    by_cases hlt : k < m
    · obtain ⟨x, hx, cm⟩ := hP.mark k hlt
      have hgd : us.getD k false = x := by simp [List.getD, hx]
      clear hP c0 c1 c3 hx
      have hll := liveTo_len us k
      cases x with
      | true =>
        have Hy := Lib.hid (liveTo_yes hgd)
        have hown := hrel.out.1
        generalize hL : (liveTo us k).length = L at *
        have HLL := Lib.hid hL
        clear hgd hL
        go_wp2_with (at_builtin; refine wpList_append_sl (by rfl) _ _ 41 (by rfl) w.heap.size 3 i0 (.int .i64 0) 8 Try.underlying41 hi hz0 hz1 hz2 (by rfl) _ L _ (by rfl) (by exact hown.alloc _) (fun q => q = wr.heap.size) _ [.int .i64 k] (by rfl) (by exact Sl.blk1 wr _ _) (by simp [Value.oneCell']) (by unfold maxLen; simp; omega) (by simp; omega) (by have := hrel.out.2.size; simp; omega) ?_; intro A3 N3 c3' w3 HN3 hNc3 hc3 hown3 hg3 hat3)
        go_roundw
        case rel => exact ⟨k + 1, by omega, by go_num, Lib.hid (by
          refine ⟨?_, hrel.out.2.trans (((Frm.refl _ wr).alloc _).grown hg3 (fun q hq => .inl hq)) (fun q hq => .inr (hown.lt q hq).1)⟩
          rw [Hy.out]
          have e : (liveTo us k ++ [(k : Int)]).length = N3 := by have := HN3.out; have := HLL.out; simp at *; omega
          rw [e]
          simpa [iv] using hown3)⟩
        case measure => simp [intOf]; omega
      | false =>
        have Hy := Lib.hid (liveTo_no hgd)
        clear hgd
        go_wp2_with fail
        go_roundw
        case rel => exact ⟨k + 1, by omega, by go_num, Lib.hid (by rw [Hy.out]; exact hrel.out)⟩
        case measure => simp [intOf]; omega
    · obtain rfl : k = m := by omega
      clear c0 c1 c3 hP
      go_wp2_with fail
      go_ret
      exact ⟨_, rfl, hrel.out.1, hrel.out.2⟩
end Go.Proofs.Ytkmammeaidfaaaa
