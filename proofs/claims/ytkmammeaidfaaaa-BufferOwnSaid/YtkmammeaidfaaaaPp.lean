/- The walks of package buffer: has, Take, Give, Put, Free. -/
import Derived.Test.YtkmammeaidfaaaaPo
namespace Go.Proofs.Ytkmammeaidfaaaa
open Go.RowKit
section
variable {w w' : World} {S : Nat → Prop} {b gu gd m size : Nat} {vf : Value} {vs : List Value} {fr : List Nat} {us : List Bool} {dt : List (List UInt8)}
theorem PAx.cells (h : PAx w S b gu gd m size vf vs fr us dt) : w.cell? ⟨b, 0, none⟩ = some vf ∧ w.cell? ⟨b, 1, none⟩ = some (.int .i64 size) ∧ w.cell? ⟨b, 2, none⟩ = some (.slice (some ⟨gu, 0, none⟩) m m) ∧ w.cell? ⟨b, 3, none⟩ = some (.slice (some ⟨gd, 0, none⟩) m m) :=
  ⟨h.hb.cell 0, h.hb.cell 1, h.hb.cell 2, h.hb.cell 3⟩
theorem PAx.mark (h : PAx w S b gu gd m size vf vs fr us dt) (n : Nat) (hn : n < m) : ∃ x, us[n]? = some x ∧ w.cell? ⟨gu, n, none⟩ = some (.bool x) := by
  have h1 : n < us.length := by have := h.len; omega
  refine ⟨us[n], List.getElem?_eq_getElem h1, ?_⟩
  rw [h.hu.cell]; simp [h1]
theorem PAx.row (h : PAx w S b gu gd m size vf vs fr us dt) (n : Nat) (hn : n < m) : ∃ A c l, dt[n]? = some l ∧ (∃ h : n < vs.length, vs[n] = .slice A l.length c) ∧ w.cell? ⟨gd, n, none⟩ = some (.slice A l.length c) ∧
    w.ownsRow 0 5 1 (.slice A l.length c) l.length (bv l) ∧ l.length ≤ c ∧ c ≤ 9223372036854775807 ∧ l.length ≤ size := by
  have h1 : n < vs.length := by have := h.len; omega
  have h2 : n < dt.length := by have := h.len; omega
  obtain ⟨ho, hs⟩ := h.rws.1 n _ _ (List.getElem?_eq_getElem h1) (List.getElem?_eq_getElem h2)
  obtain ⟨A, c, e, k1, k2⟩ := own_form ho
  refine ⟨A, c, dt[n], List.getElem?_eq_getElem h2, ⟨h1, e⟩, ?_, by rw [← e]; exact ho, k1, k2, hs⟩
  rw [h.hd.cell]
  simp [h1, e]
end
theorem has_nil (n : Int) (w : World) : Calls Try.prog 26 #[.pointer none, .int .i64 n] w fun e w' => e = .returned (.bool false) ∧ w = w' := by
  go_enter Try.func26, Try.ntmps26
  go_wp2
  go_ret
  exact ⟨rfl, rfl⟩
/-- Is the buffer in use? -/
def inUse (us : List Bool) (n : Int) : Bool := decide (0 ≤ n) && us.getD n.toNat false
theorem has_any (S : Nat → Prop) (b m size : Nat) (fr : List Nat) (us : List Bool) (dt : List (List UInt8)) (n : Int) (w : World) (h : PAt w S b m size fr us dt) :
    Calls Try.prog 26 #[.pointer (some ⟨b, 0, none⟩), .int .i64 n] w fun e w' => e = .returned (.bool (inUse us n)) ∧ w = w' := by
  obtain ⟨gu, gd, vf, vs, h⟩ := h
  obtain ⟨c0, c1, c2, c3⟩ := h.cells
  by_cases h0 : 0 ≤ n
  · obtain ⟨k, rfl⟩ := Int.eq_ofNat_of_zero_le h0
    have hd0 : decide ((0 : Int) ≤ (k : Int)) = true := by simp
    by_cases hk : k < m
    · obtain ⟨x, hx, cm⟩ := h.mark k hk
      have e : inUse us (k : Int) = x := by simp [inUse, List.getD, hx]
      rw [e]
      clear h c0 c1 c3 e hx
      go_enter Try.func26, Try.ntmps26
      go_wp2
      go_ret
      exact ⟨rfl, rfl⟩
    · have e : inUse us (k : Int) = false := by
        have : us.length ≤ k := by have := h.len; omega
        simp [inUse, List.getD, this]
      rw [e]
      clear h c0 c1 c3 e
      go_enter Try.func26, Try.ntmps26
      go_wp2
      go_ret
      exact ⟨rfl, rfl⟩
  · have hd0 : decide ((0 : Int) ≤ n) = false := by simpa using h0
    have e : inUse us n = false := by simp only [inUse, hd0, Bool.false_and]
    rw [e]
    clear h c0 c1 c2 c3 e
    go_enter Try.func26, Try.ntmps26
    go_wp2
    go_ret
    exact ⟨rfl, rfl⟩
theorem take_nil (w : World) : Calls Try.prog 12 #[.pointer none] w fun e w' => e = .returned (.tuple #[.int .i64 0, .bool false]) ∧ w = w' := by
  go_enter Try.func12, Try.ntmps12
  go_wp2
  go_ret2
  exact ⟨rfl, rfl⟩
theorem take_no (S : Nat → Prop) (b m size : Nat) (us : List Bool) (dt : List (List UInt8)) (w : World) (h : PAt w S b m size [] us dt) :
    Calls Try.prog 12 #[.pointer (some ⟨b, 0, none⟩)] w fun e w' => e = .returned (.tuple #[.int .i64 0, .bool false]) ∧ w = w' := by
  have H := Lib.hid h
  clear h
  go_enter Try.func12, Try.ntmps12
  go_wp2_with fail
  refine (pop_no S b m size us dt w H.out).mono ?_
  rintro e w' ⟨rfl, rfl⟩
  go_wp2_with fail
  go_ret2
  exact ⟨rfl, rfl⟩
theorem take_ok (S : Nat → Prop) (b m size n : Nat) (fr : List Nat) (us : List Bool) (dt : List (List UInt8)) (w : World) (h : PAt w S b m size (fr ++ [n]) us dt) :
    Calls Try.prog 12 #[.pointer (some ⟨b, 0, none⟩)] w (PP (.tuple #[.int .i64 n, .bool true]) S b m size fr (us.set n true) (dt.set n []) w) := by
  have hnm : n < m := h.sz.1.2.2.2.2 n (by simp)
  have hm16 := h.sz.1.2.1
  have H := Lib.hid h
  clear h
  go_enter Try.func12, Try.ntmps12
  go_wp2_with fail
  refine (pop_ok S b m size n fr us dt w H.out).mono ?_
  rintro e w1 ⟨rfl, S1, ⟨gu, gd, vf, vs, h1⟩, hS1, hF1⟩
  obtain ⟨c0, c1, c2, c3⟩ := h1.cells
  obtain ⟨x, hx, cm⟩ := h1.mark n hnm
  have fm := h1.hu.frozen n
  have H1 := Lib.hid (And.intro h1 (And.intro hS1 hF1))
  clear h1 hS1 hF1 c0 c1 c3 hx
  go_wp2_with fail
  obtain ⟨h1, hS1, hF1⟩ := H1.out
  obtain ⟨h2, hF2⟩ := h1.used n true
  clear h1 hS1 hF1 c2 cm fm
  generalize w1.setCell ⟨gu, n, none⟩ (.bool true) = w2 at *
  obtain ⟨c0, c1, c2, c3⟩ := h2.cells
  obtain ⟨A, c, l, hl, e, cr, ho, hc1, hc2, hs⟩ := h2.row n hnm
  have fd := h2.hd.frozen n
  have htk : ∀ w, (Instr.slice 32 (.slice A l.length c) none (some (.int .i64 0)) none).run Try.prog w = .ok (.slice A 0 c) w := fun w => by
    simpa using run_take (P := Try.prog) (sz := 1) Try.underlying32 (fun w => by kernel_rfl) A _ c 0 (by omega) (by omega) w
  have ho0 := own_take ho (k := 0) (by omega)
  have H2 := Lib.hid (And.intro h2 (And.intro hF2 (And.intro e ho0)))
  clear h2 hF2 e ho c0 c1 c2 ho0 hl hs
  generalize l.length = L at *
  go_region
  all_goals
    go_wp2_with fail
    go_ret2
    obtain ⟨h2, hF2, ⟨hnv, e⟩, ho0⟩ := H2.out
    have hd := h2.data hnv (Frm.refl (fun _ => False) w2) (fun _ h => h.elim) (v' := .slice A 0 c) (l' := []) (by simpa [bv] using ho0) (fun k hk => .inl (by rw [e]; cases A <;> exact hk)) (by simp)
    obtain ⟨h1, hS1, hF1⟩ := H1.out
    exact ⟨rfl, (Left.trans (hF1.trans hF2 hS1) hS1 hd).drewN 1⟩
theorem give_no (p : Option Addr) (n : Int) (w : World) (h : Calls Try.prog 26 #[.pointer p, .int .i64 n] w fun e w' => e = .returned (.bool false) ∧ w = w') :
    Calls Try.prog 14 #[.pointer p, .int .i64 n] w fun e w' => e = .returned (.bool false) ∧ w = w' := by
  have H := Lib.hid h
  clear h
  go_enter Try.func14, Try.ntmps14
  go_wp2_with fail
  refine H.out.mono ?_
  rintro e w' ⟨rfl, rfl⟩
  go_wp2_with fail
  go_ret
  exact ⟨rfl, rfl⟩
theorem give_ok (S : Nat → Prop) (b m size n : Nat) (fr : List Nat) (us : List Bool) (dt : List (List UInt8)) (w : World) (h : PAt w S b m size fr us dt) (hu : us[n]? = some true) (hl : fr.length < m) :
    Calls Try.prog 14 #[.pointer (some ⟨b, 0, none⟩), .int .i64 n] w (PP (.bool true) S b m size (fr ++ [n]) (us.set n false) (dt.set n []) w) := by
  have hhas := has_any S b m size fr us dt n w h
  have e : inUse us (n : Int) = true := by simp [inUse, List.getD, hu]
  rw [e] at hhas
  have hnm : n < m := by have := (List.getElem?_eq_some_iff.1 hu).1; have := h.sz.2.1; omega
  have hm16 := h.sz.1.2.1
  obtain ⟨gu, gd, vf, vs, h1⟩ := h
  obtain ⟨c0, c1, c2, c3⟩ := h1.cells
  obtain ⟨x, hx, cm⟩ := h1.mark n hnm
  have fm := h1.hu.frozen n
  have Hh := Lib.hid hhas
  have H1 := Lib.hid h1
  clear h1 c0 c1 c3 hx hhas e hu
  go_enter Try.func14, Try.ntmps14
  go_wp2_with fail
  refine Hh.out.mono ?_
  rintro e w' ⟨rfl, rfl⟩
  clear Hh
  go_wp2_with fail
  obtain ⟨h2, hF2⟩ := H1.out.used n false
  clear c2 cm fm
  generalize w.setCell ⟨gu, n, none⟩ (.bool false) = w2 at *
  obtain ⟨c0, c1, c2, c3⟩ := h2.cells
  obtain ⟨A, c, l, hl', e, cr, ho, hc1, hc2, hs⟩ := h2.row n hnm
  have fd := h2.hd.frozen n
  have htk : ∀ w, (Instr.slice 32 (.slice A l.length c) none (some (.int .i64 0)) none).run Try.prog w = .ok (.slice A 0 c) w := fun w => by
    simpa using run_take (P := Try.prog) (sz := 1) Try.underlying32 (fun w => by kernel_rfl) A _ c 0 (by omega) (by omega) w
  have ho0 := own_take ho (k := 0) (by omega)
  have H2 := Lib.hid (And.intro h2 (And.intro hF2 (And.intro e ho0)))
  clear h2 hF2 e ho c0 c1 c2 ho0 hl' hs
  generalize l.length = L at *
  have hpush : ∀ k, Calls Try.prog 24 #[.pointer (some ⟨b, 0, none⟩), .int .i64 n] ((w2.setCell ⟨gd, n, none⟩ (.slice A 0 c)).drewN k) fun e w' => (∃ v, e = .returned v) ∧ Left S b m size (fr ++ [n]) (us.set n false) (dt.set n []) w w' := fun k => by
    obtain ⟨h2, hF2, ⟨hnv, e⟩, ho0⟩ := H2.out
    have hd := h2.data hnv (Frm.refl (fun _ => False) w2) (fun _ h => h.elim) (v' := .slice A 0 c) (l' := []) (by simpa [bv] using ho0) (fun k hk => .inl (by rw [e]; cases A <;> exact hk)) (by simp)
    obtain ⟨S', q1, q2, q3⟩ := Left.trans hF2 (fun k hk => .inl hk) hd
    refine (push_any S' b m size n fr _ _ _ (q1.drewN k) hnm hl).mono fun e w' ⟨h1, h2⟩ => ⟨h1, Left.trans (q3.drewN k) q2 h2⟩
  have HP := Lib.hid hpush
  clear hpush
  go_region
  all_goals
    go_wp2_with fail
    refine (HP.out 1).mono ?_
    rintro e w' ⟨⟨v, rfl⟩, hL⟩
    go_wp2_with fail
    go_ret
    exact ⟨rfl, hL⟩
theorem put_no' (p : Option Addr) (n : Int) (A : Option Addr) (L c : Nat) (w : World) (h : ∀ k, Calls Try.prog 26 #[.pointer p, .int .i64 n] (w.drewN k) fun e w' => e = .returned (.bool false) ∧ w.drewN k = w') :
    Calls Try.prog 16 #[.pointer p, .int .i64 n, .slice A L c] w fun e w' => e = .returned (.bool false) ∧ ∃ k, w' = w.drewN k := by
  have H := Lib.hid h
  clear h
  go_enter Try.func16, Try.ntmps16
  go_wp2_with fail
  go_quiet ((go_at_call 26; exact quiet_left (H.out _)))
  go_wp2_with fail
  go_ret
  exact ⟨rfl, nq, rfl⟩
theorem put_full (S : Nat → Prop) (b m size n : Nat) (fr : List Nat) (us : List Bool) (dt : List (List UInt8)) (l : List UInt8) (A : Option Addr) (L c : Nat) (w : World) (h : PAt w S b m size fr us dt) (hu : us[n]? = some true) (hdl : dt[n]? = some l) (hL : size < l.length + L) (hL2 : L ≤ 1000000) :
    Calls Try.prog 16 #[.pointer (some ⟨b, 0, none⟩), .int .i64 n, .slice A L c] w fun e w' => e = .returned (.bool false) ∧ ∃ k, w' = w.drewN k := by
  have e : inUse us (n : Int) = true := by simp [inUse, List.getD, hu]
  have hhas := fun k => has_any S b m size fr us dt n (w.drewN k) (h.drewN k)
  rw [e] at hhas
  have hnm : n < m := by have := (List.getElem?_eq_some_iff.1 hu).1; have := h.sz.2.1; omega
  have hm16 := h.sz.1.2.1
  have hs288 := h.sz.1.2.2.1
  obtain ⟨gu, gd, vf, vs, h1⟩ := h
  obtain ⟨c0, c1, c2, c3⟩ := h1.cells
  obtain ⟨A', c', l', hl', _, cr, ho, hc1, hc2, hs⟩ := h1.row n hnm
  rw [hdl] at hl'
  cases hl'
  have hsub : IntKind.i64.wrap ((size : Int) - (l.length : Int)) = (size : Int) - (l.length : Int) := IntWalk.i64_in _ (by omega)
  have hd : decide ((size : Int) - (l.length : Int) < (L : Int)) = true := by simp; omega
  have Hh := Lib.hid hhas
  clear h1 c0 c2 hhas e hu hdl ho hs hL
  generalize l.length = q at *
  go_enter Try.func16, Try.ntmps16
  go_wp2_with fail
  go_quiet ((go_at_call 26; exact quiet_left (Hh.out _)))
  go_wp2_with fail
  go_ret
  exact ⟨rfl, nq, rfl⟩
set_option maxHeartbeats 1000000 in
theorem put_ok (S K : Nat → Prop) (b m size n : Nat) (fr : List Nat) (us : List Bool) (dt : List (List UInt8)) (l bs : List UInt8) (v : Value) (w : World) (h : PAt w S b m size fr us dt) (hu : us[n]? = some true) (hdl : dt[n]? = some l) (hv : Sl w K v (bv bs)) (hK : ∀ k, K k → k < w.heap.size) (hL : l.length + bs.length ≤ size) :
    Calls Try.prog 16 #[.pointer (some ⟨b, 0, none⟩), .int .i64 n, v] w (PP (.bool true) S b m size fr us (dt.set n (l ++ bs)) w) := by
  have e : inUse us (n : Int) = true := by simp [inUse, List.getD, hu]
  have hhas := fun k => has_any S b m size fr us dt n (w.drewN k) (h.drewN k)
  rw [e] at hhas
  have hnm : n < m := by have := (List.getElem?_eq_some_iff.1 hu).1; have := h.sz.2.1; omega
  have hm16 := h.sz.1.2.1
  have hs288 := h.sz.1.2.2.1
  obtain ⟨gu, gd, vf, vs, h1⟩ := h
  obtain ⟨c0, c1, c2, c3⟩ := h1.cells
  obtain ⟨A', c', l', hl', he, cr, ho, hc1, hc2, hs⟩ := h1.row n hnm
  rw [hdl] at hl'
  cases hl'
  obtain ⟨A, L, c, rfl, hLb, hLc, hcm, _⟩ := id hv
  rw [bv_length] at hLb
  have hsub : IntKind.i64.wrap ((size : Int) - (l.length : Int)) = (size : Int) - (l.length : Int) := IntWalk.i64_in _ (by omega)
  have hd : decide ((size : Int) - (l.length : Int) < (L : Int)) = false := by simp; omega
  have fd := h1.hd.frozen n
  have hgl := h1.hd.lt
  obtain ⟨i0, hi, hz0, hz1, hz2⟩ := info_parts infoB
  have HL := Lib.hid (And.intro hL hLb)
  have Hh := Lib.hid hhas
  have H1 := Lib.hid (And.intro h1 (And.intro he (And.intro ho (And.intro hv hK))))
  clear h1 c0 c2 hhas e hu hdl ho hs hL he hv hK hLb
  generalize hq : l.length = q at *
  have Hq := Lib.hid hq
  clear hq
  go_enter Try.func16, Try.ntmps16
  go_wp2_with fail
  go_quiet ((go_at_call 26; exact quiet_left (Hh.out _)))
  go_wp2_with fail
  have d3 : (w.drewN nq).cell? ⟨b, 3, none⟩ = some (.slice (some ⟨gd, 0, none⟩) m m) := c3
  have dr : (w.drewN nq).cell? ⟨gd, n, none⟩ = some (.slice A' q c') := cr
  have H2 : Hid (PAx (w.drewN nq) S b gu gd m size vf vs fr us dt ∧ (w.drewN nq).ownsRow 0 5 1 (.slice A' q c') q (bv l) ∧ Sl (w.drewN nq) K (.slice A L c) (bv bs) ∧ Frm (fun _ => False) w (w.drewN nq)) := Lib.hid ⟨H1.out.1.drewN nq, H1.out.2.2.1, H1.out.2.2.2.1, (Frm.refl _ w).drewN nq⟩
  have fd2 : (w.drewN nq).frozen? ⟨gd, n, none⟩ = false := fd
  have hgl2 : gd < (w.drewN nq).heap.size := hgl
  clear c3 cr c1 fd hgl
  generalize w.drewN nq = wq at *
  go_region_law
    ((refine step_append_sl (by rfl) _ _ 32 (by rfl) 0 5 i0 (.int .u8 0) 1 Try.underlying32 hi hz0 hz1 hz2 (by rfl) _ q _ (by rfl) (by exact H2.out.2.1) K _ (bv bs) (by rfl) (by exact H2.out.2.2.1) (bv_one bs) (by unfold maxLen; rw [bv_length]; have := HL.out; omega) (by rw [bv_length]; have := HL.out; omega) (by omega) ?_; intro A3 N3 c3' w3 HN3 hNc3 hc3 hown3 hg3 hat3; have hF3 : Frm (fun k => (Value.slice A' q c').ownBlock = some k) wq w3 := ((Frm.refl _ wq).drew).grown hg3 (fun k hk => .inl hk); have e3 := hF3.cell d3 (by exact own_blk_ne H2.out.2.1 H2.out.1.hb (by decide)); have er := hF3.cell dr (by exact own_blk_ne H2.out.2.1 H2.out.1.hd (by decide)); have ef := (hF3.frozen (a := ⟨gd, n, none⟩) hgl2 (by exact own_blk_ne H2.out.2.1 H2.out.1.hd (by decide))).trans fd2; have H3 := Lib.hid (And.intro hown3 (And.intro hat3 hF3)); clear hown3 hat3 hF3 hg3))
  all_goals
    go_wp2_with fail
    go_ret
    obtain ⟨hown3, hat3, hF3⟩ := H3.out
    obtain ⟨h2, _, _, hFr⟩ := H2.out
    obtain ⟨hnv, he⟩ := H1.out.2.1
    have hLL := HL.out
    have hq := Hq.out
    have hd := h2.data hnv (v' := .slice A3 N3 c3') (l' := l ++ bs) hF3 (fun k hk => by rw [he]; exact hk) (by
      have e : (l ++ bs).length = N3 := by have := HN3.out; simp at *; omega
      rw [e]
      simpa [bv] using hown3) (fun k hk => by
      rcases hat3 with e | e
      · left; rw [he]; rw [e] at hk; exact hk
      · rw [e] at hk; cases hk; right; exact Nat.le_refl _) (by simp; omega)
    exact ⟨rfl, Left.trans (hFr.mono fun _ h => h.elim) (fun k hk => .inl hk) hd⟩
theorem free_nil (w : World) : Calls Try.prog 21 #[.pointer none] w fun e w' => e = .returned (.int .i64 0) ∧ w = w' := by
  go_enter Try.func21, Try.ntmps21
  go_wp2
  go_ret
  exact ⟨rfl, rfl⟩
theorem free_any (S : Nat → Prop) (b m size : Nat) (fr : List Nat) (us : List Bool) (dt : List (List UInt8)) (w : World) (h : PAt w S b m size fr us dt) :
    Calls Try.prog 21 #[.pointer (some ⟨b, 0, none⟩)] w fun e w' => e = .returned (.int .i64 fr.length) ∧ w = w' := by
  obtain ⟨gu, gd, vf, vs, h1⟩ := h
  obtain ⟨c0, c1, c2, c3⟩ := h1.cells
  obtain ⟨Af, cf, rfl, _, _⟩ := own_form h1.own
  clear h1 c1 c2 c3
  generalize fr.length = L at *
  have hmany : Calls Try.prog 30 #[.pointer (some ⟨b, 0, none⟩)] w fun e w' => e = .returned (.int .i64 L) ∧ w = w' := by
    go_enter Try.func30, Try.ntmps30
    go_wp2
    go_ret
    exact ⟨rfl, rfl⟩
  have H := Lib.hid hmany
  clear hmany c0
  go_enter Try.func21, Try.ntmps21
  go_wp2_with fail
  refine H.out.mono ?_
  rintro e w' ⟨rfl, rfl⟩
  go_wp2_with fail
  go_ret
  exact ⟨rfl, rfl⟩
end Go.Proofs.Ytkmammeaidfaaaa
