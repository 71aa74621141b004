/- What cuttings may be; how many bytes of warm-up: the walks. -/
import Derived.Test.YtecpbnkkgdppoaaBm
import Derived.Test.YtecpbnkkgdppoaaRw
import Derived.IntWalk
import Derived.BigQuiet
import Derived.Deep.RegionHeld3
import Derived.Deep.Onto
namespace Go.Proofs.Ytecpbnkkgdppoaa
open Go.RowKit
def mayB (s l f : Int) : Bool := decide (1 ≤ s ∧ s ≤ 256 ∧ 1 ≤ l ∧ l ≤ 32 ∧ 0 ≤ f ∧ f ≤ 4611686018427387904)
def sizesB (s l : Int) : Bool := decide (1 ≤ s ∧ s ≤ 256 ∧ 1 ≤ l ∧ l ≤ 32)
theorem ret_int {k : IntKind} {a b : Int} (h : a = b) : Ending.returned (.int k a) = .returned (.int k b) := by rw [h]
theorem ret_bool {a b : Bool} (h : a = b) : Ending.returned (.bool a) = .returned (.bool b) := by rw [h]
theorem sizes_any (s l : Int) (w : World) : Calls Try.prog 33 #[.int .i64 s, .int .i64 l] w fun e w' => e = .returned (.bool (sizesB s l)) ∧ w = w' := by
  have HP : Hid (∃ b, b = sizesB s l) := ⟨_, rfl⟩
  obtain ⟨b, hb⟩ := HP.out
  rw [← hb]
  have HB := Lib.hid hb
  clear hb HP
  go_enter Try.func33, Try.ntmps33
  go_wp2_with fail
  all_goals
    go_ret
    refine ⟨ret_bool ?_, rfl⟩
    rw [HB.out]
    unfold sizesB
    first
    | (rw [decide_eq_decide]; omega)
    | (symm; rw [decide_eq_false_iff_not]; omega)
theorem may_any (s l f : Int) (w : World) : Calls Try.prog 14 #[.int .i64 s, .int .i64 l, .int .i64 f] w fun e w' => e = .returned (.bool (mayB s l f)) ∧ w = w' := by
  have HP : Hid (∃ b, b = mayB s l f) := ⟨_, rfl⟩
  obtain ⟨b, hb⟩ := HP.out
  rw [← hb]
  have HB := Lib.hid hb
  clear hb HP
  go_enter Try.func14, Try.ntmps14
  go_wp2_with fail
  all_goals
    go_ret
    refine ⟨ret_bool ?_, rfl⟩
    rw [HB.out]
    unfold mayB
    first
    | (rw [decide_eq_decide]; omega)
    | (symm; rw [decide_eq_false_iff_not]; omega)
theorem right_any (s l f : Int) (w : World) : Calls Try.prog 29 #[.agg #[.int .i64 s, .int .i64 l, .int .i64 f]] w fun e w' => e = .returned (.bool (mayB s l f)) ∧ Frm (fun _ => False) w w' := by
  have HP : Hid (∃ b, b = mayB s l f) := ⟨_, rfl⟩
  obtain ⟨b, hb⟩ := HP.out
  rw [← hb]
  have HB := Lib.hid hb
  clear hb HP
  by_cases hs : 1 ≤ s ∧ s ≤ 256 ∧ 1 ≤ l ∧ l ≤ 32
  · have hz : sizesB s l = true := by unfold sizesB; exact decide_eq_true hs
    have HS := Lib.hid hs
    have Hz := Lib.hid hz
    clear hs hz
    go_enter Try.func29, Try.ntmps29
    go_wp2_with fail
    refine (sizes_any _ _ _).mono ?_
    rintro e w' ⟨rfl, rfl⟩
    rw [Hz.out]
    go_wp2_with fail
    all_goals
      go_ret
      refine ⟨ret_bool ?_, (Frm.refl _ w).alloc _⟩
      have := HS.out
      rw [HB.out]
      unfold mayB
      first
      | (rw [decide_eq_decide]; omega)
      | (symm; rw [decide_eq_false_iff_not]; omega)
  · have hz : sizesB s l = false := by unfold sizesB; exact decide_eq_false hs
    have HS := Lib.hid hs
    have Hz := Lib.hid hz
    clear hs hz
    go_enter Try.func29, Try.ntmps29
    go_wp2_with fail
    refine (sizes_any _ _ _).mono ?_
    rintro e w' ⟨rfl, rfl⟩
    rw [Hz.out]
    go_wp2_with fail
    go_ret
    refine ⟨ret_bool ?_, (Frm.refl _ w).alloc _⟩
    have := HS.out
    rw [HB.out]
    unfold mayB
    symm
    rw [decide_eq_false_iff_not]
    omega
/-- How many bytes of warm-up. -/
theorem warm_any (S L : Nat) (F : Int) (n : Nat) (w : World) (hL : 1 ≤ L ∧ L ≤ 32) (hm : n * S ≤ 4611686018427387904) :
    Calls Try.prog 34 #[.agg #[.int .i64 S, .int .i64 L, .int .i64 F], .int .i64 n] w fun e w' => e = .returned (.int .i64 (warmN S L n)) ∧ Frm (fun _ => False) w w' := by
  have h1 : IntKind.i64.wrap ((n : Int) * (S : Int)) = ((n * S : Nat) : Int) := by rw [Int.natCast_mul]; exact IntWalk.i64_in _ (by rw [← Int.natCast_mul]; omega)
  unfold warmN
  generalize n * S = P at *
  go_enter Try.func34, Try.ntmps34
  go_wp2_with fail
  all_goals
    go_ret
    exact ⟨ret_int (by omega), (Frm.refl _ w).alloc _⟩
structure Cut (S L F : Nat) : Prop where
  s1 : 1 ≤ S
  s2 : S ≤ 256
  l1 : 1 ≤ L
  l2 : L ≤ 32
  f : F ≤ 4611686018427387904
theorem mayB_cut {s l f : Int} (h : mayB s l f = true) : ∃ S L F : Nat, s = S ∧ l = L ∧ f = F ∧ Cut S L F := by
  unfold mayB at h
  have h := of_decide_eq_true h
  exact ⟨s.toNat, l.toNat, f.toNat, by omega, by omega, by omega, ⟨by omega, by omega, by omega, by omega, by omega⟩⟩
theorem Cut.may {S L F : Nat} (h : Cut S L F) : mayB S L F = true := by
  obtain ⟨h1, h2, h3, h4, h5⟩ := h
  unfold mayB
  exact decide_eq_true (by omega)
theorem mul_bnd {k n S : Nat} (h : k ≤ n / S) : k * S ≤ n := Nat.le_trans (Nat.mul_le_mul_right S h) (Nat.div_mul_le_self n S)
theorem infoU : (Try.prog.info? 5).map (fun i => (i.zero, i.size, i.bytes)) = some (some (.int .u8 0), 1, 1) := by kernel_rfl
def OwnPost (l : List UInt8) (w : World) (e : Ending) (w' : World) : Prop := ∃ v, e = .returned v ∧ w'.ownsRow w.heap.size 5 1 v l.length (bv l) ∧ Frm (fun _ => False) w w'
theorem clone_any (K : Nat → Prop) (v : Value) (l : List UInt8) (w : World) (h : Sl w K v (bv l)) (hl : l.length ≤ 1000000000) (hK : ∀ q, K q → q < w.heap.size) :
    Calls Try.prog 43 #[v] w (OwnPost l w) := by
  obtain ⟨i0, hi, hz0, hz1, hz2⟩ := info_parts infoU
  obtain ⟨A, n, c, rfl, hn, hc, hm, hx⟩ := id h
  rw [bv_length] at hn
  cases A with
  | none =>
    have h0 : l.length = 0 := by rcases hx with hx | ⟨_, _, hx, _⟩; omega; cases hx
    have hl0 : l = [] := List.eq_nil_of_length_eq_zero h0
    have he : ∀ w, (binOp .eql 22 (.slice none n c) (.slice none 0 0)).run Try.prog w = .ok (.bool true) w := fun _ => rfl
    clear hx h hl hn h0
    subst hl0
    go_enter Try.func43, Try.ntmps43
    go_wp2_with fail
    go_ret
    exact ⟨_, rfl, World.ownsRow_nil _ _ _ _, Frm.refl _ _⟩
  | some a =>
    have he : ∀ w, (binOp .eql 22 (.slice (some a) n c) (.slice none 0 0)).run Try.prog w = .ok (.bool false) w := fun _ => rfl
    have hsl : Sl (w.alloc (.cells #[] 5)) K (.slice (some a) n c) (bv l) := h.kept fun k hk => (Below.heap_alloc _ _ _ (hK k hk))
    have H := Lib.hid (And.intro hsl (And.intro hn hl))
    clear h hx hsl hn hl
    go_enter Try.func43, Try.ntmps43
    go_wp2_with (at_builtin; go_loud (refine wpList_append_sl (by rfl) _ _ 22 (by rfl) w.heap.size 5 i0 (.int .u8 0) 1 Try.underlying22 hi hz0 hz1 hz2 (by rfl) _ 0 [] (by rfl) (own_new0 rfl (Nat.le_refl _)) K _ (bv l) (by rfl) H.out.1 (bv_one _) (by unfold maxLen; have := H.out.2; simp; omega) (by have := H.out.2; simp; omega) (by simp) ?_); intro A1 N1 c1 w1 HN hNc1 hc1 hown1 hg1 hat1)
    go_ret
    refine ⟨_, rfl, ?_, ((Frm.refl (fun _ => False) w).alloc _).grown hg1 fun k hk => .inr (by cases hk; exact Nat.le_refl _)⟩
    have := HN.out
    simp only [bv_length, Nat.zero_add] at this
    subst this
    simpa using hown1
theorem results_c0 {P : Program} {fn : Func} {p : Tmp} {ty : TypeId} (h : fn.results = #[.cell p ty]) (tmps : Array Value) (w : World) (g : Nat) (t : TypeId) (cs : Array Value) (fr : Nat × Nat) (d : TypeDesc)
    (hp : tmps.getD p undef = .pointer (some ⟨g, 0, none⟩)) (hg : w.heap[g]? = some (.cells cs t fr))
    (hu : P.underlying ty = some d) (hd : (match d with | .struct _ | .array _ _ => true | _ => false) = true) (hi : (P.info? ty).map (·.size) = some cs.size) :
    (results fn tmps).run P w = .ok (.agg cs) w := by
  have hp' : tmps[p]?.getD undef = .pointer (some ⟨g, 0, none⟩) := by simpa using hp
  simp [results, h, hp', asAddr, run_loadVar_row w g t ty cs fr d hg hu hd hi]
def BlkPost (S L F n : Nat) (l : List UInt8) (w : World) (e : Ending) (w' : World) : Prop :=
  ∃ v, e = .returned (.agg #[.int .i64 n, .int .i64 (F + n * S : Nat), .int .i64 (warmN S L n), v]) ∧ w'.ownsRow w.heap.size 5 1 v l.length (bv l) ∧ Frm (fun _ => False) w w'
theorem cell_far {w : World} {p a : Addr} {u v : Value} (h : w.cell? a = some v) (hp : a.block ≠ p.block) : (w.setCell p u).cell? a = some v := (World.cell?_of_block (w := w) (Below.heap_setCell w p u a.block hp)).trans h
theorem far4 {w : World} {g i : Nat} {v u0 u1 u2 u3 : Value} (h : w.cell? ⟨g, i, none⟩ = some v) : ((((w.setCell ⟨g + 1, 0, none⟩ u0).setCell ⟨g + 1, 1, none⟩ u1).setCell ⟨g + 1, 2, none⟩ u2).setCell ⟨g + 1, 3, none⟩ u3).cell? ⟨g, i, none⟩ = some v :=
  cell_far (cell_far (cell_far (cell_far h (by simp)) (by simp)) (by simp)) (by simp)
theorem blk4 {w : World} {g : Nat} {t : TypeId} {x0 x1 x2 x3 : Value} (h : Blk w g t #[x0, x1, x2, x3]) : w.cell? ⟨g, 0, none⟩ = some x0 ∧ w.cell? ⟨g, 1, none⟩ = some x1 ∧ w.cell? ⟨g, 2, none⟩ = some x2 ∧ w.cell? ⟨g, 3, none⟩ = some x3 ∧
    w.frozen? ⟨g, 0, none⟩ = false ∧ w.frozen? ⟨g, 1, none⟩ = false ∧ w.frozen? ⟨g, 2, none⟩ = false ∧ w.frozen? ⟨g, 3, none⟩ = false :=
  ⟨h.cell 0, h.cell 1, h.cell 2, h.cell 3, h.frozen 0, h.frozen 1, h.frozen 2, h.frozen 3⟩
set_option maxHeartbeats 800000 in
theorem block_any (K : Nat → Prop) (S L F n : Nat) (v : Value) (l : List UInt8) (w : World) (hC : Cut S L F) (hn : n ≤ 10000000000) (h : Sl w K v (bv l)) (hl : l.length ≤ 1000000000) (hK : ∀ q, K q → q < w.heap.size) :
    Calls Try.prog 38 #[.agg #[.int .i64 S, .int .i64 L, .int .i64 F], .int .i64 n, v] w (BlkPost S L F n l w) := by
  obtain ⟨A, m, c, rfl, hm, hc, hcm, hx⟩ := id h
  have hP : n * S ≤ 10000000000 * 256 := Nat.mul_le_mul hn hC.s2
  have hwm := fun w => warm_any S L F n w ⟨hC.l1, hC.l2⟩ (by omega)
  have h1 : IntKind.i64.wrap ((n : Int) * (S : Int)) = ((n * S : Nat) : Int) := by rw [Int.natCast_mul]; exact IntWalk.i64_in _ (by rw [← Int.natCast_mul]; omega)
  have h2 : IntKind.i64.wrap ((F : Int) + ((n * S : Nat) : Int)) = ((F + n * S : Nat) : Int) := by rw [Int.natCast_add]; exact IntWalk.i64_in _ (by have := hC.f; omega)
  unfold BlkPost
  have Hw := Lib.hid hwm
  clear hwm hx hm hP
  generalize F + n * S = Z at *
  generalize n * S = P at *
  generalize warmN S L n = W at *
  have H := Lib.hid (And.intro h (And.intro hl hK))
  clear h hl hK
  go_enter Try.func38, Try.ntmps38
  go_wp2_with fail
  have g0 : Frm (fun _ => False) w ((w.alloc (.cells #[.int .i64 S, .int .i64 L, .int .i64 F] 56)).alloc (.cells #[.int .i64 0, .int .i64 0, .int .i64 0, .slice none 0 0] 40)) := ((Frm.refl _ w).alloc _).alloc _
  have b0 : Blk ((w.alloc (.cells #[.int .i64 S, .int .i64 L, .int .i64 F] 56)).alloc (.cells #[.int .i64 0, .int .i64 0, .int .i64 0, .slice none 0 0] 40)) w.heap.size 56 #[.int .i64 S, .int .i64 L, .int .i64 F] := (Blk.new w _ _).alloc _
  have b1 : Blk ((w.alloc (.cells #[.int .i64 S, .int .i64 L, .int .i64 F] 56)).alloc (.cells #[.int .i64 0, .int .i64 0, .int .i64 0, .slice none 0 0] 40)) (w.heap.size + 1) 40 #[.int .i64 0, .int .i64 0, .int .i64 0, .slice none 0 0] := by
    have := Blk.new (w.alloc (.cells #[.int .i64 S, .int .i64 L, .int .i64 F] 56)) 40 #[.int .i64 0, .int .i64 0, .int .i64 0, .slice none 0 0]
    rwa [World.size_alloc] at this
  generalize (w.alloc (.cells #[.int .i64 S, .int .i64 L, .int .i64 F] 56)).alloc (.cells #[.int .i64 0, .int .i64 0, .int .i64 0, .slice none 0 0] 40) = W0 at *
  obtain ⟨g, hg⟩ : ∃ g, g = w.heap.size := ⟨_, rfl⟩
  rw [← hg] at b0 b1
  rw [← hg]
  have HG := Lib.hid (And.intro hg (And.intro g0 b1))
  have c0 := b0.cell 0
  have c1 := b0.cell 1
  have c2 := b0.cell 2
  simp only [List.getElem?_toArray, List.getElem?_cons_zero, List.getElem?_cons_succ] at c0 c1 c2
  clear hg g0 b0 b1
  go_region_held3 (fun w' => w'.cell? ⟨g, 0, none⟩ = some (.int .i64 S) ∧ w'.cell? ⟨g, 1, none⟩ = some (.int .i64 L) ∧ w'.cell? ⟨g, 2, none⟩ = some (.int .i64 F)) (first | (with_reducible exact ⟨far4 e0, far4 e1, far4 e2⟩) | exact ⟨c0, c1, c2⟩ | exact ⟨d0, d1, d2⟩ | exact ⟨e0, e1, e2⟩)
    (first
    | (go_at_call 34; refine (Hw.out _).mono ?_; rintro e w2 ⟨rfl, hF⟩; have d0 := hF.cell c0 id; have d1 := hF.cell c1 id; have d2 := hF.cell c2 id)
    | (go_at_call 43; refine (clone_any K _ l _ (by have hh := (HG.out.2.1.drew).trans hF fun _ h => h.elim; exact H.out.1.kept fun q hq => hh.block q (H.out.2.2 q hq) id) H.out.2.1 (fun q hq => by have hh := (HG.out.2.1.drew).trans hF fun _ h => h.elim; exact Nat.lt_of_lt_of_le (H.out.2.2 q hq) hh.size)).mono ?_; rintro e w3 ⟨v3, rfl, ho3, hF3⟩; obtain ⟨A3, k3, rfl, -, -⟩ := own_form ho3; have e0 := hF3.cell d0 id; have e1 := hF3.cell d1 id; have e2 := hF3.cell d2 id; have hb3 := Blk.kept HG.out.2.2 ((((Frm.refl (fun _ => False) W0).drew).trans hF fun _ h => h.elim).trans hF3 fun _ h => h.elim) id; obtain ⟨m0, m1, m2, m3, f0, f1, f2, f3⟩ := blk4 hb3; have Hb3 := Lib.hid hb3; clear hb3))
  go_wp2_with fail
  refine bodyPost_ret (results_c0 (p := 6) rfl _ _ (g + 1) 40 #[.int .i64 n, .int .i64 Z, .int .i64 W, .slice A3 l.length k3] (0, 0) _ rfl ((((Hb3.out.set_ 0 _).set_ 1 _).set_ 2 _).set_ 3 _) Try.underlying40 rfl (by kernel_rfl)) rfl ?_
  obtain ⟨hg, g0, -⟩ := HG.out
  have hF0 : Frm (fun _ => False) w w3 := ((g0.drew).trans hF fun _ h => h.elim).trans hF3 fun _ h => h.elim
  have hF4 : Frm (fun q => q = g + 1) w3 ((((w3.setCell ⟨g + 1, 0, none⟩ (.int .i64 n)).setCell ⟨g + 1, 1, none⟩ (.int .i64 Z)).setCell ⟨g + 1, 2, none⟩ (.int .i64 W)).setCell ⟨g + 1, 3, none⟩ (.slice A3 l.length k3)) :=
    ((((Frm.refl (fun q => q = g + 1) w3).setCell ⟨g + 1, 0, none⟩ (.inl rfl) _).setCell ⟨g + 1, 1, none⟩ (.inl rfl) _).setCell ⟨g + 1, 2, none⟩ (.inl rfl) _).setCell ⟨g + 1, 3, none⟩ (.inl rfl) _
  refine ⟨_, rfl, hF4.own (World.ownsRow.mono ho3 ?_) (fun q hq hk => own_blk_ne ho3 Hb3.out (by decide) (by rw [hq, hk])), hF0.trans hF4 fun q hq => .inr (by rw [hq, hg]; omega)⟩
  have := ((g0.drew).trans hF fun _ h => h.elim).size
  exact this
end Go.Proofs.Ytecpbnkkgdppoaa
