/- New, Pending. -/
import Derived.Test.YtecpbnkkgdppoaaCt
namespace Go.Proofs.Ytecpbnkkgdppoaa
open Go.RowKit
def NewRes (s l f : Int) (w : World) (e : Ending) (w' : World) : Prop :=
  if mayB s l f = true then ∃ b, e = .returned (.tuple #[.pointer (some ⟨b, 0, none⟩), .int .i64 0]) ∧ w.heap.size ≤ b ∧ CSt w' (b + 1) b s.toNat l.toNat f.toNat 0 (.slice none 0 0) [] ∧ Frm (fun _ => False) w w' else e = .returned (.tuple #[.pointer none, .int .i64 2]) ∧ Frm (fun _ => False) w w'
set_option maxHeartbeats 800000 in
theorem new_any (s l f : Int) (w : World) : Calls Try.prog 13 #[.int .i64 s, .int .i64 l, .int .i64 f] w (NewRes s l f w) := by
  have hF1 : Frm (fun _ => False) w (w.alloc (.cells #[.int .i64 s, .int .i64 l, .int .i64 f] 56)) := (Frm.refl _ w).alloc _
  have hb1 := Blk.new w 56 #[.int .i64 s, .int .i64 l, .int .i64 f]
  obtain ⟨mb, hmb⟩ : ∃ mb, mb = mayB s l f := ⟨_, rfl⟩
  have HM := Lib.hid hmb
  have Hr := Lib.hid (fun w => right_any s l f w)
  rw [← hmb] at Hr
  clear hmb
  go_enter Try.func13, Try.ntmps13
  go_wp2_with fail
  generalize w.alloc (.cells #[.int .i64 s, .int .i64 l, .int .i64 f] 56) = w1 at *
  obtain ⟨g, hg⟩ : ∃ g, g = w.heap.size := ⟨_, rfl⟩
  rw [← hg] at hb1
  rw [← hg]
  obtain ⟨c0, c1, c2⟩ : w1.cell? ⟨g, 0, none⟩ = some (.int .i64 s) ∧ w1.cell? ⟨g, 1, none⟩ = some (.int .i64 l) ∧ w1.cell? ⟨g, 2, none⟩ = some (.int .i64 f) := ⟨hb1.cell 0, hb1.cell 1, hb1.cell 2⟩
  have H1 := Lib.hid (And.intro hF1 hg)
  clear hF1 hb1 hg
  go_wp2_with fail
  refine (Hr.out _).mono ?_
  rintro e w2 ⟨rfl, hF2⟩
  have d0 := hF2.cell c0 id
  have d1 := hF2.cell c1 id
  have d2 := hF2.cell c2 id
  have H2 := Lib.hid (H1.out.1.trans hF2 fun _ h => h.elim)
  clear hF2 c0 c1 c2
  cases mb with
  | true =>
    go_wp2_with fail
    go_ret2
    unfold NewRes
    rw [if_pos HM.out.symm]
    obtain ⟨S, L, F, rfl, rfl, rfl, hC⟩ := mayB_cut HM.out.symm
    refine ⟨w2.heap.size, rfl, H2.out.size, ?_, H2.out.alloc _⟩
    simp only [Int.toNat_natCast]
    exact ⟨Blk.new w2 _ _, World.ownsRow_nil _ _ _ _, by omega, by simp⟩
  | false =>
    go_wp2_with fail
    go_ret2
    unfold NewRes
    rw [if_neg (by rw [← HM.out]; simp)]
    exact ⟨rfl, H2.out⟩
set_option maxHeartbeats 800000 in
theorem pending_any (B b S L F n : Nat) (v : Value) (xs : List UInt8) (w : World) (hC : Cut S L F) (h : CSt w B b S L F n v xs) (hx : warmN S L n ≤ xs.length) (hl : xs.length ≤ 1000000) (hn : n ≤ 1000000000) :
    Calls Try.prog 23 #[.pointer (some ⟨b, 0, none⟩)] w fun e w' => e = .returned (.tuple #[.int .i64 ((xs.length - warmN S L n : Nat) : Int), .int .i64 (warmN S L n)]) ∧ Frm (fun _ => False) w w' := by
  have hown : ∀ w5, Frm (fun _ => False) w w5 → Calls Try.prog 37 #[.pointer (some ⟨b, 0, none⟩)] w5 fun e w' => e = .returned (.int .i64 ((xs.length - warmN S L n : Nat) : Int)) ∧ Frm (fun _ => False) w5 w' := fun w5 h5 =>
    own_any B b S L F n v xs w5 hC (h.keptF h5) hx hl hn
  have hwm := fun w => warm_any S L F n w ⟨hC.l1, hC.l2⟩ (by have := Nat.mul_le_mul hn hC.s2; omega)
  obtain ⟨c0, c1, c2, c3, c4, -⟩ := h.cells
  generalize xs.length - warmN S L n = N at *
  generalize warmN S L n = W at *
  have Ho := Lib.hid hown
  have Hw := Lib.hid hwm
  clear hown hwm h hC hx hl hn
  go_enter Try.func23, Try.ntmps23
  go_wp2_with fail
  go_region_held3 (fun w' => w'.cell? ⟨b, 0, none⟩ = some (.int .i64 S) ∧ w'.cell? ⟨b, 1, none⟩ = some (.int .i64 L) ∧ w'.cell? ⟨b, 2, none⟩ = some (.int .i64 F) ∧ w'.cell? ⟨b, 4, none⟩ = some (.int .i64 n)) (first | exact ⟨c0, c1, c2, c4⟩ | exact ⟨d0, d1, d2, d4⟩ | exact ⟨e0, e1, e2, e4⟩)
    (first
    | (go_at_call 37; refine (Ho.out _ (by exact (Frm.refl _ w).drew)).mono ?_; rintro e w2 ⟨rfl, hF⟩; have d0 := hF.cell c0 id; have d1 := hF.cell c1 id; have d2 := hF.cell c2 id; have d4 := hF.cell c4 id)
    | (go_at_call 34; refine (Hw.out _).mono ?_; rintro e w3 ⟨rfl, hG⟩; have e0 := hG.cell d0 id; have e1 := hG.cell d1 id; have e2 := hG.cell d2 id; have e4 := hG.cell d4 id))
  go_wp2_with fail
  go_ret2
  exact ⟨rfl, (((Frm.refl _ w).drew).trans hF fun _ h => h.elim).trans hG fun _ h => h.elim⟩
theorem pending_shut (b S L F : Nat) (w : World) (h : ShutAt w b S L F) : Calls Try.prog 23 #[.pointer (some ⟨b, 0, none⟩)] w fun e w' => e = .returned (.tuple #[.int .i64 0, .int .i64 0]) ∧ w = w' := by
  obtain ⟨n, hb⟩ := h
  have c3 := hb.cell 3
  simp only [List.getElem?_toArray, List.getElem?_cons_zero, List.getElem?_cons_succ] at c3
  clear hb
  go_enter Try.func23, Try.ntmps23
  go_wp2_with fail
  go_ret2
  exact ⟨rfl, rfl⟩
theorem feed_shut (b S L F : Nat) (A : Option Addr) (m c : Nat) (w : World) (h : ShutAt w b S L F) : Calls Try.prog 22 #[.pointer (some ⟨b, 0, none⟩), .slice A m c] w fun e w' => e = .returned (.slice none 0 0) ∧ w = w' := by
  obtain ⟨n, hb⟩ := h
  have c3 := hb.cell 3
  simp only [List.getElem?_toArray, List.getElem?_cons_zero, List.getElem?_cons_succ] at c3
  clear hb
  go_enter Try.func22, Try.ntmps22
  go_wp2_with fail
  go_ret
  exact ⟨rfl, rfl⟩
theorem feed_nil (A : Option Addr) (m c : Nat) (w : World) : Calls Try.prog 22 #[.pointer none, .slice A m c] w fun e w' => e = .returned (.slice none 0 0) ∧ w = w' := by
  go_enter Try.func22, Try.ntmps22
  go_wp2_with fail
  go_ret
  exact ⟨rfl, rfl⟩
theorem close_shut (b S L F : Nat) (w : World) (h : ShutAt w b S L F) : Calls Try.prog 26 #[.pointer (some ⟨b, 0, none⟩)] w fun e w' => e = .returned (.slice none 0 0) ∧ w = w' := by
  obtain ⟨n, hb⟩ := h
  have c3 := hb.cell 3
  simp only [List.getElem?_toArray, List.getElem?_cons_zero, List.getElem?_cons_succ] at c3
  clear hb
  go_enter Try.func26, Try.ntmps26
  go_wp2_with fail
  go_ret
  exact ⟨rfl, rfl⟩
theorem close_nil (w : World) : Calls Try.prog 26 #[.pointer none] w fun e w' => e = .returned (.slice none 0 0) ∧ w = w' := by
  go_enter Try.func26, Try.ntmps26
  go_wp2_with fail
  go_ret
  exact ⟨rfl, rfl⟩
end Go.Proofs.Ytecpbnkkgdppoaa
