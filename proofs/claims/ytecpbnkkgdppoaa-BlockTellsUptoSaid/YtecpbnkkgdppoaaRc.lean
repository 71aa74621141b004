/- The reference's cutter: Feed, Pending, Close. -/
import Derived.Test.YtecpbnkkgdppoaaRo
import Derived.BigRegion
namespace Go.Proofs.Ytecpbnkkgdppoaa
open Go.RowKit
/-- The reference's cutter, open: how many blocks were told, its row, what came. -/
def RCt (w : World) (B b S L F n : Nat) (v : Value) (t : List UInt8) : Prop :=
  Blk w b 44 #[.int .i64 S, .int .i64 L, .int .i64 F, v, .int .i64 n, .bool false] ∧ w.ownsRow B 5 1 v t.length (bv t) ∧ b < B ∧ B ≤ w.heap.size
theorem RCt.kept {w w' : World} {B b S L F n : Nat} {v : Value} {xs : List UInt8} {K : Nat → Prop} (h : RCt w B b S L F n v xs) (hF : Frm K w w') (hb : ¬ K b) (hv : ∀ q, v.ownBlock = some q → ¬ K q) : RCt w' B b S L F n v xs :=
  ⟨h.1.kept hF hb, hF.own h.2.1 hv, h.2.2.1, Nat.le_trans h.2.2.2 hF.size⟩
theorem RCt.keptF {w w' : World} {B b S L F n : Nat} {v : Value} {xs : List UInt8} (h : RCt w B b S L F n v xs) (hF : Frm (fun _ => False) w w') : RCt w' B b S L F n v xs := h.kept hF id fun _ _ => id
theorem RCt.lt {w : World} {B b S L F n : Nat} {v : Value} {xs : List UInt8} (h : RCt w B b S L F n v xs) : b < w.heap.size ∧ (∀ q, v.ownBlock = some q → B ≤ q ∧ q < w.heap.size ∧ q ≠ b) :=
  ⟨h.1.lt, fun q hq => ⟨(h.2.1.lt q hq).1, (h.2.1.lt q hq).2, fun e => own_blk_ne h.2.1 h.1 (by decide) (by rw [hq, e])⟩⟩
theorem RCt.cells {w : World} {B b S L F n : Nat} {v : Value} {xs : List UInt8} (h : RCt w B b S L F n v xs) : w.cell? ⟨b, 0, none⟩ = some (.int .i64 S) ∧ w.cell? ⟨b, 1, none⟩ = some (.int .i64 L) ∧ w.cell? ⟨b, 2, none⟩ = some (.int .i64 F) ∧ w.cell? ⟨b, 3, none⟩ = some v ∧ w.cell? ⟨b, 4, none⟩ = some (.int .i64 n) ∧ w.cell? ⟨b, 5, none⟩ = some (.bool false) :=
  ⟨h.1.cell 0, h.1.cell 1, h.1.cell 2, h.1.cell 3, h.1.cell 4, h.1.cell 5⟩
theorem RCt.frozen {w : World} {B b S L F n : Nat} {v : Value} {xs : List UInt8} (h : RCt w B b S L F n v xs) (i : Nat) : w.frozen? ⟨b, i, none⟩ = false := h.1.frozen i
theorem RCt.sl {w : World} {B b S L F n : Nat} {v : Value} {xs : List UInt8} (h : RCt w B b S L F n v xs) : Sl w (fun q => q < w.heap.size) v (bv xs) := (OSl.of_own (xs := bv xs) h.2.1 (K := fun _ => True) fun _ _ => trivial).sl.mono fun q hq => hq.lt
set_option maxHeartbeats 1600000 in
theorem rpending_any (B b S L F n : Nat) (v : Value) (t : List UInt8) (w : World) (hC : Cut S L F) (h : RCt w B b S L F n v t) (hn : n * S ≤ t.length) (ht : t.length ≤ 1000000) (o k : Nat) (ho : t.length - n * S = o) (hk : warmN S L n = k) :
    Calls Try.prog 25 #[.pointer (some ⟨b, 0, none⟩)] w fun e w' => e = .returned (.tuple #[.int .i64 o, .int .i64 k]) ∧ Frm (fun _ => False) w w' := by
  obtain ⟨A, c, rfl, -, -⟩ := own_form h.2.1
  obtain ⟨c0, c1, -, c3, c4, c5⟩ := h.cells
  have hmul : IntKind.i64.wrap ((n : Int) * (S : Int)) = ((n * S : Nat) : Int) := by rw [Int.natCast_mul]; exact IntWalk.i64_in _ (by rw [← Int.natCast_mul]; omega)
  have hwd : k = L - 1 ∧ L - 1 ≤ n * S ∨ k = n * S ∧ n * S < L - 1 := by rw [← hk]; unfold warmN; omega
  generalize n * S = P at *
  generalize t.length = T at *
  have hsub : IntKind.i64.wrap ((T : Int) - (P : Int)) = (o : Int) := by rw [show (T : Int) - (P : Int) = (o : Int) from by omega]; exact IntWalk.i64_in _ (by omega)
  have hsl : IntKind.i64.wrap ((L : Int) - 1) = ((L - 1 : Nat) : Int) := by have := hC.l1; have := hC.l2; rw [show (L : Int) - 1 = ((L - 1 : Nat) : Int) from by omega]; exact IntWalk.i64_in _ (by omega)
  have hL1 := hC.l1
  have hL2 := hC.l2
  clear h hk ho
  generalize L - 1 = M at *
  clear hC
  rcases hwd with ⟨rfl, h2⟩ | ⟨rfl, h2⟩
  all_goals
    go_enter Try.func25, Try.ntmps25
    go_wp2_with fail
    go_quiet (fail)
    go_wp2_with fail
    go_ret2
    exact ⟨rfl, (Frm.refl _ w).drewN _⟩
theorem cell_new {w : World} {a : Addr} {v : Value} {o : Obj} (h : w.cell? a = some v) : (w.alloc o).cell? a = some v := ((Frm.refl (fun _ => False) w).alloc o).cell h id
def RClosePost (bs : List Bc) (b : Nat) (w : World) (e : Ending) (w' : World) : Prop :=
  ∃ v ys, e = .returned v ∧ ys.map (·.c) = bs ∧ BR w' w.heap.size (fun _ => False) v ys ∧ Frm (fun q => q = b) w w'
set_option maxRecDepth 100000 in
set_option maxHeartbeats 1600000 in
theorem rclose_any (B b S L F : Nat) (v : Value) (t : List UInt8) (w : World) (hC : Cut S L F) (h : RCt w B b S L F (t.length / S) v t) (ht : t.length ≤ 1000000) :
    Calls Try.prog 27 #[.pointer (some ⟨b, 0, none⟩)] w (RClosePost (lastN S L F t) b w) := by
  obtain ⟨A, c, rfl, -, -⟩ := own_form h.2.1
  obtain ⟨c0, c1, c2, c3, c4, c5⟩ := h.cells
  have f5 := h.frozen 5
  have hF1 : Frm (fun q => q = b) w (w.setCell ⟨b, 5, none⟩ (.bool true)) := (Frm.refl (fun q => q = b) w).setCell ⟨b, 5, none⟩ (.inl rfl) _
  have hb1 := h.1.set_ 5 (.bool true)
  have hdl := div_low t.length S hC.s1
  have hdn := Nat.div_le_self t.length S
  have hmul : IntKind.i64.wrap (((t.length / S : Nat) : Int) * (S : Int)) = ((t.length / S * S : Nat) : Int) := by rw [Int.natCast_mul]; exact IntWalk.i64_in _ (by rw [← Int.natCast_mul]; omega)
  have hone : ∀ w8, Frm (fun q => q = b) w w8 → Calls Try.prog 32 #[.int .i64 S, .int .i64 L, .int .i64 F, .slice A t.length c, .int .i64 (t.length / S : Nat)] w8 (BlkPost S L F (t.length / S) (dataN S L t (t.length / S)) w8) := fun w8 h8 =>
    one_any (fun q => q < w8.heap.size ∧ q ≠ b) S L F (t.length / S) t A t.length c w8 hC hdl.1 (by omega) (by
      have h1 : Sl w (fun q => q < w.heap.size ∧ q ≠ b) (.slice A t.length c) (bv t) := (OSl.of_own (xs := bv t) h.2.1 (K := fun q => q < w.heap.size ∧ q ≠ b) fun q hq => (h.lt.2 q hq).2).sl.mono fun q hq => hq.1
      exact h1.keptTo fun q hq => ⟨h8.block q hq.1 hq.2, Nat.lt_of_lt_of_le hq.1 h8.size, hq.2⟩) (by omega) fun q hq => hq.1
  have hcb := bcells_blk S L F (t.length / S) t
  have hdat : (blkN S L F t (t.length / S)).data = dataN S L t (t.length / S) := rfl
  by_cases he : t.length / S * S = t.length
  · have hl : lastN S L F t = [] := by unfold lastN; rw [if_neg (by omega)]
    rw [hl]
    rw [he] at hmul
    generalize t.length / S = N at *
    generalize t.length = T at *
    have H := Lib.hid hF1
    clear hone hcb hdat hl he hdl hdn h hb1 hF1 hC
    go_enter Try.func27, Try.ntmps27
    go_wp2_with fail
    go_quiet (fail)
    go_wp2_with fail
    go_ret
    exact ⟨_, [], rfl, rfl, BR.nil _ _ _, H.out.drewN _⟩
  · have hl : lastN S L F t = [blkN S L F t (t.length / S)] := by unfold lastN; rw [if_pos (by omega)]
    rw [hl]
    unfold BlkPost at hone
    obtain ⟨Z, hZ⟩ : ∃ Z, Z = F + t.length / S * S := ⟨_, rfl⟩
    rw [← hZ] at hone hcb
    have hcb := fun v => hcb v Z rfl
    obtain ⟨P, hP⟩ : ∃ P, P = t.length / S * S := ⟨_, rfl⟩
    rw [← hP] at hmul he
    have hne : ((P : Int) == (t.length : Int)) = false := by simp; omega
    generalize blkN S L F t (t.length / S) = y at *
    generalize dataN S L t (t.length / S) = D at *
    generalize t.length / S = N at *
    generalize t.length = T at *
    generalize warmN S L N = Wm at *
    have H := Lib.hid (And.intro hone (And.intro hcb (And.intro hdat (And.intro hF1 hb1))))
    clear hone hcb hdat hl he hdl hdn h hC hb1 hZ hF1 hP
    go_enter Try.func27, Try.ntmps27
    go_upto_region 4 with fail
    obtain ⟨-, -, -, hF1, hb1⟩ := H.out
    obtain ⟨d0, d1, d2, d3, d4⟩ : _ ∧ _ ∧ _ ∧ _ ∧ _ := ⟨hb1.cell 0, hb1.cell 1, hb1.cell 2, hb1.cell 3, hb1.cell 4⟩
    generalize w.setCell ⟨b, 5, none⟩ (.bool true) = w1 at *
    have HF1 := Lib.hid hF1
    clear hF1 hb1 c0 c1 c2 c3 c4 c5 f5
    replace d0 : w1.cell? ⟨b, 0, none⟩ = some (.int .i64 S) := d0
    replace d1 : w1.cell? ⟨b, 1, none⟩ = some (.int .i64 L) := d1
    replace d2 : w1.cell? ⟨b, 2, none⟩ = some (.int .i64 F) := d2
    replace d3 : w1.cell? ⟨b, 3, none⟩ = some (.slice A T c) := d3
    replace d4 : w1.cell? ⟨b, 4, none⟩ = some (.int .i64 N) := d4
    go_quiet (fail)
    go_wp2_with fail
    obtain ⟨w2, hw2⟩ : ∃ w2, w2 = w1.drewN nq := ⟨_, rfl⟩
    have HF2 := Lib.hid (show Frm (fun q => q = b) w w2 from hw2 ▸ HF1.out.drewN nq)
    replace d0 : w2.cell? ⟨b, 0, none⟩ = some (.int .i64 S) := hw2 ▸ d0
    replace d1 : w2.cell? ⟨b, 1, none⟩ = some (.int .i64 L) := hw2 ▸ d1
    replace d2 : w2.cell? ⟨b, 2, none⟩ = some (.int .i64 F) := hw2 ▸ d2
    replace d3 : w2.cell? ⟨b, 3, none⟩ = some (.slice A T c) := hw2 ▸ d3
    replace d4 : w2.cell? ⟨b, 4, none⟩ = some (.int .i64 N) := hw2 ▸ d4
    rw [← hw2]
    clear hw2 HF1
    go_region_held3 (fun w' => w'.cell? ⟨b, 0, none⟩ = some (.int .i64 S) ∧ w'.cell? ⟨b, 1, none⟩ = some (.int .i64 L) ∧ w'.cell? ⟨b, 2, none⟩ = some (.int .i64 F) ∧ w'.cell? ⟨b, 3, none⟩ = some (.slice A T c) ∧ w'.cell? ⟨b, 4, none⟩ = some (.int .i64 N)) (first | exact ⟨d0, d1, d2, d3, d4⟩ | (with_reducible exact ⟨e0, e1, e2, e3, e4⟩) | (with_reducible exact ⟨cell_new e0, cell_new e1, cell_new e2, cell_new e3, cell_new e4⟩))
      ((go_at_call 32; refine (H.out.1 _ (by exact HF2.out.drew)).mono ?_; rintro e w3 ⟨v8, rfl, ho8, hF8⟩; obtain ⟨A8, c8, rfl, -, -⟩ := own_form ho8; have e0 := hF8.cell d0 id; have e1 := hF8.cell d1 id; have e2 := hF8.cell d2 id; have e3 := hF8.cell d3 id; have e4 := hF8.cell d4 id; have H2 := Lib.hid (And.intro ho8 hF8); clear ho8 hF8))
    go_wp2_with fail
    go_ret
    obtain ⟨ho8, hF8⟩ := H2.out
    have hF3 : Frm (fun q => q = b) w w3 := HF2.out.drew.trans' (hF8.mono fun _ h => h.elim)
    obtain ⟨-, hcb, hdat, -, -⟩ := H.out
    refine ⟨_, [⟨.slice A8 D.length c8, y⟩], rfl, rfl, ⟨?_, fun z hz => ?_, fun _ _ => id⟩, hF3.alloc _⟩
    · have e : WB.cellsOf [(⟨.slice A8 D.length c8, y⟩ : Bk)] = [.int .i64 N, .int .i64 Z, .int .i64 Wm, .slice A8 D.length c8] := (List.append_nil _).trans (hcb _)
      rw [e]
      exact ⟨rfl, .inr ⟨w3.heap.size, 1, #[.int .i64 N, .int .i64 Z, .int .i64 Wm, .slice A8 D.length c8], rfl, hF3.size, heap_alloc_new w3 _, Nat.le_refl _, by unfold maxLen; omega, rfl, rfl⟩⟩
    · obtain rfl := List.mem_singleton.1 hz
      refine ⟨?_, fun _ _ => id⟩
      show World.ownsRow _ _ _ _ _ _ _
      dsimp only
      rw [hdat]
      exact ((Frm.refl (fun _ => False) w3).alloc _).own (World.ownsRow.mono ho8 HF2.out.size) fun _ _ => id
end Go.Proofs.Ytecpbnkkgdppoaa
