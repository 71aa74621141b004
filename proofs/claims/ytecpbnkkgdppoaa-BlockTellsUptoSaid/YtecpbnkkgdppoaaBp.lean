/- Of: a text's blocks. -/
import Derived.Test.YtecpbnkkgdppoaaBo
namespace Go.Proofs.Ytecpbnkkgdppoaa
open Go.RowKit Go.Shelf
/-- Blocks of one's own, with memory of their own. -/
def OfPost (w : World) (bs : List Bc) (v : Value) (w' : World) : Prop :=
  ∃ ys : List Bk, ys.map (·.c) = bs ∧ w'.ownsRow w.heap.size 40 4 v ys.length (WB.cellsOf ys) ∧ (∀ y ∈ ys, kGood w.heap.size y w') ∧ Frm (fun _ => False) w w'
theorem blocks_seq (Bc Bt S L F : Nat) (t : List UInt8) (A : Option Addr) (m c : Nat) (w : World) (hC : Cut S L F) (ht : t.length ≤ 1000000000) (hBc : Blk w Bc 56 #[.int .i64 S, .int .i64 L, .int .i64 F]) (hBt : w.cell? ⟨Bt, 0, none⟩ = some (.slice A m c))
    (hsl : Sl w (fun q => q < w.heap.size) (.slice A m c) (bv t)) :
    SeqS Fence.wide 6 Try.prog 40 #[.pointer (some ⟨Bc, 0, none⟩), .pointer (some ⟨Bt, 0, none⟩)] (fun x : Bk => #[bEnc x]) (Frm fun _ => False) (KpW w.heap.size 5) (kGood w.heap.size)
      (fun ys _ => ys.map (·.c) = blocksN S L F t) (numN S t) w := fun l J W hW hJ hY h0 =>
  blocks1_in 6 (by omega) l Bc Bt w.heap.size S L F t A m c J hC ht hJ hY W (hBc.kept hW id) (hW.cell hBt id) (hsl.kept fun q hq => hW.block q hq id) ⟨hBc.lt, World.block_lt_of_cell? _ _ hBt, hW.size⟩ h0
theorem blocks_any (S L F : Int) (A : Option Addr) (m c : Nat) (w : World) :
    Calls Try.prog 31 #[.agg #[.int .i64 S, .int .i64 L, .int .i64 F], .slice A m c] w fun e w' => e = .returned (.func (.func 40) #[] #[.pointer (some ⟨w.heap.size, 0, none⟩), .pointer (some ⟨w.heap.size + 1, 0, none⟩)]) ∧
      w' = (w.alloc (.cells #[.int .i64 S, .int .i64 L, .int .i64 F] 56)).alloc (.cells #[.slice A m c] 22) := by
  go_enter Try.func31, Try.ntmps31
  go_wp2
  go_ret
  exact ⟨rfl, rfl⟩
theorem num_le (S : Nat) (t : List UInt8) (h : 1 ≤ S) : numN S t ≤ t.length := by
  rcases Nat.eq_zero_or_pos (numN S t) with h0 | h0
  · omega
  · have h1 := (num_bnd S t h (numN S t - 1)).1 (by omega)
    have h2 : numN S t - 1 ≤ (numN S t - 1) * S := Nat.le_mul_of_pos_right _ (by omega)
    omega
def OfRes (S L F : Int) (t : List UInt8) (w : World) (e : Ending) (w' : World) : Prop :=
  if mayB S L F = true then ∃ v, e = .returned (.tuple #[v, .int .i64 0]) ∧ OfPost w (blocksN S.toNat L.toNat F.toNat t) v w' else e = .returned (.tuple #[.slice none 0 0, .int .i64 2]) ∧ Frm (fun _ => False) w w'
set_option maxHeartbeats 800000 in
theorem of_any (s l f : Int) (t : List UInt8) (A : Option Addr) (m c : Nat) (w : World) (hsl : Sl w (fun q => q < w.heap.size) (.slice A m c) (bv t)) (ht : t.length ≤ 1000000) :
    Calls Try.prog 11 #[.int .i64 s, .int .i64 l, .int .i64 f, .slice A m c] w (OfRes s l f t w) := by
  have hmt : m = t.length := by obtain ⟨A', m', c', e, e1, -⟩ := hsl; cases e; simpa using e1
  have hF1 : Frm (fun _ => False) w (w.alloc (.cells #[.int .i64 s, .int .i64 l, .int .i64 f] 56)) := (Frm.refl _ w).alloc _
  have hb1 := Blk.new w 56 #[.int .i64 s, .int .i64 l, .int .i64 f]
  by_cases hm : mayB s l f = true
  · obtain ⟨S, L, F, rfl, rfl, rfl, hC⟩ := mayB_cut hm
    have HP : Hid (∀ e w', (∃ v, e = .returned (.tuple #[v, .int .i64 0]) ∧ OfPost w (blocksN S L F t) v w') → OfRes S L F t w e w') := Lib.hid fun e w' h => by unfold OfRes; rw [if_pos hm]; simpa using h
    have hm9 : m ≤ 1000000 := by omega
    have hFf := hC.f
    have Hm := Lib.hid (And.intro hm (And.intro hC (And.intro hsl hmt)))
    have Hm2 := Lib.hid hm
    clear hm hC hsl hmt ht
    go_enter Try.func11, Try.ntmps11
    go_wp2_with fail
    generalize w.alloc (.cells #[.int .i64 S, .int .i64 L, .int .i64 F] 56) = w1 at *
    obtain ⟨g, hg⟩ : ∃ g, g = w.heap.size := ⟨_, rfl⟩
    rw [← hg] at hb1
    rw [← hg]
    obtain ⟨c0, c1, c2⟩ : w1.cell? ⟨g, 0, none⟩ = some (.int .i64 S) ∧ w1.cell? ⟨g, 1, none⟩ = some (.int .i64 L) ∧ w1.cell? ⟨g, 2, none⟩ = some (.int .i64 F) := ⟨hb1.cell 0, hb1.cell 1, hb1.cell 2⟩
    have H1 := Lib.hid (And.intro hF1 hg)
    clear hF1 hb1 hg
    go_wp2_with fail
    refine (right_any _ _ _ _).mono ?_
    rintro e w2 ⟨rfl, hF2⟩
    rw [Hm2.out]
    have d0 := hF2.cell c0 id
    have d1 := hF2.cell c1 id
    have d2 := hF2.cell c2 id
    have H2 := Lib.hid (H1.out.1.trans hF2 fun _ h => h.elim)
    clear hF2 c0 c1 c2
    go_wp2_with fail
    refine (blocks_any S L F A m c w2).mono ?_
    rintro e w' ⟨rfl, rfl⟩
    obtain ⟨hm, hC, hsl, hmt⟩ := Hm.out
    have hF3 : Frm (fun _ => False) w2 ((w2.alloc (.cells #[.int .i64 S, .int .i64 L, .int .i64 F] 56)).alloc (.cells #[.slice A m c] 22)) := ((Frm.refl _ w2).alloc _).alloc _
    have hbc := (Blk.new w2 56 #[.int .i64 S, .int .i64 L, .int .i64 F]).alloc (.cells #[.slice A m c] 22)
    have hbt := Blk.new (w2.alloc (.cells #[.int .i64 S, .int .i64 L, .int .i64 F] 56)) 22 #[.slice A m c]
    rw [World.size_alloc] at hbt
    generalize (w2.alloc (.cells #[.int .i64 S, .int .i64 L, .int .i64 F] 56)).alloc (.cells #[.slice A m c] 22) = w3 at *
    have hF := H2.out.trans hF3 fun _ h => h.elim
    have hsl3 : Sl w3 (fun q => q < w3.heap.size) (.slice A m c) (bv t) := hsl.keptTo fun q hq => ⟨hF.block q hq id, Nat.lt_of_lt_of_le hq hF.size⟩
    have hcol := WB.collect_calls _ _ (enters_of Try.func40 (by kernel_rfl) rfl) (numN S t) (by have := num_le S t hC.s1; omega) (fun ys _ => ys.map (·.c) = blocksN S L F t) (kGood w3.heap.size) (fun _ => False) (Frm fun _ => False) w3 (fun _ h => h.elim) (fun X Y h => h.mono fun _ h => h.elim)
      (fun x X Y h k => k.own h fun _ _ h => h) (fun _ _ _ h _ => h) (kGood_stays _ _) (fun x W h => by obtain ⟨A0, c0, h, -, -⟩ := own_form h; exact ⟨_, _, _, h⟩) (blocks_seq _ _ S L F t A m c w3 hC (by omega) hbc (hbt.cell 0) hsl3)
    have HC := Lib.hid (And.intro hcol hF)
    clear hcol hF hF3 hbc hbt hsl3 hm hC hsl hmt H2
    go_wp2_with fail
    refine HC.out.1.mono ?_
    rintro e w4 ⟨v, xs, rfl, hS, ho, hg, hF4⟩
    have HE := Lib.hid (And.intro hS (And.intro ho (And.intro hg hF4)))
    clear hS ho hg hF4
    go_wp2_with fail
    go_ret2
    obtain ⟨hS, ho, hg, hF4⟩ := HE.out
    have hz := HC.out.2.size
    exact HP.out _ _ ⟨v, rfl, xs, hS, World.ownsRow.mono ho hz, fun y hy => World.ownsRow.mono (hg y hy) hz, HC.out.2.trans hF4 fun _ h => h.elim⟩
  · have hm2 : mayB s l f = false := by simpa using hm
    have HP : Hid (∀ e w', (e = .returned (.tuple #[.slice none 0 0, .int .i64 2]) ∧ Frm (fun _ => False) w w') → OfRes s l f t w e w') := Lib.hid fun e w' h => by unfold OfRes; rw [if_neg hm]; exact h
    have Hm2 := Lib.hid hm2
    clear hm hm2 hsl hmt ht
    go_enter Try.func11, Try.ntmps11
    go_wp2_with fail
    generalize w.alloc (.cells #[.int .i64 s, .int .i64 l, .int .i64 f] 56) = w1 at *
    obtain ⟨g, hg⟩ : ∃ g, g = w.heap.size := ⟨_, rfl⟩
    rw [← hg] at hb1
    rw [← hg]
    obtain ⟨c0, c1, c2⟩ : w1.cell? ⟨g, 0, none⟩ = some (.int .i64 s) ∧ w1.cell? ⟨g, 1, none⟩ = some (.int .i64 l) ∧ w1.cell? ⟨g, 2, none⟩ = some (.int .i64 f) := ⟨hb1.cell 0, hb1.cell 1, hb1.cell 2⟩
    have H1 := Lib.hid (And.intro hF1 hg)
    clear hF1 hb1 hg
    go_wp2_with fail
    refine (right_any _ _ _ _).mono ?_
    rintro e w2 ⟨rfl, hF2⟩
    rw [Hm2.out]
    go_wp2_with fail
    go_ret2
    exact HP.out _ _ ⟨rfl, H1.out.1.trans hF2 fun _ h => h.elim⟩
end Go.Proofs.Ytecpbnkkgdppoaa
