/- teaselref19.Of. -/
import Derived.Test.YtecpbnkkgdppoaaRg
import Derived.Test.YtecpbnkkgdppoaaBr
import Derived.Test.YtecpbnkkgdppoaaClo
namespace Go.Proofs.Ytecpbnkkgdppoaa
open Go.RowKit
theorem BR.push {w w' : World} {nb N c' : Nat} {X : Nat → Prop} {v : Value} {ys : List Bk} {y : Bk} {A' : Option Addr} (h1 : BR w nb X v ys) (hy : kGood nb y w ∧ ∀ q, y.v.ownBlock = some q → ¬ X q) (hl : N = ys.length + 1)
    (hown : w'.ownsRow nb 40 4 (.slice A' N c') N (WB.cellsOf ys ++ bCells y)) (hF : Frm (fun q => v.ownBlock = some q) w w') (hat : (Value.slice A' N c').ownBlock = v.ownBlock ∨ ∀ q, (Value.slice A' N c').ownBlock = some q → w.heap.size ≤ q) (hX : ∀ q, X q → q < w.heap.size) :
    BR w' nb X (.slice A' N c') (ys ++ [y]) := by
  have hl : N = (ys ++ [y]).length := by rw [List.length_append]; exact hl
  refine ⟨?_, fun z hz => ?_, fun q hq hx => ?_⟩
  · have e : WB.cellsOf (ys ++ [y]) = WB.cellsOf ys ++ bCells y := by simp [WB.cellsOf]
    rw [e, ← hl]
    exact hown
  · rcases List.mem_append.1 hz with hz | hz
    · exact ⟨hF.own (h1.2.1 z hz).1 fun q hq hk => own_apart (h1.2.1 z hz).1 h1.1 (by decide) hk hq, (h1.2.1 z hz).2⟩
    · obtain rfl := List.mem_singleton.1 hz
      exact ⟨hF.own hy.1 fun q hq hk => own_apart hy.1 h1.1 (by decide) hk hq, hy.2⟩
  · rcases hat with e | e
    · exact h1.2.2 q (e ▸ hq) hx
    · have := e q hq
      have := hX _ hx
      omega
theorem bcells_blk (S L F n : Nat) (t : List UInt8) (v : Value) (Z : Nat) (hZ : Z = F + n * S) : bCells ⟨v, blkN S L F t n⟩ = [.int .i64 n, .int .i64 Z, .int .i64 (warmN S L n), v] := by
  rw [hZ]
  show [Value.int .i64 (n : Int), .int .i64 ((F : Int) + (n : Int) * (S : Int)), .int .i64 (warmN S L n : Nat), v] = _
  rw [Int.natCast_add, Int.natCast_mul]
theorem infoBk : (Try.prog.info? 40).map (fun i => (i.zero, i.size, i.bytes)) = some (some (.agg #[.int .i64 0, .int .i64 0, .int .i64 0, .slice none 0 0]), 4, 48) := by kernel_rfl
/-- A block pushed on a slice of blocks. -/
theorem br_push {w : World} {ops : Array Oper} {rest : List Oper} {o : Oper} {a : Act} {Q : Exit → Act → World → Prop} (hgd : o.guard = none) (s x : Operand)
    (ho : o.op = .call { callee := .builtin .append, args := #[s, x], argTypes := #[24, 24] }) (nb : Nat) (X : Nat → Prop) (v : Value) (ys : List Bk) (y : Bk) (x0 x1 x2 x3 : Value)
    (hs : a.eval s = v) (hx : a.eval x = .slice (some ⟨w.heap.size, 0, none⟩) 1 1) (hc : bCells y = [x0, x1, x2, x3]) (h1 : BR w nb X v ys) (hy : kGood nb y w ∧ ∀ q, y.v.ownBlock = some q → ¬ X q)
    (hl : ys.length ≤ 1000000) (hX : ∀ q, X q → q < w.heap.size) (hb : nb ≤ w.heap.size)
    (h : ∀ A' N c' w', Hid (N = ys.length + 1 ∧ BR w' nb X (.slice A' N c') (ys ++ [y]) ∧ Frm (fun q => v.ownBlock = some q) w w') → wpList Try.prog ops Q rest (a.put o.dst (.slice A' N c')) w') : wpList Try.prog ops Q (o :: rest) a (w.alloc (.cells #[x0, x1, x2, x3] 40)) := by
  obtain ⟨i0, hi, hz0, hz1, hz2⟩ := info_parts infoBk
  have hFa : Frm (fun _ => False) w (w.alloc (.cells #[x0, x1, x2, x3] 40)) := (Frm.refl _ w).alloc _
  have hone : ∀ u ∈ [x0, x1, x2, x3], u.oneCell' = true := by
    rw [← hc]
    intro u hu
    obtain ⟨A, c, hv, -, -⟩ := own_form hy.1
    simp only [bCells, List.mem_cons, List.not_mem_nil, or_false] at hu
    rcases hu with rfl | rfl | rfl | rfl
    · rfl
    · rfl
    · rfl
    · rw [hv]; rfl
  refine wpList_append_slz hgd s x 24 ho nb 40 i0 _ 4 48 Try.underlying24 hi hz0 hz1 hz2 (by rfl) (by decide) v ys.length (WB.cellsOf ys) hs (hFa.own h1.1 fun _ _ => id) (fun q => q = w.heap.size) _ 1 [x0, x1, x2, x3] hx (SlZ.blk4 w _ _ _ _ _) rfl hone (by unfold maxLen; omega) (by omega) (by simp; omega) ?_
  intro A' N c' w' HN hN1 hc' hown hg hat
  have hF1 : Frm (fun q => v.ownBlock = some q) w w' := (hFa.mono (K' := fun q => v.ownBlock = some q) fun _ h => h.elim).grown hg fun q hq => .inl hq
  refine h A' N c' w' (Lib.hid ⟨HN.out, h1.push hy HN.out (by rw [hc]; exact hown) hF1 (hat.imp id fun e q hq => ?_) hX, hF1⟩)
  rw [e] at hq
  cases hq
  simp
/-- The same, in a region that draws. -/
theorem br_push_step {w : World} {ops : Array Oper} {o : Oper} {a : Act} {C : Act → World → Prop} {Q : Exit → Act → World → Prop} {E : Prop} (hgd : Region.wanted o (yielded ops a.tmps) = true) (s x : Operand)
    (ho : o.op = .call { callee := .builtin .append, args := #[s, x], argTypes := #[24, 24] }) (nb : Nat) (X : Nat → Prop) (v : Value) (ys : List Bk) (y : Bk) (x0 x1 x2 x3 : Value)
    (hs : a.eval s = v) (hx : a.eval x = .slice (some ⟨w.heap.size, 0, none⟩) 1 1) (hc : bCells y = [x0, x1, x2, x3]) (h1 : BR w nb X v ys) (hy : kGood nb y w ∧ ∀ q, y.v.ownBlock = some q → ¬ X q)
    (hl : ys.length ≤ 1000000) (hX : ∀ q, X q → q < w.heap.size) (hb : nb ≤ w.heap.size)
    (h : ∀ A' N c' w', Hid (N = ys.length + 1 ∧ BR w' nb X (.slice A' N c') (ys ++ [y]) ∧ Frm (fun q => v.ownBlock = some q) w w') → C (a.put o.dst (.slice A' N c')) w') : if Region.wanted o (yielded ops a.tmps) = true then Oper.wp Try.prog o a (w.alloc (.cells #[x0, x1, x2, x3] 40)) C Q else E := by
  obtain ⟨i0, hi, hz0, hz1, hz2⟩ := info_parts infoBk
  have hFa : Frm (fun _ => False) w (w.alloc (.cells #[x0, x1, x2, x3] 40)) := (Frm.refl _ w).alloc _
  have hone : ∀ u ∈ [x0, x1, x2, x3], u.oneCell' = true := by
    rw [← hc]
    intro u hu
    obtain ⟨A, c, hv, -, -⟩ := own_form hy.1
    simp only [bCells, List.mem_cons, List.not_mem_nil, or_false] at hu
    rcases hu with rfl | rfl | rfl | rfl
    · rfl
    · rfl
    · rfl
    · rw [hv]; rfl
  refine step_append_slz hgd s x 24 ho nb 40 i0 _ 4 48 Try.underlying24 hi hz0 hz1 hz2 (by rfl) (by decide) v ys.length (WB.cellsOf ys) hs (hFa.own h1.1 fun _ _ => id) (fun q => q = w.heap.size) _ 1 [x0, x1, x2, x3] hx (SlZ.blk4 w _ _ _ _ _) rfl hone (by unfold maxLen; omega) (by omega) (by simp; omega) ?_
  intro A' N c' w' HN hN1 hc' hown hg hat
  have hF1 : Frm (fun q => v.ownBlock = some q) w w' := (hFa.mono (K' := fun q => v.ownBlock = some q) fun _ h => h.elim).grown hg fun q hq => .inl hq
  refine h A' N c' w' (Lib.hid ⟨HN.out, h1.push hy HN.out (by rw [hc]; exact hown) hF1 (hat.imp id fun e q hq => ?_) hX, hF1⟩)
  rw [e] at hq
  cases hq
  simp
theorem num_step (S m k : Nat) (hS : 1 ≤ S) : k * S < m ∨ ¬ k * S < m := by omega
set_option maxRecDepth 100000 in
set_option maxHeartbeats 1600000 in
theorem rof_any (s l f : Int) (t : List UInt8) (A : Option Addr) (m c : Nat) (w : World) (hsl : Sl w (fun q => q < w.heap.size) (.slice A m c) (bv t)) (ht : t.length ≤ 1000000) :
    Calls Try.prog 12 #[.int .i64 s, .int .i64 l, .int .i64 f, .slice A m c] w (OfRes s l f t w) := by
  have hmt : m = t.length := by obtain ⟨A', m', c', e, e1, -⟩ := hsl; cases e; simpa using e1
  have Hm := Lib.hid (fun w => may_any s l f w)
  cases hm : mayB s l f with
  | false =>
    rw [hm] at Hm
    have HP : Hid (∀ e w', e = .returned (.tuple #[.slice none 0 0, .int .i64 2]) ∧ Frm (fun _ => False) w w' → OfRes s l f t w e w') := Lib.hid fun e w' h => by unfold OfRes; rw [if_neg (by rw [hm]; simp)]; exact h
    clear hm hsl
    go_enter Try.func12, Try.ntmps12
    go_wp2_with fail
    refine (Hm.out w).mono ?_
    rintro e w' ⟨rfl, rfl⟩
    go_wp2_with fail
    go_ret2
    exact HP.out _ _ ⟨rfl, Frm.refl _ _⟩
  | true =>
    rw [hm] at Hm
    obtain ⟨S, L, F, rfl, rfl, rfl, hC⟩ := mayB_cut hm
    have HP : Hid (∀ e w', (∃ v, e = .returned (.tuple #[v, .int .i64 0]) ∧ OfPost w (blocksN S L F t) v w') → OfRes S L F t w e w') := Lib.hid fun e w' h => by unfold OfRes; rw [if_pos hm]; simpa using h
    have hm9 : m ≤ 1000000 := by omega
    have hFf := hC.f
    have hsb : IntKind.i64.wrap (4611686020574871551 - (m : Int)) = 4611686020574871551 - (m : Int) := IntWalk.i64_in _ (by omega)
    have hgt : decide (4611686020574871551 - (m : Int) < (F : Int)) = false := by simp; omega
    have H := Lib.hid (And.intro hsl (And.intro hC (And.intro hmt ht)))
    have hS2 := hC.s2
    clear hm hsl hC ht hmt
    go_enter Try.func12, Try.ntmps12
    go_wp2_with fail
    refine (Hm.out w).mono ?_
    rintro e w' ⟨rfl, rfl⟩
    go_wp2_with fail
    clear hsb hgt
    go_loopw [10, 11] (fun o i wr => ∃ k : Nat, k ≤ m ∧ k ≤ numN S t ∧ i = .int .i64 k ∧ Hid (∃ ys : List Bk, ys.map (·.c) = (List.range k).map (blkN S L F t) ∧ BR wr w.heap.size (fun _ => False) o ys ∧ Frm (fun _ => False) w wr)) (fun _ i _ => m - (intOf i).toNat)
    case atStart => exact ⟨0, Nat.zero_le _, Nat.zero_le _, rfl, Lib.hid ⟨[], rfl, BR.nil _ _ _, Frm.refl _ _⟩⟩
    case round =>
      obtain ⟨k, hk, hkn, rfl, hT⟩ := hrel
      have hmul : IntKind.i64.wrap ((k : Int) * (S : Int)) = ((k * S : Nat) : Int) := by rw [Int.natCast_mul]; exact IntWalk.i64_in _ (by have := Nat.mul_le_mul hk hS2; rw [← Int.natCast_mul]; omega)
      have hbd := num_bnd S t H.out.2.1.s1 k
      rw [← H.out.2.2.1] at hbd
      obtain ⟨P, hP⟩ : ∃ P, P = k * S := ⟨_, rfl⟩
      rw [← hP] at hmul hbd
      by_cases hlt : P < m
      · obtain ⟨ys, hys, hB, hF⟩ := hT.out
        have hone := one_any (fun q => q < w.heap.size) S L F k t A m c wr H.out.2.1 (by rw [← hP, ← H.out.2.2.1]; omega) (by omega) (H.out.1.kept fun q hq => hF.block q hq id) (by have := H.out.2.2.2; omega) (fun q hq => Nat.lt_of_lt_of_le hq hF.size)
        obtain ⟨Ao, co, rfl⟩ := hB.form
        have hyl : ys.length = k := by have := congrArg List.length hys; simpa using this
        have hkn2 : k < numN S t := hbd.2 hlt
        have hkm : k + 1 ≤ m := by
          have h1 : k * 1 ≤ k * S := Nat.mul_le_mul_left k H.out.2.1.s1
          omega
        rw [hyl] at hB ⊢
        unfold BlkPost at hone
        have hcb := bcells_blk S L F k t
        rw [← hP] at hcb hone
        have HA := Lib.hid (And.intro hys (And.intro hB (And.intro hF (And.intro hone (And.intro hyl hcb)))))
        generalize warmN S L k = Wm at *
        obtain ⟨Z, hZ⟩ : ∃ Z : Nat, Z = F + P := ⟨_, rfl⟩
        rw [← hZ] at HA
        have HZ := Lib.hid hZ
        clear hys hB hF hone hyl hcb hbd hT hP hZ
        go_wp2_with fail
        refine HA.out.2.2.2.1.mono ?_
        rintro e w1 ⟨v1, rfl, ho1, hF1⟩
        obtain ⟨A1, c1, rfl, -, -⟩ := own_form ho1
        have hB1 := HA.out.2.1.step (X' := fun _ => False) hF1 (fun _ h => h.elim) (fun _ h => h.elim)
        have H1 := Lib.hid (And.intro ho1 (And.intro hF1 hB1))
        clear ho1 hF1 hB1
        have hg1 : kGood w.heap.size ⟨.slice A1 (dataN S L t k).length c1, blkN S L F t k⟩ w1 := World.ownsRow.mono H1.out.1 HA.out.2.2.1.size
        have hcb := HA.out.2.2.2.2.2 (.slice A1 (dataN S L t k).length c1) Z rfl
        have HY := Lib.hid (And.intro hg1 (And.intro hcb (Nat.le_trans HA.out.2.2.1.size H1.out.2.1.size)))
        clear hg1 hcb
        generalize (dataN S L t k).length = D at *
        go_wp2_with (at_builtin; go_loud (refine br_push (by rfl) _ _ (by rfl) w.heap.size (fun _ => False) (.slice Ao k co) _ _ _ _ _ _ (by rfl) (by rfl) HY.out.2.1 H1.out.2.2 ⟨HY.out.1, fun _ _ => id⟩ (by have := HA.out.2.2.2.2.1; omega) (fun _ h => h.elim) HY.out.2.2 ?_); go_loud (intro A2 N2 c2 w2 hh))
        obtain ⟨hN, hB2, hF2⟩ := hh.out
        have hF : Frm (fun _ => False) w w2 := (HA.out.2.2.1.trans H1.out.2.1 fun _ h => h.elim).trans hF2 fun q hq => .inr (World.ownsRow.lt H1.out.2.2.1 q hq).1
        have HE := Lib.hid (And.intro hN (And.intro hB2 hF))
        clear hN hB2 hF2 hF hh
        go_roundw
        case rel => exact ⟨k + 1, hkm, hkn2, by go_num, Lib.hid ⟨_, by rw [List.map_append, HA.out.1, List.range_succ, List.map_append]; rfl, HE.out.2.1, HE.out.2.2⟩⟩
        case measure => simp [intOf]; omega
      · have hkn2 : Hid (k = numN S t) := Lib.hid (by omega)
        clear hbd
        have g0 : decide (P < m) = false := by simp; omega
        go_wp2_with fail
        go_ret2
        obtain ⟨ys, hys, hB, hF⟩ := hT.out
        exact HP.out _ _ ⟨_, rfl, ys, by rw [hys, hkn2.out]; rfl, hB.1, fun y hy => (hB.2.1 y hy).1, hF⟩
end Go.Proofs.Ytecpbnkkgdppoaa
