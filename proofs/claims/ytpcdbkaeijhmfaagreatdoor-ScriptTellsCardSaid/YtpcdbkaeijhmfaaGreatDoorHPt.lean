/- script: Print. -/
import Derived.RangeFuncCalls
import Derived.Deep.MidRow
import Derived.Test.YtpcdbkaeijhmfaaGreatDoorHCn
import Derived.Test.YtpcdbkaeijhmfaaGreatDoorHSl
import Derived.Test.YtpcdbkaeijhmfaaGreatDoorGF
namespace Go.Proofs.YtpcdbkaeijhmfaaGreatDoor
set_option maxRecDepth 100000
set_option linter.unusedVariables false
set_option linter.unusedSimpArgs false
open Go.RowKit
attribute [local go_sem] Oper.semAt_some
section
variable {F : Fence} {n : Nat} {P : Program} {ops : Array Oper} {Q : Exit → Act → World → Prop} {a : Act} {w : World} {rest : List Oper} {o : Oper}
theorem wpListIn_load_mid (hgd : o.guard = none) (ty : TypeId) (x : Operand) (ho : o.op = .load ty x) (g i : Nat) (hx : a.eval x = .pointer (some ⟨g, i, none⟩)) (cs : List Value) (d : TypeDesc) (hc : w.rangeAt g i cs)
    (hu : P.underlying ty = some d) (hd : d.isRow = true) (hi : (P.info? ty).map (·.size) = some cs.length)
    (h : wpListIn F n P ops Q rest (a.put o.dst (.agg cs.toArray)) w) : wpListIn F n P ops Q (o :: rest) a w := by
  refine wpListIn_of hgd (fun c hc => by rw [ho] at hc; cases hc) (by simp only [Oper.about, ho]) ?_
  unfold execOp
  simp only [ho, hx, run_loadAt_mid w g i ty cs d hc hu hd hi, Sem.run_bind, Sem.run_pure, Result.andThen_ok]
  exact h
theorem wpListIn_new (hg : o.guard = none) (hd : ∀ c, o.op ≠ .defer c) (hc : o.about P w a.eval = none) (d : Option Tmp) (hdst : o.dst = d) {v : Value} {w' : World} (hr : (execOp a.eval o).run P w = .ok (.value v) w') (h : wpListIn F n P ops Q rest (a.put d v) w') : wpListIn F n P ops Q (o :: rest) a w :=
  wpListIn_of hg hd hc (by rw [hr]; subst hdst; exact h)
end
theorem results_t {fn : Func} (h : fn.results = #[.tmp 2, .tmp 3]) (tmps : Array Value) (w : World) (v u : Value) (h2 : tmps.getD 2 undef = v) (h3 : tmps.getD 3 undef = u) : (results fn tmps).run Tryz.prog w = .ok (.tuple #[v, u]) w := by
  subst h2 h3
  simp [results, h]
theorem Blk.range {w : World} {g o : Nat} {t : TypeId} {cs : Array Value} (h : Blk w g t cs) {l : List Value} (hl : ∀ j v, l[j]? = some v → cs[o + j]? = some v) : w.rangeAt g o l := fun j v hv => by rw [h.cell]; exact hl j v hv
theorem Bd.grown {B b : Nat} {l : By} {X Y : World} {row : Option Nat} (h : Bd B b l X) (hg : X.grownBy Y row) (hr : ∀ r, row = some r → ∃ o : Obj, X.heap[r]? = some o ∧ o.isCells = false) : Bd B b l Y := by
  have key : ∀ p, Lib.BuilderAtF 66 5 B b p (Lib.byteCells l) X → Lib.BuilderAtF 66 5 B b p (Lib.byteCells l) Y := by
    rintro p ⟨hB, v, hb, hown, hne⟩
    have hbl : b < X.heap.size := lt_heap hb
    refine ⟨hB, v, (hg.block b hbl fun e => ?_).trans hb, hown.kept hg ?_, hne⟩
    · obtain ⟨o, h1, h2⟩ := hr b e.symm
      rw [hb] at h1; cases h1; cases h2
    · rcases hv : v.ownBlock with _ | k
      · exact .inl rfl
      · right
        intro e
        obtain ⟨o, h1, h2⟩ := hr k e.symm
        rcases hown.2 with ⟨rfl, -⟩ | ⟨g, cap, cur, fz, rfl, -, hgg, -⟩
        · cases hv
        · cases hv; rw [hgg] at h1; cases h1; cases h2
  exact h.elim (fun x => .inl (key _ x)) fun x => .inr (key _ x)
/-- While Print's loop goes: the text so far; the list stays. -/
structure PrI (w6 : World) (bb bq : Nat) (Kq : Nat → Prop) (pre : List By) (W : World) : Prop where
  bd : Bd bb bb (pre.flatMap (· ++ [10])) W
  fr : Frm (fun q => bb ≤ q ∧ q ≠ bq ∧ ¬ Kq q) w6 W
theorem PrI.own {w6 : World} {bb bq B : Nat} {Kq : Nat → Prop} (hB : w6.heap.size ≤ B) : OwnFrom B (PrI w6 bb bq Kq) := by
  intro pre X Y row h hg hr
  exact ⟨h.bd.grown hg fun r e => (hr r e).2, h.fr.trans (Frm.of_grown hg) fun q hq => .inr (by have := (hr q hq).1; omega)⟩
theorem PrI.list {w6 : World} {bb bq : Nat} {Kq : Nat → Prop} {pre : List By} {W : World} (h : PrI w6 bb bq Kq pre W) {q : Nat} (hq : q < w6.heap.size) (hk : q = bq ∨ Kq q) : W.heap[q]? = w6.heap[q]? :=
  h.fr.block q hq fun e => hk.elim e.2.1 e.2.2
/-- What a builder's call leaves, seen from the loop. -/
theorem PrI.step {w6 : World} {bb bq : Nat} {Kq : Nat → Prop} {pre : List By} {X Y : World} (h : PrI w6 bb bq Kq pre X) (hto : BdTo bb bb X Y) (hbq : ∃ cs, Blk w6 bq 46 cs) (hKq : ∀ q, Kq q → ∃ cs, Blk w6 q 9 cs) (hne : bq ≠ bb) (hnk : ∀ q, Kq q → q ≠ bb) :
    Frm (fun q => bb ≤ q ∧ q ≠ bq ∧ ¬ Kq q) X Y := by
  refine ⟨hto.1.os, hto.1.tape, hto.1.output, hto.1.size, fun q hq hn => ?_⟩
  by_cases h1 : bb ≤ q
  · by_cases h2 : q = bq
    · subst h2
      obtain ⟨cs, hb⟩ := hbq
      have hX := (h.list hb.lt (.inl rfl)).trans hb
      rw [hX]
      exact hto.2 q _ hX (fun e => hne (Option.some.inj e)) (fun c fz e => by injection e with _ e; exact absurd e (by decide))
    · by_cases h3 : Kq q
      · obtain ⟨cs, hb⟩ := hKq q h3
        have hX := (h.list hb.lt (.inr h3)).trans hb
        rw [hX]
        exact hto.2 q _ hX (fun e => hnk q h3 (Option.some.inj e)) (fun c fz e => by injection e with _ e; exact absurd e (by decide))
      · exact absurd ⟨h1, h2, h3⟩ hn
  · exact hto.1.block q (by omega)
theorem BdTo.keeps {B b C : Nat} {X Y : World} {l : By} (h : Bd B b l X) (hto : BdTo B b X Y) : KeepsFrom C X Y :=
  ⟨hto.1.size, fun k o _ hk ho => hto.2 k o hk (fun e => by
    have e := Option.some.inj e
    subst e
    rcases h with ⟨_, v, hb, _⟩ | ⟨_, v, hb, _⟩ <;> (rw [hb] at hk; cases hk; cases ho)) fun c fz e => by subst e; cases ho⟩
theorem joinB_len (first : By) (ns : List Int) (hr : ∀ x ∈ ns, near x) (hf : first.length ≤ 21) : (joinB first ns).length ≤ (ns.length + 1) * 22 := by
  have h := join_len 32 21 (first :: ns.map itoaB) fun x hx => by
    rcases List.mem_cons.1 hx with rfl | hx
    · exact hf
    · obtain ⟨z, hz, rfl⟩ := List.mem_map.1 hx
      have := hr z hz
      unfold near at this
      exact Lib.itoa_length_le z (by omega) (by omega)
  simpa [joinB] using h
theorem yes_len (l : List Bool) : (l.flatMap yesB).length ≤ 4 * l.length := by
  induction l with
  | nil => simp
  | cons a r ih =>
    rw [List.flatMap_cons, List.length_append, List.length_cons]
    have : (yesB a).length ≤ 4 := by cases a <;> decide
    omega
theorem quote_len (x : By) : (quoteB x).length ≤ 3 * x.length + 2 := by
  have h2 := quoteGo_len x
  rw [quoteB_eq, List.length_append, List.length_singleton]; omega
theorem lines_bound (st : St) (hok : Okay st) (hk : st.kind < 5) (hn : (∀ x ∈ st.conf, near x) ∧ (∀ x ∈ st.picks, near x) ∧ near st.last ∧ near st.cancel ∧ near st.most) : (linesP st).length ≤ 200010 ∧ ∀ x ∈ linesP st, x.length ≤ 3000000 := by
  obtain ⟨h1, h2, h3, h4, h5⟩ := hn
  constructor
  · have k1 := hok.words.1
    have k2 := hok.reads.1
    unfold linesP
    simp only [List.length_append, List.length_map, List.length_cons, List.length_nil]
    have e1 : (if st.fold then [bs "fold"] else []).length ≤ 1 := by split <;> simp
    have e2 : (if st.broken then [bs "broken"] else []).length ≤ 1 := by split <;> simp
    have e3 : (if st.answers = [] then [] else [answL st.answers]).length ≤ 1 := by split <;> simp
    have e4 : (if st.picks = [] then [] else [joinB (bs "pick") st.picks]).length ≤ 1 := by split <;> simp
    omega
  · intro x hx
    unfold linesP at hx
    simp only [List.mem_append, List.mem_map, List.mem_cons, List.not_mem_nil, or_false] at hx
    rcases hx with ((((((hx | ⟨b, hb, rfl⟩) | rfl) | ⟨b, hb, rfl⟩) | hx) | hx) | hx) | rfl | rfl | rfl
    · split at hx
      · rw [List.mem_singleton.1 hx]; decide
      · cases hx
    · have := hok.words.2 b hb
      have := quote_len b
      rw [wordL, List.length_append, show (bs "word ").length = 5 by decide]; omega
    · have := joinB_len (bs "conf") st.conf h1 (by decide)
      rw [hok.conf] at this; omega
    · have := hok.reads.2 b hb
      have := quote_len b
      rw [readL, List.length_append, show (bs "read ").length = 5 by decide]; omega
    · split at hx
      · rw [List.mem_singleton.1 hx]; decide
      · cases hx
    · split at hx
      · cases hx
      · rw [List.mem_singleton.1 hx, answL, List.length_append, show (bs "answers").length = 7 by decide]
        have := yes_len st.answers
        have := hok.answers
        omega
    · split at hx
      · cases hx
      · rw [List.mem_singleton.1 hx]
        have := joinB_len (bs "pick") st.picks h2 (by decide)
        have := hok.picks
        omega
    · have := joinB_len (bs "plan " ++ kindL.getD st.kind []) [st.seed, st.last] (by
        intro y hy
        rcases List.mem_cons.1 hy with rfl | hy
        · exact seed_near hok.seed
        · rw [List.mem_singleton.1 hy]; exact h3) (by have := kd_len _ hk; rw [List.length_append, show (bs "plan ").length = 5 by decide]; omega)
      exact Nat.le_trans this (by simp)
    · exact Nat.le_trans (joinB_len (bs "cancel") [st.cancel] (by intro y hy; rw [List.mem_singleton.1 hy]; exact h4) (by decide)) (by simp)
    · exact Nat.le_trans (joinB_len (bs "most") [st.most] (by intro y hy; rw [List.mem_singleton.1 hy]; exact h5) (by decide)) (by simp)
def PrintPost (st : St) (w : World) (e : Ending) (w' : World) : Prop :=
  Frm (fun _ => False) w w' ∧ match printB st with
  | none => e = .returned (.tuple #[.string { data := #[] }, .int .i64 2])
  | some t => e = .returned (.tuple #[.string (ba t), .int .i64 0])
set_option maxRecDepth 100000 in
set_option maxHeartbeats 8000000 in
theorem print_any (st : St) (wv rv av pv : Value) (w : World) (hL : LsR w (InW w) st wv rv av pv) (hok : Okay st) (hg : Gl w) :
    Calls Tryz.prog 11 #[.agg (stCells st wv rv av pv)] w (PrintPost st w) := by
  have H := Lib.hid (And.intro hL (And.intro hok hg))
  obtain ⟨a0, a1, a2, a3, a4, a5, a6, hcf⟩ := list7 st.conf hok.conf
  have HS : Hid (stCells st wv rv av pv = #[.bool st.fold, wv, .int .i64 a0, .int .i64 a1, .int .i64 a2, .int .i64 a3, .int .i64 a4, .int .i64 a5, .int .i64 a6, .bool st.broken, rv, av, pv, .int .u8 st.kind, .int .u32 st.seed, .int .i64 st.last, .int .i64 st.cancel, .int .i64 st.most]) := Lib.hid (by unfold stCells; rw [hcf]; rfl)
  have Hcf := Lib.hid hcf
  obtain ⟨C, hC⟩ : ∃ C, C = stCells st wv rv av pv := ⟨_, rfl⟩
  rw [← hC]
  have HC := Lib.hid hC
  clear hL hok hg hcf hC
  refine (callsIn_wide (n := 8)).1 ?_
  refine callsIn_of_wp_marks Tryz.func11 rfl trivial ?_ rfl
  simp only [Tryz.ntmps11, List.size_toArray, List.length_cons, List.length_nil, Nat.reduceAdd, Nat.reduceSub, Array.replicate_succ, Array.replicate_zero, List.push_toArray, List.append_toArray, List.nil_append, List.cons_append]
  gi_upto_region 2 with fail
  obtain ⟨g, hgd⟩ : ∃ g, g = w.heap.size := ⟨_, rfl⟩
  have hB := Blk.new w 33 C
  have hF1 : Frm (fun _ => False) w (w.alloc (.cells C 33)) := (Frm.refl _ w).alloc _
  have hsz : (w.alloc (.cells C 33)).heap.size = g + 1 := by rw [World.size_alloc, hgd]
  rw [← hgd] at hB ⊢
  generalize w.alloc _ = w1 at *
  refine wpIn_region_lit ?_
  refine wpListIn_val rfl (fun c hc => by cases hc) rfl (some 9) rfl (v := .pointer (some ⟨g, 2, none⟩)) (by simp [go_sem, execOp]) ?_
  obtain ⟨D, hD⟩ : ∃ D : List Value, D = [.int .i64 a0, .int .i64 a1, .int .i64 a2, .int .i64 a3, .int .i64 a4, .int .i64 a5, .int .i64 a6, .bool st.broken, rv, av, pv, .int .u8 st.kind, .int .u32 st.seed, .int .i64 st.last, .int .i64 st.cancel, .int .i64 st.most] := ⟨_, rfl⟩
  have hr : w1.rangeAt g 2 D := hB.range fun j v hv => by
    rw [HC.out, HS.out]
    rw [hD] at hv
    rw [List.getElem?_toArray, Nat.add_comm]
    exact hv
  have hu := Tryz.underlying31
  refine wpListIn_load_mid rfl _ _ rfl g 2 rfl D _ hr hu rfl (by rw [hD]; kernel_rfl) ?_
  obtain ⟨Z, hZ⟩ : ∃ Z : Array Value, Z = #[.int .i64 0, .int .i64 0, .int .i64 0, .int .i64 0, .int .i64 0, .int .i64 0, .int .i64 0, .bool false, .slice none 0 0, .slice none 0 0, .slice none 0 0, .int .u8 0, .int .u32 0, .int .i64 0, .int .i64 0, .int .i64 0] := ⟨_, rfl⟩
  refine wpListIn_new rfl (fun c hc => by cases hc) rfl (some 5) rfl (v := .pointer (some ⟨w1.heap.size, 0, none⟩)) (w' := w1.alloc (.cells Z 31)) (by simp [go_sem, execOp, hZ]) ?_
  have hB2 := Blk.new w1 31 Z
  have hF2 : Frm (fun _ => False) w1 (w1.alloc (.cells Z 31)) := (Frm.refl _ w1).alloc _
  have hsz2 : (w1.alloc (.cells Z 31)).heap.size = g + 2 := by rw [World.size_alloc, hsz]
  obtain ⟨e, he⟩ : ∃ e, e = w1.heap.size := ⟨_, rfl⟩
  rw [← he] at hB2 ⊢
  generalize w1.alloc (.cells Z 31) = w2 at *
  have hone : D.toArray.all (·.oneCell') = true := by
    obtain ⟨hL, -, -⟩ := H.out
    obtain ⟨A1, n1, c1, e1, -⟩ := hL.picks
    obtain ⟨A2, n2, c2, e2, -⟩ := hL.answers
    obtain ⟨A3, c3, e3, -⟩ := hL.reads.form
    rw [hD, e1, e2, e3]
    simp only [List.all_toArray, List.all_cons, List.all_nil]
    rfl
  refine wpListIn_store_rowTo rfl 31 (.tmp 5) (.tmp 10) rfl rfl e D.toArray rfl rfl _ _ hB2 (by rw [hD]; kernel_rfl) (by rw [hD, hZ]; rfl) hone ?_
  have hF3 : Frm (fun _ => False) w1 (w2.setRow e D.toArray) := hF2.trans (K' := fun q => q = e) ((Frm.refl (fun q => q = e) w2).setRow (.inl rfl) _) fun q hq => .inr (by omega)
  have hB3 : Blk (w2.setRow e D.toArray) e 31 D.toArray := hB2.setRow _
  have hsz3 : (w2.setRow e D.toArray).heap.size = g + 2 := by simp [World.setRow, hsz2]
  generalize w2.setRow e D.toArray = w3 at *
  have hB1 := hB.kept hF3 id
  have d13 : w3.cell? ⟨e, 11, none⟩ = some (.int .u8 st.kind) := by rw [hB3.cell]; rw [hD]; rfl
  have d15 : w3.cell? ⟨e, 13, none⟩ = some (.int .i64 st.last) := by rw [hB3.cell]; rw [hD]; rfl
  have d16 : w3.cell? ⟨e, 14, none⟩ = some (.int .i64 st.cancel) := by rw [hB3.cell]; rw [hD]; rfl
  have d17 : w3.cell? ⟨e, 15, none⟩ = some (.int .i64 st.most) := by rw [hB3.cell]; rw [hD]; rfl
  have HB := Lib.hid (And.intro hB1 (And.intro hB3 (And.intro (hF1.trans' hF3) (And.intro hgd (And.intro (show e = g + 1 by omega) (And.intro hsz3 hD))))))
  clear hB hF1 hsz hB2 hF2 hsz2 hF3 hB3 hB1 hsz3 hgd he hone hr hu hZ hD
  simp only [Act.put, List.setIfInBounds_toArray, List.set_cons_succ, List.set_cons_zero]
  gi_upto_region 4 with fail
  obtain ⟨q, hq⟩ : ∃ q, q = w3.heap.size := ⟨_, rfl⟩
  have hF4 : Frm (fun _ => False) w3 (w3.alloc (.cells #[.int .i64 st.last, .int .i64 st.cancel, .int .i64 st.most] 3)) := (Frm.refl _ w3).alloc _
  have hSq : Sl (w3.alloc (.cells #[.int .i64 st.last, .int .i64 st.cancel, .int .i64 st.most] 3)) (fun k => k = q) (.slice (some ⟨q, 0, none⟩) 3 3) (ivs [st.last, st.cancel, st.most]) := by rw [hq]; exact Sl.blk w3 _ _ (by simp [ivs]) ⟨rfl, by decide⟩
  have hql : q < (w3.alloc (.cells #[.int .i64 st.last, .int .i64 st.cancel, .int .i64 st.most] 3)).heap.size := by rw [World.size_alloc]; omega
  rw [← hq]
  generalize w3.alloc (.cells #[.int .i64 st.last, .int .i64 st.cancel, .int .i64 st.most] 3) = w4 at *
  obtain ⟨A1, n1, c1, rfl, hp⟩ : ∃ A n c, pv = .slice A n c ∧ True := by obtain ⟨A1, n1, c1, e1, -⟩ := H.out.1.picks; exact ⟨A1, n1, c1, e1, trivial⟩
  obtain ⟨hB1, hB3, hF3, hgd, heg, hsz3, hD⟩ := HB.out
  have e13 := hF4.cell d13 id
  have hB4 := hB3.kept hF4 id
  have k0 : w4.cell? ⟨e, 0, none⟩ = some (.int .i64 a0) := by rw [hB4.cell, hD]; rfl
  have k1 : w4.cell? ⟨e, 1, none⟩ = some (.int .i64 a1) := by rw [hB4.cell, hD]; rfl
  have k2 : w4.cell? ⟨e, 2, none⟩ = some (.int .i64 a2) := by rw [hB4.cell, hD]; rfl
  have k3 : w4.cell? ⟨e, 3, none⟩ = some (.int .i64 a3) := by rw [hB4.cell, hD]; rfl
  have k4 : w4.cell? ⟨e, 4, none⟩ = some (.int .i64 a4) := by rw [hB4.cell, hD]; rfl
  have k5 : w4.cell? ⟨e, 5, none⟩ = some (.int .i64 a5) := by rw [hB4.cell, hD]; rfl
  have k6 : w4.cell? ⟨e, 6, none⟩ = some (.int .i64 a6) := by rw [hB4.cell, hD]; rfl
  have k10 : w4.cell? ⟨e, 10, none⟩ = some (.slice A1 n1 c1) := by rw [hB4.cell, hD]; rfl
  have hcc := conf_any a0 a1 a2 a3 a4 a5 a6 w4
  have H4 := Lib.hid (And.intro (hB1.kept hF4 id) (And.intro hB4 (And.intro (hF3.trans' hF4) (And.intro hSq hql))))
  clear hB1 hB3 hF3 hsz3 hD hB4 hF4 hSq hql hq d13 d15 d16 d17 hp hgd heg
  gi_cut [40] from 19 (fun t wc => t = .bool (badP st) ∧ Hid (Frm (fun _ => False) w4 wc))
  case first =>
    have hcv : ∀ (v : Value) (W : World), W.ownsRow w4.heap.size 3 1 v 7 (ivs [a0, a1, a2, a3, a4, a5, a6]) → Calls Tryz.prog 24 #[v, .func (.func 23) #[] #[]] W fun e w' => e = .returned (.bool (st.conf.any farB)) ∧ W = w' := fun v W h => by
      have := contF_any (fun _ => True) v [a0, a1, a2, a3, a4, a5, a6] W (Sl.of_own h fun _ _ _ => trivial) (by simp)
      rw [← Hcf.out] at this
      exact this
    have hcp : ∀ W, Frm (fun _ => False) w4 W → Calls Tryz.prog 24 #[.slice A1 n1 c1, .func (.func 23) #[] #[]] W fun e w' => e = .returned (.bool (st.picks.any farB)) ∧ W = w' := fun W hF =>
      contF_any (InW W) _ st.picks W (H.out.1.kept (H4.out.2.2.1.trans' hF)).picks (by have := H.out.2.1.picks; omega)
    have hcr : ∀ W, Frm (fun _ => False) w4 W → Calls Tryz.prog 24 #[.slice (some ⟨q, 0, none⟩) 3 3, .func (.func 23) #[] #[]] W fun e w' => e = .returned (.bool ([st.last, st.cancel, st.most].any farB)) ∧ W = w' := fun W hF =>
      contF_any _ _ _ W (H4.out.2.2.2.1.kept fun k hk => hF.block k (by rw [hk]; exact H4.out.2.2.2.2) id) (by simp)
    have Hcv := Lib.hid (And.intro hcv (And.intro hcp hcr))
    clear hcv hcp hcr
    cases hk : decide (5 ≤ st.kind) with
    | true =>
      have Hb := Lib.hid (show badP st = true by unfold badP; rw [hk]; rfl)
      have hkd : decide ((st.kind : Int) ≥ 5) = true := by have := of_decide_eq_true hk; exact decide_eq_true (by omega)
      clear hk
      gi_wp2_with fail
      refine ⟨trivial, ?_⟩
      gi_wp2_with fail
      refine ⟨trivial, ?_⟩
      gi_wp2_with fail
      refine ⟨trivial, ?_⟩
      gi_wp2_with fail
      refine ⟨trivial, ?_⟩
      gi_wp2_with fail
      gi_meet
      case rel => exact ⟨by rw [Hb.out], Lib.hid (Frm.refl _ _)⟩
    | false =>
      have hkd : decide ((st.kind : Int) ≥ 5) = false := by have := of_decide_eq_false hk; exact decide_eq_false (by omega)
      have Hb := Lib.hid (show badP st = (st.conf.any farB || st.picks.any farB || [st.last, st.cancel, st.most].any farB) by unfold badP; rw [hk, Bool.false_or])
      clear hk
      gi_wp2_with fail
      refine ⟨trivial, (callsIn_wide.2 hcc).mono ?_⟩
      rintro e5 w5 ⟨v5, rfl, ho5, hF5⟩
      have hc1 := Hcv.out.1 v5 w5 ho5
      have hc2 := Hcv.out.2.1 w5 hF5
      have hc3 := Hcv.out.2.2 w5 hF5
      have k10' := hF5.cell k10 id
      have H5 := Lib.hid hF5
      clear hcc ho5 hF5 k0 k1 k2 k3 k4 k5 k6 k10 e13
      cases hx : st.conf.any farB with
      | true =>
        rw [hx] at hc1
        have Hx := Lib.hid hx
        clear hx hc2 hc3
        gi_wp2_with fail
        refine ⟨trivial, (callsIn_wide.2 hc1).mono ?_⟩
        rintro e6 w6 ⟨rfl, rfl⟩
        clear hc1
        gi_wp2_with fail
        refine ⟨trivial, ?_⟩
        gi_wp2_with fail
        refine ⟨trivial, ?_⟩
        gi_wp2_with fail
        gi_meet
        case rel => exact ⟨by rw [Hb.out, Hx.out]; rfl, H5⟩
      | false =>
        rw [hx] at hc1
        have Hx := Lib.hid hx
        clear hx
        gi_wp2_with fail
        refine ⟨trivial, (callsIn_wide.2 hc1).mono ?_⟩
        rintro e6 w6 ⟨rfl, rfl⟩
        clear hc1
        gi_wp2_with fail
        cases hy : st.picks.any farB with
        | true =>
          rw [hy] at hc2
          have Hy := Lib.hid hy
          clear hy hc3
          refine ⟨trivial, (callsIn_wide.2 hc2).mono ?_⟩
          rintro e6 w6 ⟨rfl, rfl⟩
          clear hc2
          gi_wp2_with fail
          refine ⟨trivial, ?_⟩
          gi_wp2_with fail
          gi_meet
          case rel => exact ⟨by rw [Hb.out, Hx.out, Hy.out]; rfl, H5⟩
        | false =>
          rw [hy] at hc2
          have Hy := Lib.hid hy
          clear hy
          refine ⟨trivial, (callsIn_wide.2 hc2).mono ?_⟩
          rintro e6 w6 ⟨rfl, rfl⟩
          clear hc2
          gi_wp2_with fail
          obtain ⟨z, hz⟩ : ∃ z, z = [st.last, st.cancel, st.most].any farB := ⟨_, rfl⟩
          rw [← hz] at hc3
          have Hz := Lib.hid hz
          clear hz
          refine ⟨trivial, (callsIn_wide.2 hc3).mono ?_⟩
          rintro e6 w6 ⟨rfl, rfl⟩
          clear hc3
          gi_wp2_with fail
          gi_meet
          case rel => exact ⟨by rw [Hb.out, Hx.out, Hy.out, Hz.out]; rfl, H5⟩
  case rest =>
    obtain ⟨ht, hF5⟩ := hcut
    clear hcc k0 k1 k2 k3 k4 k5 k6 k10 e13
    cases hbad : badP st with
    | true =>
      rw [hbad] at ht
      subst ht
      have Hb := Lib.hid hbad
      clear hbad
      gi_wp2_with fail
      refine ⟨_, results_t rfl _ _ _ _ rfl rfl, H4.out.2.2.1.trans' hF5.out, ?_⟩
      rw [show printB st = none by unfold printB; rw [if_pos Hb.out]]
      rfl
    | false =>
      rw [hbad] at ht
      subst ht
      have hkd : st.kind < 5 := by
        rw [badP, Bool.or_eq_false_iff, Bool.or_eq_false_iff, Bool.or_eq_false_iff] at hbad
        have := of_decide_eq_false hbad.1.1.1
        omega
      have Hb := Lib.hid (And.intro hbad hkd)
      clear hbad hkd
      gi_upto_region 7 with fail
      obtain ⟨bb, hbb⟩ : ∃ bb, bb = wc.heap.size := ⟨_, rfl⟩
      have hbd := bd_new wc
      have hFb : Frm (fun _ => False) wc (wc.alloc (.cells #[.pointer none, .slice none 0 0] 66)) := (Frm.refl _ wc).alloc _
      have hszb : (wc.alloc (.cells #[.pointer none, .slice none 0 0] 66)).heap.size = bb + 1 := by rw [World.size_alloc, hbb]
      rw [← hbb] at hbd ⊢
      generalize wc.alloc _ = w5 at *
      have hB5 : Blk w5 g 33 C := (H4.out.1.kept hF5.out id).kept hFb id
      have hgz : g < w5.heap.size := hB5.lt
      refine wpIn_region_lit ?_
      refine wpListIn_load_row rfl 33 (.tmp 1) rfl g rfl _ C _ _ hB5 Tryz.underlying33 rfl (by rw [HC.out, HS.out]; exact st_info) ?_
      refine wpListIn_buildTo rfl 50 _ rfl (some 42) rfl C (by rw [HC.out, HS.out]; kernel_rfl) ?_
      refine wpListIn_new rfl (fun c hc => by cases hc) rfl (some 43) rfl (v := .pointer (some ⟨w5.heap.size, 0, none⟩)) (w' := w5.alloc (.cells C 50)) (by simp [go_sem, execOp]) ?_
      have hBs := Blk.new w5 50 C
      have hFs : Frm (fun _ => False) w5 (w5.alloc (.cells C 50)) := (Frm.refl _ w5).alloc _
      have hszs : (w5.alloc (.cells C 50)).heap.size = bb + 2 := by rw [World.size_alloc, hszb]
      rw [hszb] at hBs ⊢
      generalize w5.alloc _ = w6 at *
      have hF6 : Frm (fun _ => False) w w6 := (H4.out.2.2.1.trans' hF5.out).trans' (hFb.trans' hFs)
      have hnear : (∀ x ∈ st.conf, near x) ∧ (∀ x ∈ st.picks, near x) ∧ near st.last ∧ near st.cancel ∧ near st.most := by
        have hbad := Hb.out.1
        rw [badP, Bool.or_eq_false_iff, Bool.or_eq_false_iff, Bool.or_eq_false_iff] at hbad
        obtain ⟨⟨⟨-, h1⟩, h2⟩, h3⟩ := hbad
        have hfar : ∀ l : List Int, l.any farB = false → ∀ x ∈ l, near x := fun l hl x hx => by
          have := List.any_eq_false.1 hl x hx
          unfold farB at this
          unfold near
          simp at this
          omega
        exact ⟨hfar _ h1, hfar _ h2, hfar _ h3 _ (by simp), hfar _ h3 _ (by simp), hfar _ h3 _ (by simp)⟩
      have hlb := lines_bound st H.out.2.1 Hb.out.2 hnear
      have hsl : Calls Tryz.prog 26 #[.pointer (some ⟨bb + 1, 0, none⟩)] w6 (SLPost st w6) := by
        obtain ⟨hL, hok, hg⟩ := H.out
        exact slines_any (bb + 1) st wv rv av _ w6 (by rw [← HC.out]; exact hBs) (hL.kept hF6) hok Hb.out.2 hnear (hg.frm hF6)
      have hbd6 : Bd bb bb [] w6 := hbd.grown (row := none) ⟨hFs.os, hFs.tape, hFs.output, hFs.size, fun k hk _ => hFs.block k hk id⟩ (by simp)
      have H6 := Lib.hid (And.intro hbd6 (And.intro hF6 (And.intro hbb (And.intro hszs hlb))))
      clear hnear hlb hBs hFs hszs hF6 hbd6 hbd hFb hszb hB5 hgz hbb
      simp only [Act.put, List.setIfInBounds_toArray, List.set_cons_succ, List.set_cons_zero]
      gi_wp2_with fail
      refine ⟨trivial, (callsIn_wide.2 hsl).mono ?_⟩
      rintro e7 w7 ⟨bq, A7, c7, rfl, hBq, hrow, hbq, hF7⟩
      have H7 := Lib.hid (And.intro hBq (And.intro hrow (And.intro hbq hF7)))
      clear hBq hrow hbq hF7 hsl
      gi_wp2_with fail
      obtain ⟨Kq, hKq⟩ : ∃ Kq : Nat → Prop, Kq = fun k => (Value.slice A7 (linesP st).length c7).ownBlock = some k := ⟨_, rfl⟩
      have hgeo : w6.heap.size ≤ bq ∧ bq < w7.heap.size ∧ bq ≠ bb ∧ (∀ k, Kq k → w6.heap.size ≤ k ∧ k < w7.heap.size ∧ k ≠ bb) := by
        have h1 := H7.out.2.2.1
        have h2 := H6.out.2.2.2.1
        refine ⟨h1, H7.out.1.lt, by omega, fun k hk => ?_⟩
        rw [hKq] at hk
        have := H7.out.2.1.lt k hk
        omega
      have hsa : Sl w7 Kq (.slice A7 (linesP st).length c7) (svb (linesP st)) := by
        obtain ⟨A', n', c', e', h1, h2, h3, h4⟩ := Sl.of_own (K := fun _ => True) H7.out.2.1 fun _ _ _ => trivial
        cases e'
        refine ⟨_, _, _, rfl, h1, h2, h3, h4.imp id ?_⟩
        rintro ⟨g', o', hA, -, hc⟩
        exact ⟨g', o', hA, by rw [hKq, hA]; rfl, hc⟩
      have hbd7 : Bd bb bb [] w7 := H6.out.1.grown (row := none) ⟨H7.out.2.2.2.os, H7.out.2.2.2.tape, H7.out.2.2.2.output, H7.out.2.2.2.size, fun k hk _ => H7.out.2.2.2.block k hk id⟩ (by simp)
      have hseq := values_seq 7 bq (linesP st).length c7 (by omega) A7 (linesP st) Kq (fun x => x.length ≤ 3000000) H6.out.2.2.2.2.2 w7 (by have := H6.out.2.2.2.2.1; omega) H7.out.1 hsa (fun k hk => (hgeo.2.2.2 k hk).2.1)
      have hI0 : PrI w7 bb bq Kq [] w7 := ⟨hbd7, Frm.refl _ _⟩
      have hkq : ∀ k, Kq k → ∃ cs, Blk w7 k 9 cs := fun k hk => by rw [hKq] at hk; exact own_blk H7.out.2.1 k hk
      have Hgeo := Lib.hid (And.intro hgeo hkq)
      have hkb : ∀ (W : World) (o : Obj), Frm (fun q => ¬ (q = bq ∨ Kq q)) W (W.putObj (w7.heap.size + 1) o) := fun W o => (Frm.refl _ W).putObj (.inl (by
        rintro (h | h)
        · have := Hgeo.out.1.2.1; omega
        · have := Hgeo.out.1.2.2.2 _ h; omega)) o
      clear hgeo hsa hbd7 hkq hKq
      refine wpIn_range_w rfl (by omega) (gf := 76) (lb := #[.pointer (some ⟨bq, 0, none⟩)]) rfl trivial (enters_of Tryz.func76 (by kernel_rfl) rfl) hseq (Frm.refl _ _) (fun _ => rfl)
        (fun X Y hr => ⟨hr.size, fun k o _ hk _ => (hr.block k (lt_heap hk) id).trans hk⟩) (fun h k => h.trans' k) hkb
        (fun pre W => PrI w7 bb bq Kq pre W ∧ ∀ x ∈ pre, x.length ≤ 3000000) ?hI ?hIo ?hGo ⟨hI0, by simp⟩ (fun x a' _ => a' = { tmps := #[.agg C, .pointer (some ⟨g, 0, none⟩), .string { data := #[] }, .int .i64 0, .func (.func 23) #[] #[], .pointer (some ⟨e, 0, none⟩), .slice (some ⟨q, 0, none⟩) 3 3, .pointer (some ⟨bb, 0, none⟩), .string (ba x), .pointer (some ⟨g, 2, none⟩), .agg D.toArray, .pointer (some ⟨e, 11, none⟩), .pointer (some ⟨e, 13, none⟩), .int .i64 st.last, .pointer (some ⟨e, 14, none⟩), .int .i64 st.cancel, .pointer (some ⟨e, 15, none⟩), .int .i64 st.most, .slice (some ⟨q, 0, none⟩) 3 3, u19, u20, u21, u22, u23, u24, u25, u26, u27, u28, u29, u30, u31, u32, u33, u34, u35, u36, u37, u38, u39, .bool false, .agg C, .agg C, .pointer (some ⟨bb + 1, 0, none⟩), .func (.func 76) #[] #[.pointer (some ⟨bq, 0, none⟩)], .string (ba x), u46, u47, u48, u49, u50, u51], defers := [] }) ?hAx ?assign ?body ?done
      case hI => exact fun s X Y h hr => ⟨⟨h.1.bd.grown (row := none) ⟨hr.os, hr.tape, hr.output, hr.size, fun k hk _ => hr.block k hk id⟩ (by simp), h.1.fr.trans hr fun _ h => h.elim⟩, h.2⟩
      case hIo => exact fun s X Y row h hg hr => ⟨PrI.own (Nat.le_refl _) s X Y row h.1 hg hr, h.2⟩
      case hGo => exact fun x s X Y row h hg hr => h
      case hAx => exact fun x a' s X Y row h hg hr => h
      case assign =>
        intro l pre x W K hI hG hK
        have HI := Lib.hid (And.intro hI hG)
        clear hseq hI0 hI
        simp only [List.zip_toArray, List.zip_cons_cons, List.zip_nil_left, List.foldl_toArray, List.foldl_cons, List.foldl_nil, List.setIfInBounds_toArray, List.set_cons_succ, List.set_cons_zero]
        gi_wp2_with fail
        exact hK _ W ⟨Nat.le_refl _, fun _ _ _ h _ => h⟩ (Frm.refl _ _) HI.out.1 HI.out.2 rfl
      case body =>
        intro l pre x a' W hI hG hA hlen
        subst hA
        clear hseq hI0 hkb
        have hfl : ∀ p : List By, (∀ x ∈ p, x.length ≤ 3000000) → (p.flatMap (· ++ [10])).length ≤ p.length * 3000001 := by
          intro p
          induction p with
          | nil => intro _; simp
          | cons y r ih =>
            intro h
            have h1 := ih fun z hz => h z (by simp [hz])
            have h2 := h y (by simp)
            rw [List.flatMap_cons, List.length_append, List.length_append, List.length_singleton, List.length_cons, Nat.succ_mul]
            omega
        have hln : (pre.flatMap (· ++ [10])).length + 3000002 ≤ 140737488355328 := by
          have h1 := hfl pre hI.2
          have h2 : pre.length ≤ 200010 := Nat.le_trans (Nat.le_of_lt hlen) H6.out.2.2.2.2.1
          have h3 : pre.length * 3000001 ≤ 200010 * 3000001 := Nat.mul_le_mul_right _ h2
          omega
        have hbW : bb ≤ W.heap.size := by
          have h1 := hI.1.fr.size
          have h2 := H7.out.2.2.2.size
          have h3 := H6.out.2.2.2.1
          omega
        have hw := bd_string bb bb _ x W hI.1.bd (by omega) hbW
        have hw2 : ∀ W1, Bd bb bb (pre.flatMap (· ++ [10]) ++ x) W1 → bb ≤ W1.heap.size → Calls Tryz.prog 28 #[.pointer (some ⟨bb, 0, none⟩), .int .u8 10] W1 fun e w' => e = .returned .nilIface ∧ Bd bb bb (pre.flatMap (· ++ [10]) ++ x ++ [10]) w' ∧ BdTo bb bb W1 w' := fun W1 h1 h2 =>
          bd_byte bb bb _ 10 W1 h1 (by rw [List.length_append]; omega) h2
        have HI := Lib.hid (And.intro hI (And.intro hG (And.intro hw2 hbW)))
        clear hI hG hlen hfl hln hw2 hbW
        gi_wp2_with fail
        refine ⟨trivial, (CallsIn.inRound l (callsIn_wide.2 hw)).mono ?_⟩
        rintro e1 W1 ⟨rfl, hb1, ht1⟩
        have hw2 := HI.out.2.2.1 W1 hb1 (Nat.le_trans HI.out.2.2.2 ht1.1.size)
        have H1 := Lib.hid (And.intro hb1 ht1)
        clear hw hb1 ht1
        gi_wp2_with fail
        refine ⟨trivial, (CallsIn.inRound l (callsIn_wide.2 hw2)).mono ?_⟩
        rintro e2 W2 ⟨rfl, hb2, ht2⟩
        have H2 := Lib.hid (And.intro hb2 ht2)
        clear hw2 hb2 ht2
        gi_wp2_with fail
        obtain ⟨⟨hPI, hall⟩, hG, -, -⟩ := HI.out
        have hto : BdTo bb bb W W2 := ⟨H1.out.2.1.trans H2.out.2.1, H1.out.2.2.trans H2.out.2.2⟩
        have hst := hPI.step hto ⟨_, H7.out.1⟩ Hgeo.out.2 Hgeo.out.1.2.2.1 (fun k hk => (Hgeo.out.1.2.2.2 k hk).2.2)
        refine ⟨BdTo.keeps hPI.bd hto, hst.mono fun k hk => .inl fun h => ?_, ⟨?_, hPI.fr.trans hst fun k hk => .inl hk⟩, ?_⟩
        · exact h.elim hk.2.1 hk.2.2
        · have := H2.out.1
          rw [List.flatMap_append]
          simpa using this
        · intro y hy
          rcases List.mem_append.1 hy with hy | hy
          · exact hall y hy
          · rw [List.mem_singleton.1 hy]; exact hG
      case done =>
        intro D xs W hD hS hI hK
        subst hS
        clear hseq hI0 hkb
        have hbW : bb ≤ W.heap.size := by
          have h1 := hI.1.fr.size
          have h2 := H7.out.2.2.2.size
          have h3 := H6.out.2.2.2.1
          omega
        have hrd := bd_read bb bb _ W hI.1.bd hbW
        obtain ⟨t, ht⟩ : ∃ t, t = textP st := ⟨_, rfl⟩
        rw [show (linesP st).flatMap (· ++ [10]) = t by rw [ht]; rfl] at hrd
        have HI := Lib.hid (And.intro hI (And.intro hD (And.intro hK (And.intro ht hbW))))
        clear hI hD hK ht hbW
        gi_wp2_with fail
        refine ⟨trivial, (callsIn_wide.2 hrd).mono ?_⟩
        rintro e1 W1 ⟨rfl, hb1, ht1⟩
        have hgr := great_any t W1 (by
          have h1 := HI.out.1.2
          have h2 := H6.out.2.2.2.2.1
          have h3 : ∀ p : List By, (∀ x ∈ p, x.length ≤ 3000000) → (p.flatMap (· ++ [10])).length ≤ p.length * 3000001 := by
            intro p
            induction p with
            | nil => intro _; simp
            | cons y r ih =>
              intro h
              have h1 := ih fun z hz => h z (by simp [hz])
              have h2 := h y (by simp)
              rw [List.flatMap_cons, List.length_append, List.length_append, List.length_singleton, List.length_cons, Nat.succ_mul]
              omega
          have h4 := h3 _ h1
          have h5 : (linesP st).length * 3000001 ≤ 200010 * 3000001 := Nat.mul_le_mul_right _ h2
          rw [HI.out.2.2.2.1]
          unfold textP
          omega)
        have hrd2 := bd_read bb bb t W1 hb1 (Nat.le_trans HI.out.2.2.2.2 ht1.1.size)
        have HD := Lib.hid (show W1.heap[D]? = some (.deferred (some [])) from ht1.2 D _ HI.out.2.2.1 (fun e => by
          have e := Option.some.inj e
          subst e
          have hk := HI.out.2.2.1
          rcases HI.out.1.1.bd with ⟨_, v, hb, _⟩ | ⟨_, v, hb, _⟩ <;> (rw [hb] at hk; cases hk)) fun c fz e => by cases e)
        have hFr : Frm (fun _ => False) w W1 := by
          have h1 := H6.out.2.1.trans' H7.out.2.2.2
          have h2 := HI.out.1.1.fr
          have h3 := ht1.frm
          have h4 := H6.out.2.2.1
          have h5 := (H4.out.2.2.1.trans' hF5.out).size
          exact (h1.trans h2 fun k hk => .inr (by omega)).trans h3 fun k hk => .inr (by omega)
        have H1 := Lib.hid (And.intro hFr ht1)
        have Hne := Lib.hid hb1
        obtain ⟨S, hS⟩ : ∃ S, S = ba t := ⟨_, rfl⟩
        rw [← hS] at hgr hrd2 ⊢
        have HS2 := Lib.hid hS
        clear hrd hb1 ht1 hFr hS
        gi_wp2_with fail
        refine ⟨trivial, (callsIn_wide.2 hgr).mono ?_⟩
        rintro e2 W2 ⟨rfl, rfl⟩
        clear hgr
        cases hgb : greatB t with
        | true =>
          have Hgb := Lib.hid hgb
          clear hgb hrd2
          gi_wp2_with fail
          refine ⟨by simp, .inl ⟨_, _, rfl, run_takeDeferred HD.out, ?_⟩⟩
          refine ⟨_, results_t rfl _ _ _ _ rfl rfl, ?_, ?_⟩
          · exact H1.out.1.trans (K' := fun k => k = D) ((Frm.refl (fun k => k = D) W1).putObj (.inl rfl) _) fun k hk => .inr (by
              have h1 := H6.out.2.1.size
              have h2 := H7.out.2.2.2.size
              have h3 := HI.out.2.1
              omega)
          · rw [show printB st = none by unfold printB; rw [if_neg (by rw [Hb.out.1]; simp), if_pos (by rw [← HI.out.2.2.2.1]; exact Hgb.out)]]
            rfl
        | false =>
          have Hgb := Lib.hid hgb
          clear hgb
          gi_wp2_with fail
          refine ⟨trivial, (callsIn_wide.2 hrd2).mono ?_⟩
          rintro e3 W3 ⟨rfl, hb3, ht3⟩
          have H3 := Lib.hid ht3
          clear hrd2 hb3 ht3
          gi_wp2_with fail
          have hk3 : W3.heap[D]? = some (.deferred (some [])) := H3.out.2 D _ HD.out (fun e => by
            have e := Option.some.inj e
            subst e
            have hk := HD.out
            rcases Hne.out with ⟨_, v, hb, _⟩ | ⟨_, v, hb, _⟩ <;> (rw [hb] at hk; cases hk)) fun c fz e => by cases e
          refine ⟨by simp, .inl ⟨_, _, rfl, run_takeDeferred hk3, ?_⟩⟩
          refine ⟨_, results_t rfl _ _ _ _ rfl rfl, ?_, ?_⟩
          · have hwb : w.heap.size ≤ bb := by
              have h4 := H6.out.2.2.1
              have h5 := (H4.out.2.2.1.trans' hF5.out).size
              omega
            exact (H1.out.1.trans H3.out.frm fun k hk => .inr (by omega)).trans (K' := fun k => k = D) ((Frm.refl (fun k => k = D) W3).putObj (.inl rfl) _) fun k hk => .inr (by
              have h1 := H6.out.2.1.size
              have h2 := H7.out.2.2.2.size
              have h3 := HI.out.2.1
              omega)
          · rw [show printB st = some t by unfold printB; rw [if_neg (by rw [Hb.out.1]; simp), if_neg (by rw [← HI.out.2.2.2.1, Hgb.out]; simp), HI.out.2.2.2.1]]
            rw [HS2.out]
            rfl
end Go.Proofs.YtpcdbkaeijhmfaaGreatDoor
