/- The walk of teaselref23.Step. -/
import Derived.Test.YtnibllkcacalhaaGC
import Derived.Test.YtnibllkcacalhaaHRz
namespace Go.Proofs.Ytnibllkcacalhaa
set_option maxRecDepth 100000
open Go.RowKit
/-- Which blocks a put into a pipe writes. -/
def InOf (ps : List Pk) (j : Nat) (q : Nat) : Prop := ∃ v, (∃ h : j < ps.length, v = ps[j].v) ∧ v.ownBlock = some q
theorem PR.inOf {w : World} {nb : Nat} {v : Value} {ps : List Pk} {j : Nat} (h : PR w nb v ps) {q : Nat} (hq : InOf ps j q) : ∃ cs, Blk w q 44 cs := by
  obtain ⟨v', ⟨hj, rfl⟩, hk⟩ := hq
  exact own_blk (h.2.1 ps[j] (List.getElem_mem hj)) q hk
theorem inOf_blk {w : World} {nb : Nat} {v : Value} {ps : List Pk} {j b : Nat} {t : TypeId} {cs : Array Value} (h : PR w nb v ps) (hb : Blk w b t cs) (ht : t ≠ 44) : ¬ InOf ps j b := fun hq => by
  obtain ⟨cs', hb'⟩ := h.inOf hq
  exact hb.ne_ hb' ht rfl
theorem inOf_own {w : World} {nb : Nat} {v : Value} {ps : List Pk} {j : Nat} {base n sz : Nat} {t : TypeId} {u : Value} {xs : List Value} (h : PR w nb v ps) (ho : w.ownsRow base t sz u n xs) (ht : t ≠ 44) : ∀ q, u.ownBlock = some q → ¬ InOf ps j q := fun q hq hk => by
  obtain ⟨cs', hb'⟩ := h.inOf hk
  exact own_blk_ne ho hb' ht hq
theorem PR.pset {w w1 : World} {nb g j i n c1 : Nat} {ps : List Pk} {u : Value} {x : Pk} (h : PR w nb (.slice (some ⟨g, 0, none⟩) n c1) ps) (hF : Frm (InOf ps j) w w1) (hj : j < ps.length) (hi : i < 3) (hx : pCells x = (pCells ps[j]).set i u)
    (hsx : Sl w1 (fun q => nb ≤ q ∧ q < w1.heap.size ∧ q ≠ g) x.v (uv x.p.ins)) : PAt (w1.setCell ⟨g, j * 3 + i, none⟩ u) (fun q => nb ≤ q ∧ q < (w1.setCell ⟨g, j * 3 + i, none⟩ u).heap.size) (.slice (some ⟨g, 0, none⟩) n c1) (ps.set j x) := by
  have hgn : nb ≤ g ∧ g < w.heap.size := World.ownsRow.lt h.1 g rfl
  have hp1 := hF.own h.1 (inOf_own h h.1 (by decide))
  obtain ⟨cs1, hbg1⟩ := own_blk hp1 g rfl
  have hFs : Frm (fun q => q = g) w1 (w1.setCell ⟨g, j * 3 + i, none⟩ u) := (Frm.refl (fun q => q = g) w1).setCell ⟨g, j * 3 + i, none⟩ (.inl rfl) _
  obtain ⟨A0, c0, e0, -, -⟩ := own_form hp1
  cases e0
  have hsl : ∀ k (hk : k < ps.length), k ≠ j → Sl w1 (fun q => nb ≤ q ∧ q < w1.heap.size ∧ q ≠ g) ps[k].v (uv ps[k].p.ins) := fun k hk hkj => by
    have ho := h.2.1 ps[k] (List.getElem_mem hk)
    have ho1 := hF.own ho fun q hq ⟨v', ⟨hj', e⟩, hk'⟩ => by
      subst e
      rcases Nat.lt_or_gt_of_ne hkj with hlt | hgt
      · exact List.pairwise_iff_getElem.1 h.2.2 k j hk hj' hlt q hq hk'
      · exact List.pairwise_iff_getElem.1 h.2.2 j k hj' hk hgt q hk' hq
    exact (OSl.of_own (K := fun q => nb ≤ q ∧ q < w1.heap.size ∧ q ≠ g) ho1 fun q hq => ⟨(World.ownsRow.lt ho1 q hq).1, (World.ownsRow.lt ho1 q hq).2, fun e => own_blk_ne ho1 hbg1 (by decide) (by rw [hq, e])⟩).sl.mono fun q hq => hq.1
  have hgk : ∀ v l, Sl w1 (fun q => nb ≤ q ∧ q < w1.heap.size ∧ q ≠ g) v l → Sl (w1.setCell ⟨g, j * 3 + i, none⟩ u) (fun q => nb ≤ q ∧ q < (w1.setCell ⟨g, j * 3 + i, none⟩ u).heap.size) v l := fun v l hv => hv.keptTo fun q hq => ⟨hFs.block q hq.2.1 hq.2.2, hq.1, Nat.lt_of_lt_of_le hq.2.1 hFs.size⟩
  refine ⟨?_, fun y hy => ?_⟩
  · rw [flat_set pCells (fun _ => rfl) ps j i hj hi x u hx]
    exact SlZ.set (SlZ.of_own hp1 fun q hq => by cases hq; exact ⟨hgn.1, by have := hF.size; simp; omega⟩) hbg1 u
  · obtain ⟨k, hk, rfl⟩ := List.getElem_of_mem hy
    rw [List.length_set] at hk
    by_cases hkj : k = j
    · subst hkj
      rw [List.getElem_set_self]
      exact hgk _ _ hsx
    · rw [List.getElem_set_ne (fun e => hkj e.symm)]
      exact hgk _ _ (hsl k hk hkj)
theorem PR.ins {w w1 : World} {nb j g n1 c1 : Nat} {ps : List Pk} (h : PR w nb (.slice (some ⟨g, 0, none⟩) n1 c1) ps) (hj : j < ps.length) (hF : Frm (fun _ => False) w w1) : Sl w1 (fun q => nb ≤ q ∧ q < w1.heap.size ∧ q ≠ g) ps[j].v (uv ps[j].p.ins) := by
  obtain ⟨cs, hb⟩ := own_blk h.1 g rfl
  have ho := hF.own (h.2.1 ps[j] (List.getElem_mem hj)) fun _ _ => id
  have hb1 := hb.kept hF id
  exact (OSl.of_own (K := fun q => nb ≤ q ∧ q < w1.heap.size ∧ q ≠ g) ho fun q hq => ⟨(World.ownsRow.lt ho q hq).1, (World.ownsRow.lt ho q hq).2, fun e => own_blk_ne ho hb1 (by decide) (by rw [hq, e])⟩).sl.mono fun q hq => hq.1
theorem PR.pipe {w : World} {nb j n1 c1 : Nat} {ps : List Pk} {A1 : Option Addr} (h : PR w nb (.slice A1 n1 c1) ps) (hj : j < ps.length) : n1 = ps.length ∧ ∃ g cs, A1 = some ⟨g, 0, none⟩ ∧ Blk w g 52 cs ∧ nb ≤ g ∧
    w.cell? ⟨g, j * 3, none⟩ = some (.int .i64 ps[j].p.room) ∧ w.cell? ⟨g, j * 3 + 1, none⟩ = some ps[j].v ∧ w.cell? ⟨g, j * 3 + 2, none⟩ = some (.bool ps[j].p.closed) := by
  have h2 := h.1
  obtain ⟨A', c', e, -, -⟩ := own_form h2
  cases e
  have hl := flat3 pCells (fun _ => rfl) ps
  have hat := fun i (hi : i < 3) => flat3_at pCells (fun _ => rfl) ps j i hj hi
  have hc := fun i (hi : i < 3) => own_at h2 (j * 3 + i) (by omega)
  obtain ⟨g, rfl, d0⟩ := hc 0 (by omega)
  obtain ⟨g1, e1, d1⟩ := hc 1 (by omega)
  obtain ⟨g2, e2, d2⟩ := hc 2 (by omega)
  cases e1
  cases e2
  obtain ⟨cs, hb⟩ := own_blk h2 g rfl
  refine ⟨rfl, g, cs, rfl, hb, (World.ownsRow.lt h2 g rfl).1, ?_, ?_, ?_⟩
  · rw [← List.getElem?_eq_getElem, hat 0 (by omega)] at d0; exact d0
  · rw [← List.getElem?_eq_getElem, hat 1 (by omega)] at d1; exact d1
  · rw [← List.getElem?_eq_getElem, hat 2 (by omega)] at d2; exact d2
/-- The reference's step at work: the chore's box, its row, the pipes. -/
def RkAt (w : World) (b nb : Nat) (c : Ch) (ps : List Pk) (vr vp : Value) : Prop :=
  Blk w b 46 #[vr, .int .i64 c.at_, .int .u32 c.sum, .int .i64 c.wrong] ∧ w.ownsRow nb 49 3 vr c.row.length (c.row.flatMap eCells) ∧ PR w nb vp ps
def RkDone (w : World) (b nb : Nat) (c : Ch) (ps : List Pk) (vr vp : Value) : Prop :=
  Blk w b 46 #[vr, .int .i64 c.at_, .int .u32 c.sum, .int .i64 c.wrong] ∧ w.ownsRow nb 49 3 vr c.row.length (c.row.flatMap eCells) ∧ PAt w (fun q => nb ≤ q ∧ q < w.heap.size) vp ps
theorem RkAt.done {w : World} {b nb : Nat} {c : Ch} {ps : List Pk} {vr vp : Value} (h : RkAt w b nb c ps vr vp) : RkDone w b nb c ps vr vp := ⟨h.1, h.2.1, h.2.2.at⟩
theorem RkDone.drew {w : World} {b nb : Nat} {c : Ch} {ps : List Pk} {vr vp : Value} (h : RkDone w b nb c ps vr vp) : RkDone w.drew b nb c ps vr vp := h
theorem RkAt.keptF {X Y : World} {b nb : Nat} {c : Ch} {ps : List Pk} {vr vp : Value} (h : RkAt X b nb c ps vr vp) (hF : Frm (fun _ => False) X Y) : RkAt Y b nb c ps vr vp :=
  ⟨h.1.kept hF id, hF.own h.2.1 fun _ _ => id, h.2.2.keptF hF⟩
theorem rk_cells {w : World} {b nb : Nat} {c : Ch} {ps : List Pk} {vr vp : Value} (h : RkAt w b nb c ps vr vp) : w.cell? ⟨b, 0, none⟩ = some vr ∧ w.cell? ⟨b, 1, none⟩ = some (.int .i64 c.at_) ∧ w.cell? ⟨b, 2, none⟩ = some (.int .u32 c.sum) ∧ w.cell? ⟨b, 3, none⟩ = some (.int .i64 c.wrong) :=
  ⟨h.1.cell 0, h.1.cell 1, h.1.cell 2, h.1.cell 3⟩
theorem RkAt.set_ {w : World} {b nb i : Nat} {c c' : Ch} {ps : List Pk} {vr vp u : Value} (h : RkAt w b nb c ps vr vp) (he : (#[vr, .int .i64 c.at_, .int .u32 c.sum, .int .i64 c.wrong] : Array Value).setIfInBounds i u = #[vr, .int .i64 c'.at_, .int .u32 c'.sum, .int .i64 c'.wrong]) (hr : c'.row = c.row) : RkAt (w.setCell ⟨b, i, none⟩ u) b nb c' ps vr vp := by
  have hF : Frm (fun q => q = b) w (w.setCell ⟨b, i, none⟩ u) := (Frm.refl (fun q => q = b) w).setCell ⟨b, i, none⟩ (.inl rfl) _
  refine ⟨by rw [← he]; exact h.1.set_ i u, ?_, h.2.2.far h.1 (by decide) (by decide)⟩
  rw [hr]
  exact hF.own h.2.1 fun q hq hk => own_blk_ne h.2.1 h.1 (by decide) (by rw [hq, hk])
theorem RkAt.pset {w w1 : World} {b nb g j i n c1 : Nat} {c : Ch} {ps : List Pk} {vr u : Value} {x : Pk} (h : RkAt w b nb c ps vr (.slice (some ⟨g, 0, none⟩) n c1)) (hF : Frm (InOf ps j) w w1) (hj : j < ps.length) (hi : i < 3) (hx : pCells x = (pCells ps[j]).set i u)
    (hsx : Sl w1 (fun q => nb ≤ q ∧ q < w1.heap.size ∧ q ≠ g) x.v (uv x.p.ins)) : RkDone (w1.setCell ⟨g, j * 3 + i, none⟩ u) b nb c (ps.set j x) vr (.slice (some ⟨g, 0, none⟩) n c1) := by
  obtain ⟨cs, hb⟩ := own_blk h.2.2.1 g rfl
  have hb1 := h.1.kept hF (inOf_blk h.2.2 h.1 (by decide))
  have hr1 := hF.own h.2.1 (inOf_own h.2.2 h.2.1 (by decide))
  have hg1 := hb.kept hF (inOf_blk h.2.2 hb (by decide))
  have hFs : Frm (fun q => q = g) w1 (w1.setCell ⟨g, j * 3 + i, none⟩ u) := (Frm.refl (fun q => q = g) w1).setCell ⟨g, j * 3 + i, none⟩ (.inl rfl) _
  exact ⟨hb1.kept hFs (hb1.ne_ hg1 (by decide)), hFs.own hr1 fun q hq hk => own_blk_ne hr1 hg1 (by decide) (by rw [hq, hk]), h.2.2.pset hF hj hi hx hsx⟩
/-- The end of Step: what stands in the result's box. -/
theorem rdone_fin {w W W' : World} {b nb B : Nat} {c c' : Ch} {ps ps' : List Pk} {vr vp : Value} {rb : Bool} (hd : RkDone W b nb c' ps' vr vp) (hc : (c', ps'.map (·.p)) = stepN c (ps.map (·.p))) (hr : rb = readyB c (ps.map (·.p))) (hF : Frm (fun _ => False) w W) (hF' : Frm (fun q => q = B) W W') (hB : w.heap.size ≤ B ∧ B < nb) :
    StepPost c ps w (.returned (.tuple #[.agg #[vr, .int .i64 c'.at_, .int .u32 c'.sum, .int .i64 c'.wrong], vp, .bool rb])) W' := by
  obtain ⟨Ar, cr, rfl, -, -⟩ := own_form hd.2.1
  obtain ⟨Ap, np, cp, rfl, -⟩ := id hd.2.2.1
  refine ⟨Ar, _, cr, Ap, np, cp, ps', c', rb, rfl, ⟨hr, hc⟩, ?_, ?_, hF.trans hF' fun q hq => .inr (by omega)⟩
  · have h1 : RAt W (fun q => nb ≤ q ∧ q < W.heap.size) (.slice Ar c'.row.length cr) c'.row := SlZ.of_own hd.2.1 fun q hq => World.ownsRow.lt hd.2.1 q hq
    exact h1.keptTo fun q hq => ⟨hF'.block q hq.2 (by omega), by omega, Nat.lt_of_lt_of_le hq.2 hF'.size⟩
  · exact hd.2.2.keptTo fun q hq => ⟨hF'.block q hq.2 (by omega), by omega, Nat.lt_of_lt_of_le hq.2 hF'.size⟩
theorem rstep_ret {vr x y : Value} {a s r : Int} {tmps : Array Value} {w : World} {b : Nat} (h : Blk w b 46 #[vr, .int .i64 a, .int .u32 s, .int .i64 r]) (h4 : tmps.getD 4 undef = .pointer (some ⟨b, 0, none⟩)) (h5 : tmps.getD 5 undef = x) (h6 : tmps.getD 6 undef = y) :
    (results Try.f38 tmps).run Try.prog w = .ok (.tuple #[.agg #[vr, .int .i64 a, .int .u32 s, .int .i64 r], x, y]) w := by
  rw [results_c2 (u := 5) (v := 6) rfl tmps w b 46 _ (0, 0) _ h4 h Try.underlying46 rfl (by kernel_rfl), h5, h6]
end Go.Proofs.Ytnibllkcacalhaa
