/- The walk of (*chore.work).do. -/
import Derived.BigRegion
import Derived.Test.YtnibllkcacalhaaGB
namespace Go.Proofs.Ytnibllkcacalhaa
set_option maxRecDepth 100000
open Go.RowKit
theorem flat_set {α : Type} (f : α → List Value) (hf : ∀ x, (f x).length = 3) (ys : List α) (k j : Nat) (hk : k < ys.length) (hj : j < 3) (y : α) (u : Value) (hy : f y = (f ys[k]).set j u) : (ys.set k y).flatMap f = (ys.flatMap f).set (k * 3 + j) u := by
  induction ys generalizing k with
  | nil => simp at hk
  | cons z zs ih =>
    cases k with
    | zero => rw [List.set_cons_zero, List.flatMap_cons, List.flatMap_cons, Nat.zero_mul, Nat.zero_add, List.set_append_left _ _ (by rw [hf]; exact hj), hy]; rfl
    | succ k =>
      rw [List.set_cons_succ, List.flatMap_cons, List.flatMap_cons, List.set_append_right _ _ (by rw [hf]; omega), hf, ih k (by simpa using hk) (by simpa using hy), show (k + 1) * 3 + j - 3 = k * 3 + j from by omega]
theorem SlZ.set {w : World} {K : Nat → Prop} {sz : Nat} {g n c i : Nat} {xs : List Value} {e : TypeId} {cs : Array Value} (h : SlZ w K sz (.slice (some ⟨g, 0, none⟩) n c) xs) (hb : Blk w g e cs) (u : Value) : SlZ (w.setCell ⟨g, i, none⟩ u) K sz (.slice (some ⟨g, 0, none⟩) n c) (xs.set i u) := by
  obtain ⟨A, n', c', he, hl, hc, hm, hx⟩ := h
  cases he
  refine ⟨_, n, c, rfl, by rw [List.length_set]; exact hl, hc, hm, ?_⟩
  rcases hx with h0 | ⟨g', o, e', hK, hx⟩
  · exact .inl h0
  · cases e'
    refine .inr ⟨g, 0, rfl, hK, fun j hj => ?_⟩
    have hj' : j < xs.length := by simpa using hj
    have h1 := hx j hj'
    rw [hb.cell] at h1
    rw [(hb.set_ i u).cell]
    rw [Nat.zero_add] at h1 ⊢
    by_cases hij : i = j
    · subst hij
      have hic : i < cs.size := by
        rcases Nat.lt_or_ge i cs.size with h | h
        · exact h
        · rw [Array.getElem?_eq_none h] at h1; cases h1
      rw [Array.getElem?_setIfInBounds_self_of_lt hic]
      simp
    · rw [Array.getElem?_setIfInBounds_ne hij, h1, List.getElem_set_ne hij]
/-- The work, done: all reads, in blocks from nb on. -/
def DoneAt (w : World) (b nb : Nat) (c : Ch) (ps : List Pk) (vr vp : Value) : Prop :=
  Blk w b 98 #[vr, .int .i64 c.at_, .int .u32 c.sum, .int .i64 c.wrong, vp] ∧ w.ownsRow nb 49 3 vr c.row.length (c.row.flatMap eCells) ∧ PAt w (fun q => nb ≤ q ∧ q < w.heap.size ∧ UF w q) vp ps
theorem DoneAt.drew {w : World} {b nb : Nat} {c : Ch} {ps : List Pk} {vr vp : Value} (h : DoneAt w b nb c ps vr vp) : DoneAt w.drew b nb c ps vr vp := h
def DoPost (b nb : Nat) (c : Ch) (ps : List Pi) (vr vp : Value) (w : World) (e : Ending) (w' : World) : Prop := (∃ v, e = .returned v) ∧ ∃ ps', DoneAt w' b nb c ps' vr vp ∧ ps'.map (·.p) = ps ∧ Frm (fun q => nb ≤ q) w w'
theorem wk_cells {w : World} {b nb : Nat} {c : Ch} {ps : List Pk} {vr vp : Value} (h : WkAt w b nb c ps vr vp) : w.cell? ⟨b, 0, none⟩ = some vr ∧ w.cell? ⟨b, 1, none⟩ = some (.int .i64 c.at_) ∧ w.cell? ⟨b, 2, none⟩ = some (.int .u32 c.sum) ∧ w.cell? ⟨b, 3, none⟩ = some (.int .i64 c.wrong) ∧ w.cell? ⟨b, 4, none⟩ = some vp :=
  ⟨h.1.cell 0, h.1.cell 1, h.1.cell 2, h.1.cell 3, h.1.cell 4⟩
/-- The first steps. -/
theorem er_at {w : World} {nb n c k : Nat} {A : Option Addr} {es : List Er} {x : Er} (h : w.ownsRow nb 49 3 (.slice A n c) es.length (es.flatMap eCells)) (hx : es[k]? = some x) : n = es.length ∧ k < n ∧ ∃ g, A = some ⟨g, 0, none⟩ ∧ w.cell? ⟨g, k * 3, none⟩ = some (.int .u8 x.d) ∧ w.cell? ⟨g, k * 3 + 1, none⟩ = some (.int .i64 x.q) ∧ w.cell? ⟨g, k * 3 + 2, none⟩ = some (.int .u32 x.n) := by
  obtain ⟨A', c', e, -, -⟩ := own_form h
  cases e
  obtain ⟨hk, rfl⟩ := List.getElem?_eq_some_iff.1 hx
  have hl := flat3 eCells (fun _ => rfl) es
  have hat := fun j (hj : j < 3) => flat3_at eCells (fun _ => rfl) es k j hk hj
  have hc := fun j (hj : j < 3) => own_at h (k * 3 + j) (by omega)
  obtain ⟨g, rfl, d0⟩ := hc 0 (by omega)
  obtain ⟨g1, e1, d1⟩ := hc 1 (by omega)
  obtain ⟨g2, e2, d2⟩ := hc 2 (by omega)
  cases e1
  cases e2
  refine ⟨rfl, hk, g, rfl, ?_, ?_, ?_⟩
  · rw [← List.getElem?_eq_getElem, hat 0 (by omega)] at d0; exact d0
  · rw [← List.getElem?_eq_getElem, hat 1 (by omega)] at d1; exact d1
  · rw [← List.getElem?_eq_getElem, hat 2 (by omega)] at d2; exact d2
theorem WkAt.set_ {w : World} {b nb i : Nat} {c c' : Ch} {ps : List Pk} {vr vp u : Value} (h : WkAt w b nb c ps vr vp) (he : (#[vr, .int .i64 c.at_, .int .u32 c.sum, .int .i64 c.wrong, vp] : Array Value).setIfInBounds i u = #[vr, .int .i64 c'.at_, .int .u32 c'.sum, .int .i64 c'.wrong, vp]) (hr : c'.row = c.row) : WkAt (w.setCell ⟨b, i, none⟩ u) b nb c' ps vr vp := by
  have hF : Frm (fun q => q = b) w (w.setCell ⟨b, i, none⟩ u) := (Frm.refl (fun q => q = b) w).setCell ⟨b, i, none⟩ (.inl rfl) _
  refine ⟨by rw [← he]; exact h.1.set_ i u, ?_, h.2.2.far h.1 (by decide) (by decide)⟩
  rw [hr]
  exact hF.own h.2.1 fun q hq hk => own_blk_ne h.2.1 h.1 (by decide) (by rw [hq, hk])
/-- A pipe of the work. -/
theorem WkAt.pipe {w : World} {b nb j n1 c1 : Nat} {c : Ch} {ps : List Pk} {vr : Value} {A1 : Option Addr} (h : WkAt w b nb c ps vr (.slice A1 n1 c1)) (hj : j < ps.length) : n1 = ps.length ∧ ∃ g cs, A1 = some ⟨g, 0, none⟩ ∧ Blk w g 52 cs ∧ nb ≤ g ∧
    w.cell? ⟨g, j * 3, none⟩ = some (.int .i64 ps[j].p.room) ∧ w.cell? ⟨g, j * 3 + 1, none⟩ = some ps[j].v ∧ w.cell? ⟨g, j * 3 + 2, none⟩ = some (.bool ps[j].p.closed) := by
  have h2 := h.2.2.1
  obtain ⟨A', c', e, -, -⟩ := own_form h2
  cases e
  have hl := flat3 pCells (fun _ => rfl) ps
  have hat := fun i (hi : i < 3) => flat3_at pCells (fun _ => rfl) ps j i hj hi
  have hc := fun i (hi : i < 3) => own_at h2 (j * 3 + i) (by omega)
  obtain ⟨g, rfl, d0⟩ := hc 0 (by omega)
  obtain ⟨g1, e1, d1⟩ := hc 1 (by omega)
  obtain ⟨g2, e2, d2⟩ := hc 2 (by omega)
  cases e1
  cases e2
  obtain ⟨cs, hb⟩ := own_blk h2 g rfl
  refine ⟨rfl, g, cs, rfl, hb, (World.ownsRow.lt h2 g rfl).1, ?_, ?_, ?_⟩
  · rw [← List.getElem?_eq_getElem, hat 0 (by omega)] at d0; exact d0
  · rw [← List.getElem?_eq_getElem, hat 1 (by omega)] at d1; exact d1
  · rw [← List.getElem?_eq_getElem, hat 2 (by omega)] at d2; exact d2
/-- One cell of a pipe of the work is changed, to what reads so. -/
theorem WkAt.pset {w w1 : World} {b nb g j i n c1 : Nat} {c : Ch} {ps : List Pk} {vr u : Value} {x : Pk} (h : WkAt w b nb c ps vr (.slice (some ⟨g, 0, none⟩) n c1)) (hF : Frm (fun q => ∃ v, (∃ h : j < ps.length, v = ps[j].v) ∧ v.ownBlock = some q) w w1) (hj : j < ps.length) (hi : i < 3) (hx : pCells x = (pCells ps[j]).set i u)
    (hsx : Sl w1 (fun q => nb ≤ q ∧ q < w1.heap.size ∧ q ≠ g ∧ UF w1 q) x.v (uv x.p.ins)) : DoneAt (w1.setCell ⟨g, j * 3 + i, none⟩ u) b nb c (ps.set j x) vr (.slice (some ⟨g, 0, none⟩) n c1) := by
  have hgn : nb ≤ g ∧ g < w.heap.size := World.ownsRow.lt h.2.2.1 g rfl
  obtain ⟨cs, hb⟩ := own_blk h.2.2.1 g rfl
  have hnj : ∀ {base n sz : Nat} {t : TypeId} {v : Value} {xs : List Value}, w.ownsRow base t sz v n xs → t ≠ 44 → ∀ q, v.ownBlock = some q → ¬ (∃ v, (∃ h : j < ps.length, v = ps[j].v) ∧ v.ownBlock = some q) := fun ho ht q hq ⟨v', ⟨hj', e⟩, hk⟩ => by
    subst e
    obtain ⟨cs', hb'⟩ := own_blk (h.2.2.2.1 ps[j] (List.getElem_mem hj')) q hk
    exact own_blk_ne ho hb' ht hq
  have hb1 : Blk w1 b 98 #[vr, .int .i64 c.at_, .int .u32 c.sum, .int .i64 c.wrong, .slice (some ⟨g, 0, none⟩) n c1] := h.1.kept hF fun ⟨v', ⟨hj', e⟩, hk⟩ => by
    subst e
    exact own_blk_ne (h.2.2.2.1 ps[j] (List.getElem_mem hj')) h.1 (by decide) hk
  have hr1 := hF.own h.2.1 (hnj h.2.1 (by decide))
  have hp1 := hF.own h.2.2.1 (hnj h.2.2.1 (by decide))
  obtain ⟨cs1, hbg1⟩ := own_blk hp1 g rfl
  have hFs : Frm (fun q => q = g) w1 (w1.setCell ⟨g, j * 3 + i, none⟩ u) := (Frm.refl (fun q => q = g) w1).setCell ⟨g, j * 3 + i, none⟩ (.inl rfl) _
  obtain ⟨A0, c0, e0, -, -⟩ := own_form hp1
  cases e0
  refine ⟨hb1.kept hFs (hb1.ne_ hbg1 (by decide)), hFs.own hr1 fun q hq hk => own_blk_ne hr1 hbg1 (by decide) (by rw [hq, hk]), ?_⟩
  have hsl : ∀ k (hk : k < ps.length), k ≠ j → Sl w1 (fun q => nb ≤ q ∧ q < w1.heap.size ∧ q ≠ g ∧ UF w1 q) ps[k].v (uv ps[k].p.ins) := fun k hk hkj => by
    have ho := h.2.2.2.1 ps[k] (List.getElem_mem hk)
    have ho1 := hF.own ho fun q hq ⟨v', ⟨hj', e⟩, hk'⟩ => by
      subst e
      rcases Nat.lt_or_gt_of_ne hkj with hlt | hgt
      · exact List.pairwise_iff_getElem.1 h.2.2.2.2 k j hk hj' hlt q hq hk'
      · exact List.pairwise_iff_getElem.1 h.2.2.2.2 j k hj' hk hgt q hk' hq
    exact (OSl.of_own (K := fun q => nb ≤ q ∧ q < w1.heap.size ∧ q ≠ g ∧ UF w1 q) ho1 fun q hq => ⟨(World.ownsRow.lt ho1 q hq).1, (World.ownsRow.lt ho1 q hq).2, fun e => own_blk_ne ho1 hbg1 (by decide) (by rw [hq, e]), (UF.own ho1 q hq).2.2⟩).sl.mono fun q hq => hq.1
  have hgk : ∀ v l, Sl w1 (fun q => nb ≤ q ∧ q < w1.heap.size ∧ q ≠ g ∧ UF w1 q) v l → Sl (w1.setCell ⟨g, j * 3 + i, none⟩ u) (fun q => nb ≤ q ∧ q < (w1.setCell ⟨g, j * 3 + i, none⟩ u).heap.size ∧ UF (w1.setCell ⟨g, j * 3 + i, none⟩ u) q) v l := fun v l hv => hv.keptTo fun q hq => ⟨hFs.block q hq.2.1 hq.2.2.1, hq.1, Nat.lt_of_lt_of_le hq.2.1 hFs.size, hq.2.2.2.of (hFs.block q hq.2.1 hq.2.2.1)⟩
  refine ⟨?_, fun y hy => ?_⟩
  · rw [flat_set pCells (fun _ => rfl) ps j i hj hi x u hx]
    exact SlZ.set (SlZ.of_own hp1 fun q hq => by cases hq; exact ⟨hgn.1, by have := hF.size; simp; omega, _, _, hbg1.set_ _ u⟩) hbg1 u
  · obtain ⟨k, hk, rfl⟩ := List.getElem_of_mem hy
    rw [List.length_set] at hk
    by_cases hkj : k = j
    · subst hkj
      rw [List.getElem_set_self]
      exact hgk _ _ hsx
    · rw [List.getElem_set_ne (fun e => hkj e.symm)]
      exact hgk _ _ (hsl k hk hkj)
theorem WkAt.done {w : World} {b nb : Nat} {c : Ch} {ps : List Pk} {vr vp : Value} (h : WkAt w b nb c ps vr vp) : DoneAt w b nb c ps vr vp := ⟨h.1, h.2.1, h.2.2.atU⟩
/-- What is in a pipe of the work, apart from the row of pipes. -/
theorem WkAt.ins {w w1 : World} {b nb j g n1 c1 : Nat} {c : Ch} {ps : List Pk} {vr : Value} (h : WkAt w b nb c ps vr (.slice (some ⟨g, 0, none⟩) n1 c1)) (hj : j < ps.length) (hF : Frm (fun _ => False) w w1) : Sl w1 (fun q => nb ≤ q ∧ q < w1.heap.size ∧ q ≠ g ∧ UF w1 q) ps[j].v (uv ps[j].p.ins) := by
  obtain ⟨cs, hb⟩ := own_blk h.2.2.1 g rfl
  have ho := hF.own (h.2.2.2.1 ps[j] (List.getElem_mem hj)) fun _ _ => id
  have hb1 := hb.kept hF id
  exact (OSl.of_own (K := fun q => nb ≤ q ∧ q < w1.heap.size ∧ q ≠ g ∧ UF w1 q) ho fun q hq => ⟨(World.ownsRow.lt ho q hq).1, (World.ownsRow.lt ho q hq).2, fun e => own_blk_ne ho hb1 (by decide) (by rw [hq, e]), (UF.own ho q hq).2.2⟩).sl.mono fun q hq => hq.1
theorem set_map (ps : List Pk) (j : Nat) (x : Pk) (f : Pi → Pi) (hj : j < ps.length) (hx : x.p = f ps[j].p) : (ps.set j x).map (·.p) = (ps.map (·.p)).modify j f := by
  rw [List.map_set, hx]
  apply List.ext_getElem?
  intro i
  rw [List.getElem?_set, List.getElem?_modify]
  by_cases hi : j = i
  · subst hi
    simp [hj]
  · simp [hi]
theorem u32w_mod (x : Int) : u32w x = x % 4294967296 := IntKind.wrap_u32 x
theorem u32w_add (x y : Int) : u32w (u32w x + y) = u32w (x + y) := by rw [u32w_mod, u32w_mod, u32w_mod]; omega
theorem u32w_add' (x y : Int) : u32w (x + u32w y) = u32w (x + y) := by rw [u32w_mod, u32w_mod, u32w_mod]; omega
theorem modify_same {α : Type} (l : List α) (j : Nat) (f : α → α) (h : ∀ p, l[j]? = some p → f p = p) : l.modify j f = l := by
  apply List.ext_getElem?
  intro i
  rw [List.getElem?_modify]
  by_cases hi : j = i
  · subst hi
    cases hp : l[j]? with
    | none => simp
    | some p => simp [h p hp]
  · simp [hi]
theorem pipesN_1 (j : Nat) (z : Int) (c : Ch) (l : List Pi) : pipesN ⟨1, j, z⟩ c l = l.modify j (putP (c.sum + z)) := by
  unfold pipesN
  rw [if_neg (by simp)]
  show l.modify (j : Int).toNat _ = _
  rw [Int.toNat_natCast]
  congr 1
theorem pipesN_2 (j : Nat) (z : Int) (c : Ch) (l : List Pi) : pipesN ⟨2, j, z⟩ c l = l.modify j getP := by
  unfold pipesN
  rw [if_neg (by simp)]
  show l.modify (j : Int).toNat _ = _
  rw [Int.toNat_natCast]
  congr 1
theorem pipesN_4 (j : Nat) (z : Int) (c : Ch) (l : List Pi) : pipesN ⟨4, j, z⟩ c l = l.modify j (fun p => { p with closed := true }) := by
  unfold pipesN
  rw [if_neg (by simp)]
  show l.modify (j : Int).toNat _ = _
  rw [Int.toNat_natCast]
  congr 1
theorem sizeU32 (w : World) : (sizeOf 44).run Try.prog w = .ok 1 w := by kernel_rfl
theorem Frm.up {K : Nat → Prop} {w w' : World} (h : Frm (fun _ => False) w w') : Frm K w w' := h.mono fun _ h => h.elim
theorem uv_snoc (l : List Int) (x : Int) : uv (l ++ [x]) = uv l ++ [.int .u32 x] := by simp [uv]
theorem put_fin {w W2 W8 : World} {b nb j gp c1 N8 c8 m2 k2 : Nat} {A8 a2 : Option Addr} {c : Ch} {ps : List Pk} {vr : Value} {t : Int} (h : WkAt W2 b nb c ps vr (.slice (some ⟨gp, 0, none⟩) ps.length c1)) (hF2 : Frm (fun q => nb ≤ q) w W2) (hj : j < ps.length) (hv : ps[j].v = .slice a2 m2 k2)
    (hown8 : W8.ownsRow nb 44 1 (.slice A8 N8 c8) N8 (uv ps[j].p.ins ++ [.int .u32 t])) (hF8 : Frm (fun q => (Value.slice a2 m2 k2).ownBlock = some q) W2 W8) :
    ∃ ps', DoneAt (W8.setCell ⟨gp, j * 3 + 1, none⟩ (.slice A8 N8 c8)) b nb c ps' vr (.slice (some ⟨gp, 0, none⟩) ps.length c1) ∧ ps'.map (·.p) = (ps.map (·.p)).modify j (fun p => { p with ins := p.ins ++ [t] }) ∧ Frm (fun q => nb ≤ q) w (W8.setCell ⟨gp, j * 3 + 1, none⟩ (.slice A8 N8 c8)) := by
  have hgp : nb ≤ gp := (World.ownsRow.lt h.2.2.1 gp rfl).1
  have hb8 : ∃ cs, Blk W8 gp 52 cs := by
    obtain ⟨cs, hb⟩ := own_blk h.2.2.1 gp rfl
    exact ⟨cs, hb.kept hF8 fun hk => own_blk_ne (h.2.2.2.1 ps[j] (List.getElem_mem hj)) hb (by decide) (by rw [hv]; exact hk)⟩
  obtain ⟨cs8, hb8⟩ := hb8
  refine ⟨ps.set j ⟨.slice A8 N8 c8, { ps[j].p with ins := ps[j].p.ins ++ [t] }⟩, ?_, set_map ps j _ _ hj rfl, ?_⟩
  · refine h.pset (hF8.mono fun q hq => .inl ⟨ps[j].v, ⟨hj, rfl⟩, by rw [hv]; exact hq⟩) hj (by omega) rfl ?_
    dsimp only
    rw [uv_snoc]
    exact (OSl.of_own (K := fun q => nb ≤ q ∧ q < W8.heap.size ∧ q ≠ gp ∧ UF W8 q) hown8 fun q hq => ⟨(World.ownsRow.lt hown8 q hq).1, (World.ownsRow.lt hown8 q hq).2, fun e => own_blk_ne hown8 hb8 (by decide) (by rw [hq, e]), (UF.own hown8 q hq).2.2⟩).sl.mono fun q hq => hq.1
  · refine (hF2.trans hF8 fun q hq => .inl ?_).trans ((Frm.refl (fun q => q = gp) W8).setCell ⟨gp, j * 3 + 1, none⟩ (.inl rfl) _) fun q hq => .inl (by rw [hq]; exact hgp)
    exact (World.ownsRow.lt (h.2.2.2.1 ps[j] (List.getElem_mem hj)) q (by rw [hv]; exact hq)).1
set_option maxRecDepth 100000 in
set_option maxHeartbeats 3200000 in
theorem do_any (b nb k : Nat) (s r : Int) (es : List Er) (ps : List Pk) (Ar : Option Addr) (nr cr : Nat) (A1 : Option Addr) (n1 c1 : Nat) (w : World) (x : Er) (h : WkAt w b nb ⟨es, k, s, r⟩ ps (.slice Ar nr cr) (.slice A1 n1 c1)) (hnb : nb ≤ b) (hx : es[k]? = some x)
    (hq : x.d = 1 ∨ x.d = 2 ∨ x.d = 4 → 0 ≤ x.q ∧ x.q < ps.length) (hk64 : k ≤ 64) (hr : 0 ≤ r ∧ r ≤ 64) (hin : ∀ p ∈ ps, p.p.ins.length ≤ 1000000) (hd : 1 ≤ x.d ∧ x.d ≤ 5) :
    Calls Try.prog 73 #[.pointer (some ⟨b, 0, none⟩)] w (DoPost b nb (choreN x ⟨es, k, s, r⟩ ((ps.map (·.p))[x.q.toNat]?)) (pipesN x ⟨es, k, s, r⟩ (ps.map (·.p))) (.slice Ar nr cr) (.slice A1 n1 c1) w) := by
  obtain ⟨c0, c1', c2, c3, c4⟩ := wk_cells h
  obtain ⟨hnr, hkn, g, rfl, d0, d1, d2⟩ := er_at h.2.1 hx
  obtain ⟨d, q, z⟩ := x
  dsimp only at *
  have H := Lib.hid (And.intro h (And.intro hnb (And.intro hq (And.intro hin (And.intro hd hnr)))))
  have hbl := h.1.lt
  obtain ⟨cx, hcx⟩ : ∃ cx, cx = choreN ⟨d, q, z⟩ ⟨es, k, s, r⟩ ((ps.map (·.p))[q.toNat]?) := ⟨_, rfl⟩
  obtain ⟨lx, hlx⟩ : ∃ lx, lx = pipesN ⟨d, q, z⟩ ⟨es, k, s, r⟩ (ps.map (·.p)) := ⟨_, rfl⟩
  rw [← hcx, ← hlx]
  have HX := Lib.hid (And.intro hcx hlx)
  clear h hnb hq hin hx hnr hd hcx hlx
  go_enter Try.func73, Try.ntmps73
  go_wp2_with fail
  have hFa : Frm (fun _ => False) w (w.alloc (.cells #[.int .u8 0, .int .i64 0, .int .u32 0] 49)) := (Frm.refl _ w).alloc _
  have x0 := hFa.cell c0 id
  have x1 := hFa.cell c1' id
  have x2 := hFa.cell d0 id
  have x3 := hFa.cell d1 id
  have x4 := hFa.cell d2 id
  clear hFa
  go_region
  obtain ⟨W1, hW1⟩ : ∃ W, W = (w.alloc (.cells #[.int .u8 d, .int .i64 q, .int .u32 z] 49)).drew := ⟨_, rfl⟩
  rw [← hW1]
  have hF1 : Frm (fun _ => False) w W1 := by rw [hW1]; exact ((Frm.refl _ w).alloc _).drew
  have hb1 : Blk W1 w.heap.size 49 #[.int .u8 d, .int .i64 q, .int .u32 z] := by rw [hW1]; exact (Blk.new w _ _).drew
  clear hW1 x0 x1 x2 x3 x4 d0 d1 d2 c0 c1' c2 c3 c4
  obtain ⟨G, hG⟩ : ∃ G, G = w.heap.size := ⟨_, rfl⟩
  rw [← hG] at hb1 ⊢
  have e0 : W1.cell? ⟨G, 0, none⟩ = some (.int .u8 d) := hb1.cell 0
  have e1 : W1.cell? ⟨G, 1, none⟩ = some (.int .i64 q) := hb1.cell 1
  have e2 : W1.cell? ⟨G, 2, none⟩ = some (.int .u32 z) := hb1.cell 2
  have hwk := H.out.1.keptF hF1
  obtain ⟨c0, c1', c2, c3, c4⟩ := wk_cells hwk
  dsimp only at c0 c1' c2 c3 c4
  have f1 := hwk.1.frozen 1
  have f2 := hwk.1.frozen 2
  have f3 := hwk.1.frozen 3
  have H1 := Lib.hid (And.intro hwk (And.intro hF1 (And.intro hb1 hG)))
  clear hwk hF1 hb1 hG hbl
  go_upto_region 2 with fail
  have hwk := H1.out.1.set_ (i := 1) (u := .int .i64 ((k : Int) + 1)) (c' := ⟨es, (k : Int) + 1, s, r⟩) rfl rfl
  have hFs : Frm (fun q => q = b) W1 (W1.setCell ⟨b, 1, none⟩ (.int .i64 ((k : Int) + 1))) := (Frm.refl (fun q => q = b) W1).setCell ⟨b, 1, none⟩ (.inl rfl) _
  have hb2 := H1.out.2.2.1.kept hFs (H1.out.2.2.1.ne_ H1.out.1.1 (by decide))
  have hF2 : Frm (fun q => nb ≤ q) w (W1.setCell ⟨b, 1, none⟩ (.int .i64 ((k : Int) + 1))) := H1.out.2.1.up.trans hFs fun q hq => .inl (by rw [hq]; exact H.out.2.1)
  clear hFs e0 e1 e2 c0 c1' c2 c3 c4 f1 f2 f3
  generalize W1.setCell ⟨b, 1, none⟩ (.int .i64 ((k : Int) + 1)) = W2 at *
  have e0 : W2.cell? ⟨G, 0, none⟩ = some (.int .u8 d) := hb2.cell 0
  have e1 : W2.cell? ⟨G, 1, none⟩ = some (.int .i64 q) := hb2.cell 1
  have e2 : W2.cell? ⟨G, 2, none⟩ = some (.int .u32 z) := hb2.cell 2
  obtain ⟨c0, c1', c2, c3, c4⟩ := wk_cells hwk
  dsimp only at c0 c1' c2 c3 c4
  have f1 := hwk.1.frozen 1
  have f2 := hwk.1.frozen 2
  have f3 := hwk.1.frozen 3
  have H2 := Lib.hid (And.intro hwk (And.intro hb2 hF2))
  clear hwk hF2 hb2
  rcases (by have := H.out.2.2.2.2.1; omega : d = 1 ∨ d = 2 ∨ d = 3 ∨ d = 4 ∨ d = 5) with rfl | rfl | rfl | rfl | rfl
  case inl =>
    obtain ⟨h5, h6⟩ := H.out.2.2.1 (by omega)
    obtain ⟨j, rfl⟩ : ∃ j : Nat, q = j := ⟨q.toNat, by omega⟩
    have hjx : j < ps.length := by omega
    obtain ⟨rfl, gp, cs, rfl, hbp, hgp, p0, p1, p2⟩ := H2.out.1.pipe hjx
    obtain ⟨a2, m2, k2, e5, hm2, -⟩ := id (H2.out.1.ins hjx (Frm.refl _ W2))
    rw [e5] at p1
    rw [uv_length] at hm2
    have hl := H.out.2.2.2.1 ps[j] (List.getElem_mem hjx)
    have hgj : (ps.map (·.p))[j]? = some ps[j].p := by rw [List.getElem?_map, List.getElem?_eq_getElem hjx]; rfl
    rw [Int.toNat_natCast, hgj, pipesN_1] at HX
    have hfz := hbp.frozen (j * 3 + 1)
    have HP := Lib.hid (And.intro hbp (And.intro hgp (And.intro e5 (And.intro hm2 (And.intro hl hgj)))))
    clear hbp hgp e5 hm2 hl hgj h5 h6
    cases hcl : ps[j].p.closed with
    | true =>
      rw [hcl] at p2
      have HC := Lib.hid hcl
      clear hcl
      go_wp2_with fail
      go_quiet (fail)
      rename_i nq
      go_wp2_with fail
      go_end0
      refine ⟨⟨_, rfl⟩, ps, (by rw [HX.out.1]; simp only [choreN, if_pos, Option.map_some, Option.getD_some, HC.out]; exact ((H2.out.1.keptF ((Frm.refl _ W2).drewN nq)).set_ (i := 3) (u := .int .i64 (r + 1)) (c' := ⟨es, (k : Int) + 1, s, r + 1⟩) rfl rfl).done), ?_, (H2.out.2.2.drewN nq).trans ((Frm.refl (fun q => q = b) _).setCell ⟨b, 3, none⟩ (.inl rfl) _) fun q hq => .inl (by rw [hq]; exact H.out.2.1)⟩
      rw [HX.out.2, modify_same]
      intro p hp
      rw [HP.out.2.2.2.2.2] at hp
      cases hp
      unfold putP
      rw [HC.out]
      rfl
    | false =>
      rw [hcl] at p2
      have HC := Lib.hid hcl
      clear hcl
      obtain ⟨iu, hu, hu0, hu1, hu2⟩ := infoCu'
      go_wp2_with fail
      go_quiet (fail)
      rename_i nq
      go_wp2_with fail
      have hF3 : Frm (fun _ => False) W2 (W2.drewN nq) := (Frm.refl _ W2).drewN nq
      generalize W2.drewN nq = W3 at *
      have hFa : Frm (fun _ => False) W2 (W3.drew.alloc (.cells #[.int .u32 (IntKind.u32.wrap (s + z))] 44)) := hF3.drew.alloc _
      have y0 : (W3.alloc (.cells #[.int .u32 (IntKind.u32.wrap (s + z))] 44)).cell? ⟨gp, j * 3 + 1, none⟩ = some (.slice a2 m2 k2) := (hF3.alloc _).cell p1 id
      have p1' := p1
      replace p1 := hF3.cell p1 id
      replace c2 := hF3.cell c2 id
      replace e2 := hF3.cell e2 id
      have hs3 := hF3.size
      have hown := hFa.own (H2.out.1.2.2.2.1 ps[j] (List.getElem_mem hjx)) fun _ _ => id
      rw [HP.out.2.2.1, ← HP.out.2.2.2.1] at hown
      have hb8 : nb ≤ (W3.drew.alloc (.cells #[.int .u32 (IntKind.u32.wrap (s + z))] 44)).heap.size := by
        have := HP.out.1.lt
        have := HP.out.2.1
        have := hFa.size
        omega
      have hm2 := HP.out.2.2.2.1
      have hml := HP.out.2.2.2.2.1
      have H3 := Lib.hid (And.intro hFa (And.intro hown (And.intro hb8 (And.intro (show m2 + 1 ≤ maxLen by unfold maxLen; omega) (show (m2 + 1) * 4 ≤ 140737488355328 by omega)))))
      clear hF3 hFa hown hs3 hb8 hm2 hml
      go_region_law
        (go_loud (
          refine step_append_sl (by rfl) (.tmp 54) (.tmp 63) 50 (by rfl) nb 44 iu (.int .u32 0) 4 Try.underlying50 hu hu0 hu1 hu2 (by rfl) (.slice a2 m2 k2) m2 (uv ps[j].p.ins) (by rfl) ?_ (fun q => q = W3.heap.size) (.slice (some ⟨W3.heap.size, 0, none⟩) 1 1) [.int .u32 (IntKind.u32.wrap (s + z))] (by rfl) ?_ ?_ ?_ ?_ ?_ ?_
          · exact H3.out.2.1
          · exact Sl.blk1 W3.drew _ _
          · simp [Value.oneCell']
          · exact H3.out.2.2.2.1
          · exact H3.out.2.2.2.2
          · exact H3.out.2.2.1
          intro A8 N8 c8 W8 HN8 hNc8 hc8 hown8 hg8 hat8
          have hF8 : Frm (fun q => (Value.slice a2 m2 k2).ownBlock = some q) W2 W8 := (H3.out.1.mono fun _ h => h.elim).trans (Frm.of_grown hg8) fun q hq => .inl hq
          have hb8 := HP.out.1.kept hF8 (fun hk => own_blk_ne (H2.out.1.2.2.2.1 ps[j] (List.getElem_mem hjx)) HP.out.1 (by decide) (by rw [HP.out.2.2.1]; exact hk))
          have f8 := hb8.frozen (j * 3 + 1)
          have y8 := hF8.cell p1' (fun hk => own_blk_ne (H2.out.1.2.2.2.1 ps[j] (List.getElem_mem hjx)) HP.out.1 (by decide) (by rw [HP.out.2.2.1]; exact hk))
          have H8 := Lib.hid (And.intro hown8 (And.intro hF8 HN8))
          clear hown8 hg8 hat8 hF8 hb8))
      all_goals
        go_wp2_with fail
        go_end0
        obtain ⟨ps', g1, g2, g3⟩ := put_fin H2.out.1 H2.out.2.2 hjx HP.out.2.2.1 H8.out.1 H8.out.2.1
        refine ⟨⟨_, rfl⟩, ps', ?_, ?_, g3⟩
        · rw [HX.out.1]
          simp only [choreN, if_pos, Option.map_some, Option.getD_some, HC.out]
          exact g1
        · rw [g2, HX.out.2]
          apply List.ext_getElem?
          intro i
          rw [List.getElem?_modify, List.getElem?_modify]
          by_cases hi : j = i
          · subst hi
            rw [HP.out.2.2.2.2.2]
            have e : putP (s + z) ps[j].p = { ps[j].p with ins := ps[j].p.ins ++ [IntKind.u32.wrap (s + z)] } := by unfold putP; rw [if_neg (by rw [HC.out]; simp)]; rfl
            simp only [if_pos]
            exact congrArg some e.symm
          · simp [hi]
  case inr.inl =>
    obtain ⟨h5, h6⟩ := H.out.2.2.1 (by omega)
    obtain ⟨j, rfl⟩ : ∃ j : Nat, q = j := ⟨q.toNat, by omega⟩
    have hjx : j < ps.length := by omega
    obtain ⟨rfl, gp, cs, rfl, hbp, hgp, p0, p1, p2⟩ := H2.out.1.pipe hjx
    obtain ⟨a2, m2, k2, e5, hm2, hk2, hc2, -⟩ := id (H2.out.1.ins hjx (Frm.refl _ W2))
    rw [e5] at p1
    rw [uv_length] at hm2
    have hl := H.out.2.2.2.1 ps[j] (List.getElem_mem hjx)
    have hgj : (ps.map (·.p))[j]? = some ps[j].p := by rw [List.getElem?_map, List.getElem?_eq_getElem hjx]; rfl
    rw [Int.toNat_natCast, hgj, pipesN_2] at HX
    have HP := Lib.hid (And.intro hbp (And.intro hgp (And.intro e5 (And.intro hm2 (And.intro hl hgj)))))
    clear hbp hgp e5 hm2 hl hgj h5 h6
    go_wp2_with fail
    go_quiet (fail)
    rename_i nq
    go_upto_region 11 with fail
    have hW3 := (H2.out.1.keptF ((Frm.refl _ W2).drewN nq)).set_ (i := 2) (u := .int .u32 (s * 31 % 4294967296)) (c' := ⟨es, (k : Int) + 1, u32w (s * 31), r⟩) (by rw [u32w_mod]; rfl) rfl
    have hFs : Frm (fun q => q = b) (W2.drewN nq) ((W2.drewN nq).setCell ⟨b, 2, none⟩ (.int .u32 (s * 31 % 4294967296))) := (Frm.refl (fun q => q = b) _).setCell ⟨b, 2, none⟩ (.inl rfl) _
    have hF3 : Frm (fun q => nb ≤ q) w ((W2.drewN nq).setCell ⟨b, 2, none⟩ (.int .u32 (s * 31 % 4294967296))) := (H2.out.2.2.drewN nq).trans hFs fun q hq => .inl (by rw [hq]; exact H.out.2.1)
    have hb3 := (HP.out.1.kept ((Frm.refl (fun _ => False) W2).drewN nq) id).kept hFs (fun e => (HP.out.1.ne_ H2.out.1.1 (by decide)) e)
    replace p1 : ((W2.drewN nq).setCell ⟨b, 2, none⟩ (.int .u32 (s * 31 % 4294967296))).cell? ⟨gp, j * 3 + 1, none⟩ = some (.slice a2 m2 k2) := (World.cell?_of_block (w := W2) (hFs.block gp HP.out.1.lt (fun e => (HP.out.1.ne_ H2.out.1.1 (by decide)) e))).trans p1
    generalize (W2.drewN nq).setCell ⟨b, 2, none⟩ (.int .u32 (s * 31 % 4294967296)) = W3 at *
    have g2 : W3.cell? ⟨b, 2, none⟩ = some (.int .u32 (u32w (s * 31))) := hW3.1.cell 2
    have hnn : (0 : Int) ≤ m2 := by omega
    have gf := hW3.1.frozen 2
    have hfz := hb3.frozen (j * 3 + 1)
    have H3 := Lib.hid (And.intro hW3 (And.intro hF3 hb3))
    clear hW3 hF3 hb3 hFs p0 p2 c0 c1' c2 c3 c4 f1 f2 f3 e0 e1 e2
    rcases Nat.eq_zero_or_pos m2 with rfl | hpos
    · go_wp2_with fail
      go_end0
      have hnil : ps[j].p.ins = [] := List.eq_nil_of_length_eq_zero HP.out.2.2.2.1.symm
      refine ⟨⟨_, rfl⟩, ps, ?_, ?_, H3.out.2.1⟩
      · rw [HX.out.1]
        simp only [choreN, Option.map_some, Option.getD_some]
        have e : getS s ps[j].p = u32w (s * 31) := by unfold getS; rw [hnil]
        have := H3.out.1.done
        simpa [e] using this
      · rw [HX.out.2, modify_same]
        intro p hp
        rw [HP.out.2.2.2.2.2] at hp
        cases hp
        unfold getP
        rw [hnil]
        cases hh : ps[j].p
        rw [hh] at hnil
        dsimp only at hnil
        subst hnil
        rfl
    · have ho := H3.out.1.2.2.2.1 ps[j] (List.getElem_mem hjx)
      rw [HP.out.2.2.1, ← HP.out.2.2.2.1] at ho
      obtain ⟨x0, xs, hxs⟩ : ∃ x0 xs, ps[j].p.ins = x0 :: xs := by
        cases hh : ps[j].p.ins with
        | nil => have := HP.out.2.2.2.1; rw [hh] at this; simp at this; omega
        | cons a l => exact ⟨a, l, rfl⟩
      rw [hxs] at ho
      obtain ⟨gi, rfl, y0⟩ := own_at ho 0 (by rw [uv_length]; simp)
      replace y0 : W3.cell? ⟨gi, 0, none⟩ = some (.int .u32 x0) := y0
      have hdr := run_drop (P := Try.prog) (t := 50) Try.underlying50 sizeU32 (some ⟨gi, 0, none⟩) m2 k2 1 (by omega) (by omega)
      obtain ⟨Ad, hAd⟩ : ∃ Ad : Option Addr, Ad = (if k2 = (1 : Int).toNat then (some ⟨gi, 0, none⟩ : Option Addr) else (some (⟨gi, 0, none⟩ : Addr)).map (·.add ((1 : Int).toNat * 1))) := ⟨_, rfl⟩
      rw [← hAd] at hdr
      replace hdr : ∀ w, (Instr.slice 50 (.slice (some ⟨gi, 0, none⟩) m2 k2) (some (.int .i64 1)) none none).run Try.prog w = .ok (.slice Ad (m2 - 1) (k2 - 1)) w := hdr
      have H4 := Lib.hid (And.intro ho (And.intro hxs hAd))
      clear ho hxs hAd
      go_upto_region 13 with (go_region)
      have hW4 := (H3.out.1.set_ (i := 2) (u := .int .u32 ((u32w (s * 31) + (x0 + 1)) % 4294967296)) (c' := ⟨es, (k : Int) + 1, u32w (s * 31 + x0 + 1), r⟩) (by rw [← u32w_mod, u32w_add, ← Int.add_assoc]; rfl) rfl).keptF (Frm.refl _ _).drew
      have hFs : Frm (fun q => q = b) W3 (W3.setCell ⟨b, 2, none⟩ (.int .u32 ((u32w (s * 31) + (x0 + 1)) % 4294967296))).drew := ((Frm.refl (fun q => q = b) _).setCell ⟨b, 2, none⟩ (.inl rfl) _).drew
      have hF4 := H3.out.2.1.trans hFs fun q hq => .inl (by rw [hq]; exact H.out.2.1)
      have hb4 := H3.out.2.2.kept hFs (H3.out.2.2.ne_ H3.out.1.1 (by decide))
      replace p1 := hFs.cell p1 (H3.out.2.2.ne_ H3.out.1.1 (by decide))
      clear hFs hfz g2 gf y0
      generalize (W3.setCell ⟨b, 2, none⟩ (.int .u32 ((u32w (s * 31) + (x0 + 1)) % 4294967296))).drew = W4 at *
      have hfz := hb4.frozen (j * 3 + 1)
      have H5 := Lib.hid (And.intro hW4 (And.intro hF4 hb4))
      clear hW4 hF4 hb4
      go_wp2_with fail
      go_end0
      have hsx := H5.out.1.ins hjx (Frm.refl _ W4)
      rw [HP.out.2.2.1] at hsx
      have hsd := hsx.drop 1 hpos
      have hAd : Ad = (if k2 = 1 then (some ⟨gi, 0, none⟩ : Option Addr) else (some (⟨gi, 0, none⟩ : Addr)).map (·.add 1)) := H4.out.2.2
      rw [← hAd] at hsd
      refine ⟨⟨_, rfl⟩, ps.set j ⟨.slice Ad (m2 - 1) (k2 - 1), { ps[j].p with ins := ps[j].p.ins.drop 1 }⟩, ?_, by rw [HX.out.2]; exact set_map ps j _ getP hjx rfl, ?_⟩
      · rw [HX.out.1]
        have e : getS s ps[j].p = u32w (s * 31 + x0 + 1) := by unfold getS; rw [H4.out.2.1]
        have h1 := H5.out.1.pset (u := .slice Ad (m2 - 1) (k2 - 1)) (x := ⟨.slice Ad (m2 - 1) (k2 - 1), { ps[j].p with ins := ps[j].p.ins.drop 1 }⟩) (Frm.refl _ W4) hjx (by omega : 1 < 3) rfl (by
          have h2 : uv (ps[j].p.ins.drop 1) = (uv ps[j].p.ins).drop 1 := by simp [uv]
          show Sl W4 _ (.slice Ad (m2 - 1) (k2 - 1)) (uv (ps[j].p.ins.drop 1))
          rw [h2]
          exact hsd)
        simp only [choreN, Option.map_some, Option.getD_some, e]
        simpa using h1
      · exact H5.out.2.1.trans ((Frm.refl (fun q => q = gp) W4).setCell ⟨gp, j * 3 + 1, none⟩ (.inl rfl) _) fun q hq => .inl (by rw [hq]; exact HP.out.2.1)
  case inr.inr.inl =>
    go_wp2_with fail
    go_region
    go_wp2_with fail
    go_end0
    have hW4 := (H2.out.1.set_ (i := 2) (u := .int .u32 ((s + z) % 4294967296)) (c' := ⟨es, (k : Int) + 1, u32w (s + z), r⟩) (by rw [u32w_mod]; rfl) rfl).keptF (Frm.refl _ _).drew
    have hFs : Frm (fun q => q = b) W2 (W2.setCell ⟨b, 2, none⟩ (.int .u32 ((s + z) % 4294967296))).drew := ((Frm.refl (fun q => q = b) _).setCell ⟨b, 2, none⟩ (.inl rfl) _).drew
    refine ⟨⟨_, rfl⟩, ps, ?_, ?_, H2.out.2.2.trans hFs fun q hq => .inl (by rw [hq]; exact H.out.2.1)⟩
    · rw [HX.out.1]
      have h1 := hW4.done
      simp only [choreN]
      simpa using h1
    · rw [HX.out.2]
      rfl
  case inr.inr.inr.inl =>
    obtain ⟨h5, h6⟩ := H.out.2.2.1 (by omega)
    obtain ⟨j, rfl⟩ : ∃ j : Nat, q = j := ⟨q.toNat, by omega⟩
    have hjx : j < ps.length := by omega
    obtain ⟨rfl, gp, cs, rfl, hbp, hgp, p0, p1, p2⟩ := H2.out.1.pipe hjx
    rw [pipesN_4] at HX
    have hfz := hbp.frozen (j * 3 + 2)
    have HP := Lib.hid (And.intro hbp hgp)
    clear hbp hgp h5 h6
    go_wp2_with fail
    go_region
    go_wp2_with fail
    go_end0
    have h1 := H2.out.1.pset (u := .bool true) (x := ⟨ps[j].v, { ps[j].p with closed := true }⟩) (Frm.refl _ W2) hjx (by omega : 2 < 3) rfl (H2.out.1.ins hjx (Frm.refl _ W2))
    refine ⟨⟨_, rfl⟩, ps.set j ⟨ps[j].v, { ps[j].p with closed := true }⟩, ?_, by rw [HX.out.2]; exact set_map ps j _ (fun p => { p with closed := true }) hjx rfl, ?_⟩
    · rw [HX.out.1]
      simp only [choreN]
      simpa using h1.drew
    · exact (H2.out.2.2.trans ((Frm.refl (fun q => q = gp) W2).setCell ⟨gp, j * 3 + 2, none⟩ (.inl rfl) _) fun q hq => .inl (by rw [hq]; exact HP.out.2)).drew
  case inr.inr.inr.inr =>
    go_wp2_with fail
    go_end0
    have h1 := H2.out.1.set_ (i := 1) (u := .int .i64 (nr : Int)) (c' := ⟨es, (nr : Int), s, r⟩) rfl rfl
    have hFs : Frm (fun q => q = b) W2 (W2.setCell ⟨b, 1, none⟩ (.int .i64 (nr : Int))) := (Frm.refl (fun q => q = b) _).setCell ⟨b, 1, none⟩ (.inl rfl) _
    refine ⟨⟨_, rfl⟩, ps, ?_, ?_, H2.out.2.2.trans hFs fun q hq => .inl (by rw [hq]; exact H.out.2.1)⟩
    · rw [HX.out.1]
      have h2 := h1.done
      simp only [choreN]
      have := H.out.2.2.2.2.2
      simpa [← this] using h2
    · rw [HX.out.2]
      rfl
end Go.Proofs.Ytnibllkcacalhaa
