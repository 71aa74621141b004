/- Pipes of one's own. -/
import Derived.Test.YtbfcpapehfdphaaRd
import Derived.Test.YtbfcpapehfdphaaCle
import Derived.Test.YtbfcpapehfdphaaClu
import Derived.Deep.Onto
namespace Go.Proofs.Ytbfcpapehfdphaa
open Go.RowKit Go.Shelf
attribute [local go_sem] Oper.semAt_some
/-- A slice of pipes in memory of its own, from nb on. -/
def PR (w : World) (nb : Nat) (v : Value) (ps : List Pk) : Prop :=
  w.ownsRow nb 46 3 v ps.length (ps.flatMap pCells) ∧ (∀ x ∈ ps, w.ownsRow nb 23 1 x.v x.p.ins.length (uv x.p.ins)) ∧ ps.Pairwise fun a b => ∀ q, a.v.ownBlock = some q → b.v.ownBlock ≠ some q
theorem PR.nil (w : World) (nb : Nat) : PR w nb (.slice none 0 0) [] := ⟨World.ownsRow_nil _ _ _ _, by simp, List.Pairwise.nil⟩
theorem PR.kept {w w' : World} {nb : Nat} {v : Value} {ps : List Pk} {K : Nat → Prop} (h : PR w nb v ps) (hF : Frm K w w') (h1 : ∀ q, v.ownBlock = some q → ¬ K q) (h2 : ∀ x ∈ ps, ∀ q, x.v.ownBlock = some q → ¬ K q) : PR w' nb v ps :=
  ⟨hF.own h.1 h1, fun x hx => hF.own (h.2.1 x hx) (h2 x hx), h.2.2⟩
theorem PR.keptF {w w' : World} {nb : Nat} {v : Value} {ps : List Pk} (h : PR w nb v ps) (hF : Frm (fun _ => False) w w') : PR w' nb v ps := h.kept hF (fun _ _ => id) fun _ _ _ _ => id
/-- A store elsewhere. -/
theorem PR.far {w : World} {nb g i : Nat} {t : TypeId} {cs : Array Value} {v u : Value} {ps : List Pk} (h : PR w nb v ps) (hb : Blk w g t cs) (h1 : 46 ≠ t) (h2 : 23 ≠ t) : PR (w.setCell ⟨g, i, none⟩ u) nb v ps :=
  h.kept ((Frm.refl (fun q => q = g) w).setCell ⟨g, i, none⟩ (.inl rfl) _) (fun _ hq hk => own_blk_ne h.1 hb h1 (by rw [hq, hk])) fun x hx _ hq hk => own_blk_ne (h.2.1 x hx) hb h2 (by rw [hq, hk])
theorem PR.form {w : World} {nb : Nat} {v : Value} {ps : List Pk} (h : PR w nb v ps) : ∃ A c, v = .slice A ps.length c ∧ ps.length ≤ c ∧ c ≤ 9223372036854775807 := own_form h.1
theorem p_one {w : World} {nb : Nat} {v : Value} {ps : List Pk} (h : PR w nb v ps) : ∀ u ∈ ps.flatMap pCells, u.oneCell' = true := by
  intro u hu
  obtain ⟨x, hx, hu⟩ := List.mem_flatMap.1 hu
  obtain ⟨A, c, hv, -, -⟩ := own_form (h.2.1 x hx)
  simp only [pCells, List.mem_cons, List.not_mem_nil, or_false] at hu
  rcases hu with rfl | rfl | rfl
  · rfl
  · rw [hv]; rfl
  · rfl
theorem PR.at {w : World} {nb : Nat} {v : Value} {ps : List Pk} (h : PR w nb v ps) : PAt w (fun q => nb ≤ q ∧ q < w.heap.size) v ps :=
  ⟨SlZ.of_own h.1 fun q hq => World.ownsRow.lt h.1 q hq, fun x hx => (OSl.of_own (K := fun q => nb ≤ q ∧ q < w.heap.size) (h.2.1 x hx) fun q hq => World.ownsRow.lt (h.2.1 x hx) q hq).sl.mono fun q hq => hq.1⟩
/-- One pipe more. -/
theorem PR.snoc {w w' : World} {nb : Nat} {v v' : Value} {ps : List Pk} {x : Pk} (h : PR w nb v ps) (hx : w.ownsRow nb 23 1 x.v x.p.ins.length (uv x.p.ins)) (hap : ∀ y ∈ ps, ∀ q, y.v.ownBlock = some q → x.v.ownBlock ≠ some q)
    (ho : w'.ownsRow nb 46 3 v' (ps.length + 1) (ps.flatMap pCells ++ pCells x)) (hF : Frm (fun q => v.ownBlock = some q) w w') : PR w' nb v' (ps ++ [x]) := by
  refine ⟨by rw [List.flatMap_append, List.length_append]; simpa using ho, fun y hy => ?_, ?_⟩
  · rcases List.mem_append.1 hy with hy | hy
    · exact hF.own (h.2.1 y hy) fun q hq hk => by
        obtain ⟨cs, hb⟩ := own_blk h.1 q hk
        exact own_blk_ne (h.2.1 y hy) hb (by decide) hq
    · simp at hy
      subst hy
      exact hF.own hx fun q hq hk => by
        obtain ⟨cs, hb⟩ := own_blk h.1 q hk
        exact own_blk_ne hx hb (by decide) hq
  · rw [List.pairwise_append]
    exact ⟨h.2.2, by simp, fun a ha b hb => by simp at hb; subst hb; exact hap a ha⟩
/-- A region that draws, in the widest fence, that ends as it should. -/
theorem wpIn_only {P : Program} {n : Nat} {c : Code} {K : Act → World → Prop} {Q : Exit → Act → World → Prop} {a : Act} {w : World} (h : c.wp P (Exit.then K (fun _ _ _ => False)) a w) : c.wpIn Fence.wide n P (Exit.then K Q) a w :=
  wpIn_wide.2 (wp_mono h (by intro e a w h; cases e <;> first | exact h | exact h.elim))
theorem infoP : (Try.prog.info? 46).map (fun i => (i.zero, i.size, i.bytes)) = some (some (.agg #[.int .i64 0, .slice none 0 0, .bool false]), 3, 40) := by kernel_rfl
theorem SlZ.blk3 (w : World) (x0 x1 x2 : Value) (t : TypeId) : SlZ (w.alloc (.cells #[x0, x1, x2] t)) (fun k => k = w.heap.size) 3 (.slice (some ⟨w.heap.size, 0, none⟩) 1 1) [x0, x1, x2] :=
  ⟨_, 1, 1, rfl, rfl, Nat.le_refl _, by omega, .inr ⟨_, 0, rfl, rfl, fun i hi => by
    rw [cell_of_row _ _ _ #[x0, x1, x2] t (0, 0) (heap_alloc_new w _), Nat.zero_add, ← Array.getElem?_toList]
    exact List.getElem?_eq_getElem hi⟩⟩
theorem not_row {X : World} {g : Nat} {t : TypeId} {cs : Array Value} {row : Option Nat} (hb : Blk X g t cs) (hr : ∀ r, row = some r → ∃ o, X.heap[r]? = some o ∧ o.isCells = false) : ¬ row = some g := fun e => by
  obtain ⟨o, ho, hc⟩ := hr g e
  rw [show X.heap[g]? = _ from hb] at ho
  cases ho
  cases hc
/-- The work. -/
def WkAt (w : World) (b nb : Nat) (c : Ch) (ps : List Pk) (vr vp : Value) : Prop :=
  Blk w b 50 #[vr, .int .i64 c.at_, .int .u32 c.sum, .int .i64 c.wrong, vp] ∧ w.ownsRow nb 43 3 vr c.row.length (c.row.flatMap eCells) ∧ PR w nb vp ps
theorem WkAt.grown {X Y : World} {b nb : Nat} {c : Ch} {ps : List Pk} {vr vp : Value} {row : Option Nat} (h : WkAt X b nb c ps vr vp) (hg : X.grownBy Y row) (hr : ∀ r, row = some r → ∃ o, X.heap[r]? = some o ∧ o.isCells = false) : WkAt Y b nb c ps vr vp := by
  have hF := Frm.of_grown hg
  refine ⟨h.1.kept hF (not_row h.1 hr), hF.own h.2.1 fun q hq hk => ?_, h.2.2.kept hF (fun q hq hk => ?_) fun x hx q hq hk => ?_⟩
  · obtain ⟨cs, hb⟩ := own_blk h.2.1 q hq
    exact not_row hb hr hk
  · obtain ⟨cs, hb⟩ := own_blk h.2.2.1 q hq
    exact not_row hb hr hk
  · obtain ⟨cs, hb⟩ := own_blk (h.2.2.2.1 x hx) q hq
    exact not_row hb hr hk
theorem WkAt.keptF {X Y : World} {b nb : Nat} {c : Ch} {ps : List Pk} {vr vp : Value} (h : WkAt X b nb c ps vr vp) (hF : Frm (fun _ => False) X Y) : WkAt Y b nb c ps vr vp :=
  ⟨h.1.kept hF id, hF.own h.2.1 fun _ _ => id, h.2.2.keptF hF⟩
theorem WkAt.far {w : World} {b nb g i : Nat} {c : Ch} {ps : List Pk} {vr vp u : Value} {cs : Array Value} (h : WkAt w b nb c ps vr vp) (hb : Blk w g 46 cs) (hne : vp.ownBlock ≠ some g) : WkAt (w.setCell ⟨g, i, none⟩ u) b nb c ps vr vp := by
  have hF : Frm (fun q => q = g) w (w.setCell ⟨g, i, none⟩ u) := (Frm.refl (fun q => q = g) w).setCell ⟨g, i, none⟩ (.inl rfl) _
  exact ⟨h.1.kept hF (h.1.ne_ hb (by decide)), hF.own h.2.1 fun q hq hk => own_blk_ne h.2.1 hb (by decide) (by rw [hq, hk]), h.2.2.kept hF (fun q hq hk => hne (by rw [hq, hk])) fun x hx q hq hk => own_blk_ne (h.2.2.2.1 x hx) hb (by decide) (by rw [hq, hk])⟩
/-- The pipes are told anew, with one more. -/
theorem WkAt.more {w w' : World} {b nb : Nat} {c : Ch} {ps : List Pk} {vr vp v' : Value} {x : Pk} (h : WkAt w b nb c ps vr vp) (hx : w.ownsRow nb 23 1 x.v x.p.ins.length (uv x.p.ins)) (hap : ∀ y ∈ ps, ∀ q, y.v.ownBlock = some q → x.v.ownBlock ≠ some q)
    (ho : w'.ownsRow nb 46 3 v' (ps.length + 1) (ps.flatMap pCells ++ pCells x)) (hF : Frm (fun q => vp.ownBlock = some q) w w') : WkAt (w'.setCell ⟨b, 4, none⟩ v') b nb c (ps ++ [x]) vr v' := by
  have hb' : Blk w' b 50 #[vr, .int .i64 c.at_, .int .u32 c.sum, .int .i64 c.wrong, vp] := h.1.kept hF fun hk => own_blk_ne h.2.2.1 h.1 (by decide) hk
  have hFs : Frm (fun q => q = b) w' (w'.setCell ⟨b, 4, none⟩ v') := (Frm.refl (fun q => q = b) w').setCell ⟨b, 4, none⟩ (.inl rfl) _
  have hr' := hF.own h.2.1 fun q hq hk => by
    obtain ⟨cs, hb⟩ := own_blk h.2.2.1 q hk
    exact own_blk_ne h.2.1 hb (by decide) hq
  have hp' := h.2.2.snoc hx hap ho hF
  exact ⟨hb'.set_ 4 _, hFs.own hr' fun q hq hk => own_blk_ne hr' hb' (by decide) (by rw [hq, hk]), hp'.far hb' (by decide) (by decide)⟩
theorem Frm.others {w w' : World} (hF : Frm (fun _ => False) w w') : KeepsOthers w w' := ⟨hF.size, fun k o hk _ => (hF.block k (lt_heap hk) id).trans hk⟩
theorem Sl.toZ {w : World} {K : Nat → Prop} {v : Value} {xs : List Value} (h : Sl w K v xs) : SlZ w K 1 v xs := by
  obtain ⟨A, n, c, rfl, hn, hc, hm, hx⟩ := h
  exact ⟨A, n, c, rfl, by omega, hc, hm, hx⟩
theorem attach_p (ps : List Pk) : ps.attach.map (fun x => x.1.p) = ps.map (·.p) := by
  have h : (ps.attach.map (·.1)).map (·.p) = ps.map (·.p) := by rw [List.attach_map_subtype_val]
  rwa [List.map_map] at h
theorem own_fin {m D : Nat} {R : Ending → World → Prop} {W : World} {t : Array Value} {v : Value} (hK : W.heap[D]? = some (.deferred (some []))) (h4 : t.getD 4 undef = v) (hR : R (.returned v) (W.putObj D (.deferred none))) :
    bodyPostM Fence.wide m Try.prog Try.f24 R Exit.ret { tmps := t, defers := [{ target := .collected D, args := #[] }] } W := by
  refine ⟨by simp, .inl ⟨_, _, rfl, run_takeDeferred hK, ?_⟩⟩
  exact ⟨_, by simp [results, Try.results24, go_sem, -Array.getD_eq_getD_getElem?, h4], hR⟩
/-- The round's act in own. -/
def AxO (G B : Nat) (A A1 A2 : Option Addr) (n c n1 c1 c2 : Nat) (a s r : Int) (x : Pk) (a' : Act) (W : World) : Prop := ∃ g, (G + 3 ≤ g ∧ ∃ cs vp, Blk W (G + 1) 50 cs ∧ cs[4]? = some vp ∧ vp.ownBlock ≠ some g) ∧ Blk W g 46 #[.int .i64 x.p.room, x.v, .bool x.p.closed] ∧
  a' = { tmps := #[.agg #[.slice A n c, .int .i64 a, .int .u32 s, .int .i64 r], .slice A1 n1 c1, .pointer (some ⟨G, 0, none⟩), undef, .pointer none, .pointer (some ⟨G + 1 + 1, 0, none⟩), .pointer (some ⟨g, 0, none⟩), .agg #[.slice A n c, .int .i64 a, .int .u32 s, .int .i64 r], .agg #[.slice A n c, .int .i64 a, .int .u32 s, .int .i64 r, .slice none 0 0],
    .pointer (some ⟨G + 1, 0, none⟩), .pointer (some ⟨G + 1, 0, none⟩), .pointer (some ⟨G, 0, none⟩), .slice A n c, .slice A2 n c2, .pointer (some ⟨G + 1, 0, none⟩), .pointer (some ⟨G + 1, 0, none⟩), .pointer (some ⟨G + 1, 0, none⟩), .slice A1 n1 c1, .func (.func 38) #[] #[.pointer (some ⟨B, 0, none⟩)], pEnc x,
    undef, undef, undef, undef, undef, undef, undef, undef, undef, undef, undef, undef, undef, undef, undef], defers := [] }
set_option maxRecDepth 100000 in
set_option maxHeartbeats 2000000 in
theorem own_in (A : Option Addr) (n c : Nat) (a s r : Int) (es : List Er) (A1 : Option Addr) (n1 c1 : Nat) (ps : List Pk) (w : World) (h : RAt w (fun q => q < w.heap.size) (.slice A n c) es) (h1 : PAt w (fun q => q < w.heap.size) (.slice A1 n1 c1) ps) (hn : n ≤ 1000000) (hn1 : n1 ≤ 1000) (hin : ∀ p ∈ ps, p.p.ins.length ≤ 1000000) :
    CallsIn Fence.wide 4 Try.prog 24 #[.agg #[.slice A n c, .int .i64 a, .int .u32 s, .int .i64 r], .slice A1 n1 c1] w fun e w' => ∃ b ps' vr vp, e = .returned (.pointer (some ⟨b, 0, none⟩)) ∧ w.heap.size ≤ b ∧ WkAt w' b w.heap.size ⟨es, a, s, r⟩ ps' vr vp ∧ ps'.map (·.p) = ps.map (·.p) ∧ Frm (fun _ => False) w w' := by
  have hcl := fun (W : World) (hW : Frm (fun _ => False) w W) => clone_e (fun q => q < w.heap.size) (.slice A n c) (es.flatMap eCells) n W (h.keptTo fun q hq => ⟨hW.block q hq id, hq⟩) (by rw [flat3 eCells (fun _ => rfl), h.cells.1]) (fun q hq => Nat.lt_of_lt_of_le hq hW.size) (by
    intro u hu
    obtain ⟨x, hx, hu⟩ := List.mem_flatMap.1 hu
    simp only [eCells, List.mem_cons, List.not_mem_nil, or_false] at hu
    rcases hu with rfl | rfl | rfl <;> rfl) hn
  have H := Lib.hid (And.intro h (And.intro h1 (And.intro hcl (And.intro hn hin))))
  clear h h1 hcl hn hin
  refine callsIn_of_wp_marks Try.func24 rfl trivial ?_ rfl
  simp only [Try.ntmps24, List.size_toArray, List.length_cons, List.length_nil, Nat.reduceAdd, Nat.reduceSub, Array.replicate_succ, Array.replicate_zero, List.push_toArray, List.append_toArray, List.nil_append, List.cons_append]
  gi_wp2_with fail
  obtain ⟨W0, hW0⟩ : ∃ W, W = ((w.alloc (.cells #[.slice A n c, .int .i64 a, .int .u32 s, .int .i64 r] 25)).alloc (.cells #[.slice A n c, .int .i64 a, .int .u32 s, .int .i64 r, .slice none 0 0] 50)).alloc (.cells #[.pointer (some ⟨w.heap.size + 1, 0, none⟩)] 47) := ⟨_, rfl⟩
  rw [← hW0]
  have hF0 : Frm (fun _ => False) w W0 := by rw [hW0]; exact (((Frm.refl _ w).alloc _).alloc _).alloc _
  have hb0 : Blk W0 w.heap.size 25 #[.slice A n c, .int .i64 a, .int .u32 s, .int .i64 r] := by rw [hW0]; exact ((Blk.new w _ _).alloc _).alloc _
  have hb1 : Blk W0 (w.heap.size + 1) 50 #[.slice A n c, .int .i64 a, .int .u32 s, .int .i64 r, .slice none 0 0] := by
    rw [hW0]
    have := (Blk.new (w.alloc (.cells #[.slice A n c, .int .i64 a, .int .u32 s, .int .i64 r] 25)) 50 #[.slice A n c, .int .i64 a, .int .u32 s, .int .i64 r, .slice none 0 0]).alloc (.cells #[.pointer (some ⟨w.heap.size + 1, 0, none⟩)] 47)
    rwa [World.size_alloc] at this
  have hb2 : Blk W0 (w.heap.size + 1 + 1) 47 #[.pointer (some ⟨w.heap.size + 1, 0, none⟩)] := by
    rw [hW0]
    have := Blk.new ((w.alloc (.cells #[.slice A n c, .int .i64 a, .int .u32 s, .int .i64 r] 25)).alloc (.cells #[.slice A n c, .int .i64 a, .int .u32 s, .int .i64 r, .slice none 0 0] 50)) 47 #[.pointer (some ⟨w.heap.size + 1, 0, none⟩)]
    rwa [World.size_alloc, World.size_alloc] at this
  have hs0 : W0.heap.size = w.heap.size + 3 := by rw [hW0]; simp
  clear hW0
  obtain ⟨G, hG⟩ : ∃ G, G = w.heap.size := ⟨_, rfl⟩
  rw [← hG] at hb0 hb1 hb2 hs0 ⊢
  have c0 : W0.cell? ⟨G, 0, none⟩ = some (.slice A n c) := hb0.cell 0
  have c5 : W0.cell? ⟨G + 1 + 1, 0, none⟩ = some (.pointer (some ⟨G + 1, 0, none⟩)) := hb2.cell 0
  have f1 := hb1.frozen 0
  have H0 := Lib.hid (And.intro hF0 (And.intro hb0 (And.intro hb1 (And.intro hb2 (And.intro hs0 hG)))))
  clear hF0 hb0 hb1 hb2 hs0 hG
  refine wpIn_only ?_
  go_region_law
    (refine step_call (by rfl) (H.out.2.2.1 _ (by exact H0.out.1.drew)) _ _ (by rfl) (args1 (by rfl)) (Try.call36 _ _) ?_; rintro e w2 ⟨v2, rfl, ho2, hF2⟩; obtain ⟨A2, c2, rfl, -, -⟩ := own_form ho2; refine ⟨_, rfl, ?_⟩; replace hF2 := ((Frm.refl (fun _ => False) W0).drew).trans hF2 fun _ h => h.elim; have d5 := hF2.cell c5 id; have hw2 := H0.out.2.2.1.kept hF2 id; have g1 := hw2.frozen 0; have g0 : w2.cell? ⟨G + 1, 0, none⟩ = some (.slice A n c) := hw2.cell 0; have H2 := Lib.hid (And.intro ho2 hF2); clear ho2 hF2 hw2)
  all_goals
    gi_wp2_with fail
    refine ⟨trivial, ?_⟩
    refine (callsIn_wide.2 (each_any A1 n1 c1 _)).mono ?_
    rintro e w' ⟨rfl, rfl⟩
    have hes : n = es.length := H.out.1.cells.1
    have hps : n1 = ps.length := H.out.2.1.cells.1
    have hF3 : Frm (fun q => q = G + 1) w2 (w2.setCell ⟨G + 1, 0, none⟩ (.slice A2 n c2)) := (Frm.refl (fun q => q = G + 1) w2).setCell ⟨G + 1, 0, none⟩ (.inl rfl) _
    have hw3 : Blk (w2.setCell ⟨G + 1, 0, none⟩ (.slice A2 n c2)) (G + 1) 50 #[.slice A2 n c2, .int .i64 a, .int .u32 s, .int .i64 r, .slice none 0 0] := (H0.out.2.2.1.kept H2.out.2 id).set_ 0 _
    have hp3 : Blk (w2.setCell ⟨G + 1, 0, none⟩ (.slice A2 n c2)) (G + 1 + 1) 47 #[.pointer (some ⟨G + 1, 0, none⟩)] := (H0.out.2.2.2.1.kept H2.out.2 id).kept hF3 (by omega)
    have ho3 : (w2.setCell ⟨G + 1, 0, none⟩ (.slice A2 n c2)).ownsRow G 43 3 (.slice A2 n c2) n (es.flatMap eCells) := hF3.own (World.ownsRow.mono H2.out.1 (by have := H0.out.2.2.2.2.1; simp; omega)) fun q hq hk => own_blk_ne H2.out.1 (H0.out.2.2.1.kept H2.out.2 id) (by decide) (by rw [hq, hk])
    have hFw3 : Frm (fun _ => False) w (w2.setCell ⟨G + 1, 0, none⟩ (.slice A2 n c2)) := (H0.out.1.trans H2.out.2 fun _ h => h.elim).trans hF3 fun q hq => .inr (by have := H0.out.2.2.2.2.2; omega)
    have hs3 : W0.heap.size ≤ (w2.setCell ⟨G + 1, 0, none⟩ (.slice A2 n c2)).heap.size := by have := H2.out.2.size; simpa using this
    generalize w2.setCell ⟨G + 1, 0, none⟩ (.slice A2 n c2) = w3 at *
    have hF4 : Frm (fun _ => False) w3 (w3.alloc (.cells #[.slice A1 n1 c1] 26)) := (Frm.refl _ w3).alloc _
    have hk4 : (w3.alloc (.cells #[.slice A1 n1 c1] 26)).cell? ⟨w3.heap.size, 0, none⟩ = some (.slice A1 n1 c1) := by
      have := World.cell?_alloc_new w3 #[.slice A1 n1 c1] 26 0
      simp at this ⊢
    have hs4 : (w3.alloc (.cells #[.slice A1 n1 c1] 26)).heap.size = w3.heap.size + 1 := by simp
    have hwk4 : WkAt (w3.alloc (.cells #[.slice A1 n1 c1] 26)) (G + 1) G ⟨es, a, s, r⟩ [] (.slice A2 n c2) (.slice none 0 0) := ⟨hw3.kept hF4 id, by have := hF4.own ho3 fun _ _ => id; rw [hes] at this ⊢; exact this, PR.nil _ _⟩
    have hpt4 := hp3.kept hF4 id
    have hFw4 := hFw3.trans hF4 fun _ h => h.elim
    generalize w3.alloc (.cells #[.slice A1 n1 c1] 26) = W4 at *
    obtain ⟨B, hB⟩ : ∃ B, B = w3.heap.size := ⟨_, rfl⟩
    rw [← hB] at hk4 hs4 ⊢
    have H4 := Lib.hid (And.intro hwk4 (And.intro hpt4 (And.intro hFw4 (And.intro hk4 (And.intro hs4 (And.intro (show G + 3 ≤ B by have := H0.out.2.2.2.2.1; omega) (And.intro hes hps)))))))
    clear hF3 hw3 hp3 ho3 hFw3 hF4 hk4 hs4 hwk4 hpt4 hFw4 hB hs3 H2 d5 g1 g0 c0 c5 f1 hes hps
    gi_wp2_with fail
    have hGw : w.heap.size = G := H0.out.2.2.2.2.2.symm
    refine wpIn_rangeFunc_ownH rfl (by omega) (gf := 38) (lb := #[.pointer (some ⟨B, 0, none⟩)]) rfl trivial (enters_of Try.func38 (by kernel_rfl) rfl)
      (each_stops (fun x : { x // x ∈ ps } => x.1) 3 (by omega) B w.heap.size n1 c1 A1 ps.attach (by omega) W4 (by have := H4.out.2.2.2.2.1; omega) H4.out.2.2.1.size H4.out.2.2.2.1 (by rw [List.attach_map_subtype_val]; exact H.out.2.1.keptTo fun q hq => ⟨H4.out.2.2.1.block q hq id, hq⟩)) belowK_t (belowK_b H4.out.2.2.1.size) (Below.refl _ _) (fun _ => rfl)
      (fun pre W => (∃ zs vp, WkAt W (G + 1) G ⟨es, a, s, r⟩ zs (.slice A2 n c2) vp ∧ zs.map (·.p) = pre.map (·.1.p) ∧ Blk W (G + 1 + 1) 47 #[.pointer (some ⟨G + 1, 0, none⟩)]) ∧ Below w.heap.size w W)
      (fun _ _ _ => False)
      (OwnFrom.and (Own.from (fun pre X Y row hs hg hr => by obtain ⟨zs, vp, h1, h2, h3⟩ := hs; exact ⟨zs, vp, h1.grown hg hr, h2, blk_kept h3 hg hr⟩) _) (ownFrom_below (Nat.le_refl _) H4.out.2.2.1.size))
      (fun _ _ _ _ _ hs => hs.elim)
      ⟨⟨[], _, H4.out.1, rfl, H4.out.2.1⟩, H4.out.2.2.1.below (Nat.le_refl _) fun _ h => h.elim⟩
      (fun x a' W => AxO G B A A1 A2 n c n1 c1 c2 a s r x.1 a' W) (fun x a' => Own.from (fun _ X Y row hs hg hr => by obtain ⟨g, ⟨h1, cs, vp, k1, k2, k3⟩, h2, h3⟩ := hs; exact ⟨g, ⟨h1, cs, vp, blk_kept k1 hg hr, k2, k3⟩, blk_kept h2 hg hr, h3⟩) _) ?assign ?body ?done ?stop
    case assign =>
      rintro l pre x W K ⟨⟨zs, vp, hWk, hzs, hpt⟩, hBW⟩ hK
      obtain ⟨a3, n3, c3, hv, -⟩ := H.out.2.1.2 x.1 x.2
      have hKK := fun a' (hA : a' = _) => hK a' (W.alloc (.cells #[.int .i64 x.1.p.room, x.1.v, .bool x.1.p.closed] 46)) ((KeepsOthers.alloc W _).from _) ((Below.refl _ W).alloc hBW.size _) ⟨⟨zs, vp, hWk.keptF ((Frm.refl _ W).alloc _), hzs, hpt.alloc _⟩, hBW.trans ((Below.refl _ W).alloc hBW.size _)⟩
        ⟨W.heap.size, ⟨by have := hpt.lt; omega, _, vp, hWk.1.alloc _, rfl, fun h => by have := (World.ownsRow.lt hWk.2.2.1 _ h).2; omega⟩, Blk.new W _ _, hA⟩
      unfold pEnc at hKK ⊢
      rw [hv] at hKK ⊢
      have HKK := Lib.hid hKK
      clear hKK hK hWk hzs hpt
      gi_wp2
      exact HKK.out _ rfl
    case body =>
      rintro l pre x a' W hl hrec ⟨⟨zs, vp, hWk, hzs, hpt⟩, hBW⟩ ⟨g, ⟨hg, cs, vp', k1, k2, k3⟩, hb, rfl⟩ hlen
      obtain rfl : vp = vp' := by
        have e1 := hWk.1
        unfold Blk at e1 k1
        rw [e1] at k1
        cases k1
        simpa using k2
      obtain ⟨a3, n3, c3, hv, hn3, -⟩ := id (H.out.2.1.2 x.1 x.2)
      have hin := H.out.2.2.2.2 x.1 x.2
      have hcu := clone_u (fun q => q < w.heap.size) x.1.v (uv x.1.p.ins) x.1.p.ins.length W ((H.out.2.1.2 x.1 x.2).toZ.keptTo fun q hq => ⟨hBW.block q hq, hq⟩) (by rw [uv_length]; omega) (fun q hq => Nat.lt_of_lt_of_le hq hBW.size) (uv_one _) hin
      have c1' := hb.cell 1
      simp only [List.getElem?_toArray, List.getElem?_cons_zero, List.getElem?_cons_succ] at c1'
      have hzl : zs.length < n1 := by have := congrArg List.length hzs; simp at this; have h2 : pre.length < n1 := hlen; omega
      have HB := Lib.hid (And.intro hWk (And.intro hzs (And.intro hpt (And.intro hBW (And.intro hg (And.intro hb (And.intro k3 (And.intro hcu hzl))))))))
      unfold pEnc
      rw [hv] at c1' ⊢
      rw [hv] at HB
      clear hWk hzs hpt hBW hg k1 k2 k3 hb hcu hn3 hin hrec hzl
      gi_wp2_with fail
      refine ⟨trivial, ?_⟩
      refine (callsIn_wide.2 HB.out.2.2.2.2.2.2.2.1).mono ?_
      rintro e W5 ⟨v5, rfl, ho5, hF5⟩
      obtain ⟨a5, c5, rfl, -, -⟩ := own_form ho5
      obtain ⟨L, hL⟩ : ∃ L, L = x.1.p.ins.length := ⟨_, rfl⟩
      rw [← hL] at ho5 ⊢
      have hb5 := HB.out.2.2.2.2.2.1.kept hF5 id
      have f5 := hb5.frozen 1
      have e5 : W5.cell? ⟨g, 1, none⟩ = some (.slice a3 n3 c3) := hb5.cell 1
      have hFs : Frm (fun q => q = g) W5 (W5.setCell ⟨g, 1, none⟩ (.slice a5 L c5)) := (Frm.refl (fun q => q = g) W5).setCell ⟨g, 1, none⟩ (.inl rfl) _
      have hWk6 : WkAt (W5.setCell ⟨g, 1, none⟩ (.slice a5 L c5)) (G + 1) G ⟨es, a, s, r⟩ zs (.slice A2 n c2) vp := (HB.out.1.keptF hF5).far hb5 HB.out.2.2.2.2.2.2.1
      have hb6 : Blk (W5.setCell ⟨g, 1, none⟩ (.slice a5 L c5)) g 46 #[.int .i64 x.1.p.room, .slice a5 L c5, .bool x.1.p.closed] := hb5.set_ 1 _
      have hpt6 : Blk (W5.setCell ⟨g, 1, none⟩ (.slice a5 L c5)) (G + 1 + 1) 47 #[.pointer (some ⟨G + 1, 0, none⟩)] := (HB.out.2.2.1.kept hF5 id).kept hFs (by have := HB.out.2.2.2.2.1; omega)
      have hGW : G ≤ W.heap.size := by have := HB.out.2.2.1.lt; omega
      have ho6 : (W5.setCell ⟨g, 1, none⟩ (.slice a5 L c5)).ownsRow G 23 1 (.slice a5 L c5) L (uv x.1.p.ins) := hFs.own (World.ownsRow.mono ho5 hGW) fun q hq hk => own_blk_ne ho5 hb5 (by decide) (by rw [hq, hk])
      have hv5 : ∀ q, (Value.slice a5 L c5).ownBlock = some q → W.heap.size ≤ q := fun q hq => (World.ownsRow.lt ho5 q hq).1
      have hap : ∀ y ∈ zs, ∀ q, y.v.ownBlock = some q → (Value.slice a5 L c5).ownBlock ≠ some q := fun y hy q hq hk => by
        have h1 := (World.ownsRow.lt (HB.out.1.2.2.2.1 y hy) q hq).2
        have h2 := hv5 q hk
        omega
      have hKo6 : KeepsOthers W (W5.setCell ⟨g, 1, none⟩ (.slice a5 L c5)) := hF5.others.trans (KeepsOthers.setCell _ _ _)
      have hBe6 : Below w.heap.size W (W5.setCell ⟨g, 1, none⟩ (.slice a5 L c5)) := (hF5.below (by omega) fun _ h => h.elim).trans ((Below.refl _ W5).setCell (p := ⟨g, 1, none⟩) (by have := HB.out.2.2.2.2.1; show w.heap.size ≤ g; omega) _)
      have H5 := Lib.hid (And.intro hWk6 (And.intro hb6 (And.intro hpt6 (And.intro ho6 (And.intro hap (And.intro hKo6 (And.intro hBe6 hL)))))))
      clear hb5 hFs hWk6 hb6 hpt6 ho6 hv5 hap hKo6 hBe6 hL ho5 hF5 c1'
      gi_wp2_with fail
      generalize W5.setCell ⟨g, 1, none⟩ (.slice a5 L c5) = W6 at *
      clear f5 e5
      obtain ⟨Av, cv, rfl, -, -⟩ := H5.out.1.2.2.form
      obtain ⟨Nz, hNz⟩ : ∃ Nz, Nz = zs.length := ⟨_, rfl⟩
      have p5 : W6.cell? ⟨G + 1 + 1, 0, none⟩ = some (.pointer (some ⟨G + 1, 0, none⟩)) := H5.out.2.2.1.cell 0
      have q4 : W6.cell? ⟨G + 1, 4, none⟩ = some (.slice Av Nz cv) := by rw [hNz]; exact H5.out.1.1.cell 4
      have b0 : W6.cell? ⟨g, 0, none⟩ = some (.int .i64 x.1.p.room) := H5.out.2.1.cell 0
      have b1 : W6.cell? ⟨g, 1, none⟩ = some (.slice a5 L c5) := H5.out.2.1.cell 1
      have b2 : W6.cell? ⟨g, 2, none⟩ = some (.bool x.1.p.closed) := H5.out.2.1.cell 2
      have hFa : Frm (fun _ => False) W6 (W6.drew.alloc (.cells #[.int .i64 x.1.p.room, .slice a5 L c5, .bool x.1.p.closed] 46)) := (Frm.refl _ W6).drew.alloc _
      have hzn : Nz ≤ 1000 := by have := HB.out.2.2.2.2.2.2.2.2; omega
      obtain ⟨i0, hi, hz0, hz1, hz2⟩ := info_parts infoP
      have H6 := Lib.hid (And.intro hFa hNz)
      clear hFa hNz
      refine wpIn_region_last (ls := oops) (by kernel_rfl) (by kernel_rfl) 11 (by kernel_rfl) _ (by rfl) ?_
      refine own_reg _ _ _ _ _ _ _ _ _ _ _ _ _ _ _ _ _ _ _ _ _ _ G g W6 Av Nz cv x.1.p.room a5 L c5 x.1.p.closed p5 q4 b0 b1 b2
        (fun A8 N8 c8 W8 => (N8 = Nz + 1 ∧ W8.ownsRow G 46 3 (.slice A8 N8 c8) N8 (zs.flatMap pCells ++ [.int .i64 x.1.p.room, .slice a5 L c5, .bool x.1.p.closed]) ∧ (W6.drew.alloc (.cells #[.int .i64 x.1.p.room, .slice a5 L c5, .bool x.1.p.closed] 46)).grownBy W8 (Value.slice Av Nz cv).ownBlock) ∧ W8.cell? ⟨G + 1 + 1, 0, none⟩ = some (.pointer (some ⟨G + 1, 0, none⟩)) ∧ W8.cell? ⟨G + 1, 4, none⟩ = some (.slice Av Nz cv) ∧ W8.frozen? ⟨G + 1, 4, none⟩ = false) (fun _ _ _ _ h => h.2) ?happ ?hfin
      case happ =>
        intro a' Q' e28 e30 hnext
        refine wpList_append_slz (by rfl) (.tmp 28) (.tmp 30) 26 (by rfl) G 46 i0 _ 3 40 Try.underlying26 hi hz0 hz1 hz2 (by rfl) (by decide) _ Nz (zs.flatMap pCells) e28 (by rw [H6.out.2]; exact H6.out.1.own H5.out.1.2.2.1 fun _ _ => id) (fun q => q = W6.heap.size) _ 1 [.int .i64 x.1.p.room, .slice a5 L c5, .bool x.1.p.closed] e30 (SlZ.blk3 W6.drew _ _ _ _) rfl (by intro u hu; simp only [List.mem_cons, List.not_mem_nil, or_false] at hu; rcases hu with rfl | rfl | rfl <;> rfl) (by unfold maxLen; omega) (by omega) (by have := H5.out.2.2.1.lt; simp; omega) ?_
        intro A8 N8 c8 W8 HN8 hNc8 hc8 hown8 hg8 hat8
        have hF8 : Frm (fun q => (Value.slice Av Nz cv).ownBlock = some q) W6 W8 := (H6.out.1.mono fun _ h => h.elim).trans (Frm.of_grown hg8) fun q hq => .inl hq
        have hne : ∀ t cs q, Blk W6 q t cs → 46 ≠ t → ¬ (Value.slice Av Nz cv).ownBlock = some q := fun t cs q hb ht hk => own_blk_ne H5.out.1.2.2.1 hb ht (by rw [← hk, H6.out.2])
        have hw8 := H5.out.1.1.kept hF8 (hne _ _ _ H5.out.1.1 (by decide))
        have hp8 := H5.out.2.2.1.kept hF8 (hne _ _ _ H5.out.2.2.1 (by decide))
        exact hnext A8 N8 c8 W8 ⟨⟨HN8.out, hown8, hg8⟩, hp8.cell 0, by rw [H6.out.2]; exact hw8.cell 4, hw8.frozen 4⟩
      case hfin =>
        rintro A8 N8 c8 W8 ⟨⟨rfl, ho8, hg8⟩, -, -, -⟩
        have hF8 : Frm (fun q => (Value.slice Av Nz cv).ownBlock = some q) W6 W8 := (H6.out.1.mono fun _ h => h.elim).trans (Frm.of_grown hg8) fun q hq => .inl hq
        have hwm : WkAt (W8.setCell ⟨G + 1, 4, none⟩ (.slice A8 (Nz + 1) c8)) (G + 1) G ⟨es, a, s, r⟩ (zs ++ [⟨.slice a5 L c5, x.1.p⟩]) (.slice A2 n c2) (.slice A8 (Nz + 1) c8) := WkAt.more (x := ⟨.slice a5 L c5, x.1.p⟩) H5.out.1 (by have := H5.out.2.2.2.1; rw [H5.out.2.2.2.2.2.2.2] at this ⊢; exact this) H5.out.2.2.2.2.1 (by have e : zs.length = Nz := H6.out.2.symm; rw [e]; exact ho8) (by have := hF8; rw [H6.out.2] at this; exact this)
        have hpt9 : Blk (W8.setCell ⟨G + 1, 4, none⟩ (.slice A8 (Nz + 1) c8)) (G + 1 + 1) 47 #[.pointer (some ⟨G + 1, 0, none⟩)] := (H5.out.2.2.1.kept hF8 (fun hk => own_blk_ne H5.out.1.2.2.1 H5.out.2.2.1 (by decide) (by rw [← hk, H6.out.2]))).far (by show G + 1 + 1 ≠ G + 1; omega) _
        have hKo : KeepsOthers W (W8.setCell ⟨G + 1, 4, none⟩ (.slice A8 (Nz + 1) c8)) := (H5.out.2.2.2.2.2.1.trans (H6.out.1.others.trans (KeepsOthers.of_grownBy hg8 fun j o hj ho => by
          obtain ⟨cs, hb⟩ := own_blk (H6.out.1.own H5.out.1.2.2.1 fun _ _ => id) j (by rw [← H6.out.2]; exact hj)
          rw [show _ = _ from hb] at ho
          cases ho
          rfl))).trans (KeepsOthers.setCell _ _ _)
        have hBe : Below w.heap.size W (W8.setCell ⟨G + 1, 4, none⟩ (.slice A8 (Nz + 1) c8)) := (H5.out.2.2.2.2.2.2.1.trans (hF8.below (by have := H5.out.2.2.1.lt; omega) fun q hq => by
          have := World.ownsRow.lt H5.out.1.2.2.1 q (by rw [← H6.out.2]; exact hq)
          omega)).trans ((Below.refl _ W8).setCell (p := ⟨G + 1, 4, none⟩) (by show w.heap.size ≤ G + 1; omega) _)
        have HZ := Lib.hid (And.intro hwm (And.intro hpt9 (And.intro hKo hBe)))
        clear hwm hpt9 hKo hBe ho8 hg8 hF8
        gi_wp2_with fail
        exact ⟨HZ.out.2.2.1.from _, HZ.out.2.2.2, ⟨_, _, HZ.out.1, by rw [List.map_append, HB.out.2.1]; simp, HZ.out.2.1⟩, HB.out.2.2.2.1.trans HZ.out.2.2.2⟩
    case done =>
      rintro D ys W hD rfl ⟨⟨zs, vp, hWk, hzs, hpt⟩, hBW⟩ hK
      have p5 : W.cell? ⟨G + 1 + 1, 0, none⟩ = some (.pointer (some ⟨G + 1, 0, none⟩)) := hpt.cell 0
      have HB := Lib.hid (And.intro hWk (And.intro hzs (And.intro hBW hK)))
      clear hWk hzs hpt hBW hK
      gi_wp2_with fail
      refine own_fin (D := D) HB.out.2.2.2 (v := .pointer (some ⟨G + 1, 0, none⟩)) rfl ?_
      have hDl : w.heap.size ≤ D := Nat.le_trans H4.out.2.2.1.size hD
      exact ⟨G + 1, zs, _, vp, rfl, by omega, by rw [hGw]; exact HB.out.1.grown (grownBy_putObj' W D (.deferred none)) (fun r' e => by cases e; exact ⟨_, HB.out.2.2.2, rfl⟩), by rw [HB.out.2.1]; exact attach_p ps, Frm.of_below (HB.out.2.2.1.trans (belowK_b (w := w) (Nat.le_refl _) W D _ _ hDl HB.out.2.2.2 rfl rfl))⟩
    case stop =>
      rintro D cc pre W _ _ h _
      exact h.elim
theorem own_any (A : Option Addr) (n c : Nat) (a s r : Int) (es : List Er) (A1 : Option Addr) (n1 c1 : Nat) (ps : List Pk) (w : World) (h : RAt w (fun q => q < w.heap.size) (.slice A n c) es) (h1 : PAt w (fun q => q < w.heap.size) (.slice A1 n1 c1) ps) (hn : n ≤ 1000000) (hn1 : n1 ≤ 1000) (hin : ∀ p ∈ ps, p.p.ins.length ≤ 1000000) :
    Calls Try.prog 24 #[.agg #[.slice A n c, .int .i64 a, .int .u32 s, .int .i64 r], .slice A1 n1 c1] w fun e w' => ∃ b ps' vr vp, e = .returned (.pointer (some ⟨b, 0, none⟩)) ∧ w.heap.size ≤ b ∧ WkAt w' b w.heap.size ⟨es, a, s, r⟩ ps' vr vp ∧ ps'.map (·.p) = ps.map (·.p) ∧ Frm (fun _ => False) w w' :=
  callsIn_wide.1 (own_in A n c a s r es A1 n1 c1 ps w h h1 hn hn1 hin)
end Go.Proofs.Ytbfcpapehfdphaa
