/- A region that draws, within a round of the widest fence, by a plan for one without. Pipes of one's own. The walk of teaselref23.OwnPipes. -/
import Derived.RangeFuncNested
import Derived.TacticsInMore
import Derived.Deep.Onto
import Derived.Deep.DeepCutAuto
import Derived.Test.YtnibllkcacalhaaHOr
import Derived.Test.YtnibllkcacalhaaGA
namespace Go.Proofs.Ytnibllkcacalhaa
set_option maxRecDepth 100000
theorem opIn_of_wp {P : Program} {l n : Nat} {o : Oper} {a : Act} {w : World} {K1 K2 : Act → World → Prop} {Q : Exit → Act → World → Prop} (hd : ∀ c, o.op ≠ .defer c) (hK : ∀ a w, K1 a w → K2 a w) (h : o.wp P a w K1 (fun _ _ _ => False)) : o.wpIn (Fence.wide.inRound l) n P a w K2 Q := by
  refine ⟨fun _ _ => trivial, ?_⟩
  show o.uponIn (Fence.wide.inRound l) n P a K2 Q ((o.semAt (some l) a.eval).run P w)
  rw [Oper.semAt_some l a.eval o hd]
  unfold Oper.wp at h
  generalize (execOp a.eval o).run P w = r at *
  cases r with
  | ok x w' =>
    cases x with
    | value v => exact hK _ _ h
    | skip => exact hK _ _ h
    | defer d => exact hK _ _ h
    | enter f args =>
      refine ⟨fun h => (by cases h), CallsIn.inRound l (callsIn_wide.2 (Calls.mono h ?_))⟩
      intro e w'' he
      cases e with
      | returned v => exact hK _ _ he
      | panicked c => exact he.elim
      | outgrown => exact he.elim fun _ h => h.elim fun _ h => h.elim
    | row row args =>
      refine ⟨fun h => (by cases h), fun c cs _ => ?_⟩
      obtain ⟨v, w2, r, s⟩ := h c cs
      exact ⟨v, w2, hK _ _ r, stepsIn_wide.2 s⟩
    | round => exact h.elim
    | _ => exact h.elim
  | halt x w' => cases x <;> exact h.elim
theorem opIn_any {P : Program} {ops : Array Oper} {l n i : Nat} {a : Act} {w : World} {K K1 K2 : Act → World → Prop} {Q : Exit → Act → World → Prop} (hd : ∀ (i : Nat) (o : Oper), ops[i]? = some o → ∀ c : Call, o.op ≠ .defer c) (hK : ∀ a w, K1 a w → K2 a w)
    (h : wpOp P ops (Exit.then K (fun _ _ _ => False)) i K1 a w) : wpOpIn (Fence.wide.inRound l) n P ops (Exit.then K Q) i K2 a w := by
  unfold wpOp at h
  unfold wpOpIn
  cases ho : ops[i]? with
  | none => simp only [ho] at h; exact hK _ _ h
  | some o =>
    simp only [ho] at h ⊢
    split
    · rename_i hw
      rw [if_pos hw] at h
      rcases h with h | ⟨-, b, w1, h⟩
      · exact opIn_of_wp (hd i o ho) hK h
      · exact h.elim
    · rename_i hw
      rw [if_neg hw] at h
      exact ⟨fun _ _ => trivial, hK _ _ h⟩
theorem anyIn_of_any {P : Program} {md : Region.Mode} {ops : Array Oper} {l n : Nat} {K : Act → World → Prop} {Q : Exit → Act → World → Prop} (hd : ∀ (i : Nat) (o : Oper), ops[i]? = some o → ∀ c : Call, o.op ≠ .defer c) : ∀ (f : Nat) (listed : Array Bool) (a : Act) (w : World),
    wpAny P md ops (Exit.then K (fun _ _ _ => False)) f listed a w → wpAnyIn (Fence.wide.inRound l) n P md ops (Exit.then K Q) f listed a w
  | 0, _, _, _, h => h
  | f + 1, _, _, _, h => ⟨h.1, fun i hi => opIn_any hd (fun a w => anyIn_of_any hd f _ a w) (h.2 i hi)⟩
theorem wpIn_region_of {P : Program} {id l n : Nat} {ls : List Oper} {a : Act} {w : World} {K : Act → World → Prop} {Q : Exit → Act → World → Prop} (hm : P.follows .mixedOrders = true) (hd : (ls.all fun o => match o.op with | .defer _ => false | _ => true) = true)
    (N : Nat) (hn : N = ls.toArray.size) (listed : Array Bool) (hl : listed = Array.replicate N false) (h : wpAny P .any ls.toArray (Exit.then K (fun _ _ _ => False)) N listed a w.drew) : (Code.region id ls.toArray true).wpIn (Fence.wide.inRound l) n P (Exit.then K Q) a w := by
  subst hn hl
  refine wpIn_region_any hm (anyIn_of_any (fun i o ho c hc => ?_) _ _ _ _ h)
  have hmem : o ∈ ls := by
    have := Array.mem_of_getElem? ho
    simpa using this
  have := List.all_eq_true.1 hd o hmem
  rw [hc] at this
  cases this
theorem wpIn_region_last {P : Program} {id l n : Nat} {ls : List Oper} {a : Act} {w : World} {Q : Exit → Act → World → Prop} (hm : P.follows .mixedOrders = true) (hd : (ls.all fun o => match o.op with | .defer _ => false | _ => true) = true)
    (N : Nat) (hn : N = ls.toArray.size) (listed : Array Bool) (hl : listed = Array.replicate N false) (h : wpAny P .any ls.toArray (Exit.then (Q .normal) (fun _ _ _ => False)) N listed a w.drew) : (Code.region id ls.toArray true).wpIn (Fence.wide.inRound l) n P Q a w :=
  wpIn_mono (wpIn_region_of (Q := fun _ _ _ => False) hm hd N hn listed hl h) (by intro e a w h; cases e <;> first | exact h | exact h.elim)
end Go.Proofs.Ytnibllkcacalhaa
namespace Go.Proofs.Ytnibllkcacalhaa
set_option maxRecDepth 100000
open Go.RowKit Go.Shelf
attribute [local go_sem] Oper.semAt_some
/-- A slice of pipes in memory of its own, from nb on. -/
def PR (w : World) (nb : Nat) (v : Value) (ps : List Pk) : Prop :=
  w.ownsRow nb 52 3 v ps.length (ps.flatMap pCells) ∧ (∀ x ∈ ps, w.ownsRow nb 44 1 x.v x.p.ins.length (uv x.p.ins)) ∧ ps.Pairwise fun a b => ∀ q, a.v.ownBlock = some q → b.v.ownBlock ≠ some q
theorem PR.nil (w : World) (nb : Nat) : PR w nb (.slice none 0 0) [] := ⟨World.ownsRow_nil _ _ _ _, by simp, List.Pairwise.nil⟩
theorem PR.kept {w w' : World} {nb : Nat} {v : Value} {ps : List Pk} {K : Nat → Prop} (h : PR w nb v ps) (hF : Frm K w w') (h1 : ∀ q, v.ownBlock = some q → ¬ K q) (h2 : ∀ x ∈ ps, ∀ q, x.v.ownBlock = some q → ¬ K q) : PR w' nb v ps :=
  ⟨hF.own h.1 h1, fun x hx => hF.own (h.2.1 x hx) (h2 x hx), h.2.2⟩
theorem PR.keptF {w w' : World} {nb : Nat} {v : Value} {ps : List Pk} (h : PR w nb v ps) (hF : Frm (fun _ => False) w w') : PR w' nb v ps := h.kept hF (fun _ _ => id) fun _ _ _ _ => id
/-- A store elsewhere. -/
theorem PR.far {w : World} {nb g i : Nat} {t : TypeId} {cs : Array Value} {v u : Value} {ps : List Pk} (h : PR w nb v ps) (hb : Blk w g t cs) (h1 : 52 ≠ t) (h2 : 44 ≠ t) : PR (w.setCell ⟨g, i, none⟩ u) nb v ps :=
  h.kept ((Frm.refl (fun q => q = g) w).setCell ⟨g, i, none⟩ (.inl rfl) _) (fun _ hq hk => own_blk_ne h.1 hb h1 (by rw [hq, hk])) fun x hx _ hq hk => own_blk_ne (h.2.1 x hx) hb h2 (by rw [hq, hk])
theorem PR.form {w : World} {nb : Nat} {v : Value} {ps : List Pk} (h : PR w nb v ps) : ∃ A c, v = .slice A ps.length c ∧ ps.length ≤ c ∧ c ≤ 9223372036854775807 := own_form h.1
theorem p_one {w : World} {nb : Nat} {v : Value} {ps : List Pk} (h : PR w nb v ps) : ∀ u ∈ ps.flatMap pCells, u.oneCell' = true := by
  intro u hu
  obtain ⟨x, hx, hu⟩ := List.mem_flatMap.1 hu
  obtain ⟨A, c, hv, -, -⟩ := own_form (h.2.1 x hx)
  simp only [pCells, List.mem_cons, List.not_mem_nil, or_false] at hu
  rcases hu with rfl | rfl | rfl
  · rfl
  · rw [hv]; rfl
  · rfl
theorem PR.at {w : World} {nb : Nat} {v : Value} {ps : List Pk} (h : PR w nb v ps) : PAt w (fun q => nb ≤ q ∧ q < w.heap.size) v ps :=
  ⟨SlZ.of_own h.1 fun q hq => World.ownsRow.lt h.1 q hq, fun x hx => (OSl.of_own (K := fun q => nb ≤ q ∧ q < w.heap.size) (h.2.1 x hx) fun q hq => World.ownsRow.lt (h.2.1 x hx) q hq).sl.mono fun q hq => hq.1⟩
/-- A block of plain cells, none frozen. -/
def UF (w : World) (q : Nat) : Prop := ∃ cs t, Blk w q t cs
theorem UF.of {w w' : World} {q : Nat} (h : UF w q) (e : w'.heap[q]? = w.heap[q]?) : UF w' q := by
  obtain ⟨cs, t, h⟩ := h
  exact ⟨cs, t, e.trans h⟩
theorem UF.own {w : World} {base n sz : Nat} {e : TypeId} {v : Value} {xs : List Value} (h : w.ownsRow base e sz v n xs) (q : Nat) (hq : v.ownBlock = some q) : base ≤ q ∧ q < w.heap.size ∧ UF w q := by
  obtain ⟨cs, hb⟩ := own_blk h q hq
  exact ⟨(World.ownsRow.lt h q hq).1, (World.ownsRow.lt h q hq).2, cs, _, hb⟩
theorem PR.atU {w : World} {nb : Nat} {v : Value} {ps : List Pk} (h : PR w nb v ps) : PAt w (fun q => nb ≤ q ∧ q < w.heap.size ∧ UF w q) v ps :=
  ⟨SlZ.of_own h.1 fun q hq => UF.own h.1 q hq, fun x hx => (OSl.of_own (K := fun q => nb ≤ q ∧ q < w.heap.size ∧ UF w q) (h.2.1 x hx) fun q hq => UF.own (h.2.1 x hx) q hq).sl.mono fun q hq => hq.1⟩
/-- One pipe more. -/
theorem PR.snoc {w w' : World} {nb : Nat} {v v' : Value} {ps : List Pk} {x : Pk} (h : PR w nb v ps) (hx : w.ownsRow nb 44 1 x.v x.p.ins.length (uv x.p.ins)) (hap : ∀ y ∈ ps, ∀ q, y.v.ownBlock = some q → x.v.ownBlock ≠ some q)
    (ho : w'.ownsRow nb 52 3 v' (ps.length + 1) (ps.flatMap pCells ++ pCells x)) (hF : Frm (fun q => v.ownBlock = some q) w w') : PR w' nb v' (ps ++ [x]) := by
  refine ⟨by rw [List.flatMap_append, List.length_append]; simpa using ho, fun y hy => ?_, ?_⟩
  · rcases List.mem_append.1 hy with hy | hy
    · exact hF.own (h.2.1 y hy) fun q hq hk => by
        obtain ⟨cs, hb⟩ := own_blk h.1 q hk
        exact own_blk_ne (h.2.1 y hy) hb (by decide) hq
    · simp at hy
      subst hy
      exact hF.own hx fun q hq hk => by
        obtain ⟨cs, hb⟩ := own_blk h.1 q hk
        exact own_blk_ne hx hb (by decide) hq
  · rw [List.pairwise_append]
    exact ⟨h.2.2, by simp, fun a ha b hb => by simp at hb; subst hb; exact hap a ha⟩
/-- A region that draws, in the widest fence, that ends as it should. -/
theorem wpIn_only {P : Program} {n : Nat} {c : Code} {K : Act → World → Prop} {Q : Exit → Act → World → Prop} {a : Act} {w : World} (h : c.wp P (Exit.then K (fun _ _ _ => False)) a w) : c.wpIn Fence.wide n P (Exit.then K Q) a w :=
  wpIn_wide.2 (wp_mono h (by intro e a w h; cases e <;> first | exact h | exact h.elim))
theorem infoP : (Try.prog.info? 52).map (fun i => (i.zero, i.size, i.bytes)) = some (some (.agg #[.int .i64 0, .slice none 0 0, .bool false]), 3, 40) := by kernel_rfl
theorem SlZ.blk3 (w : World) (x0 x1 x2 : Value) (t : TypeId) : SlZ (w.alloc (.cells #[x0, x1, x2] t)) (fun k => k = w.heap.size) 3 (.slice (some ⟨w.heap.size, 0, none⟩) 1 1) [x0, x1, x2] :=
  ⟨_, 1, 1, rfl, rfl, Nat.le_refl _, by omega, .inr ⟨_, 0, rfl, rfl, fun i hi => by
    rw [cell_of_row _ _ _ #[x0, x1, x2] t (0, 0) (heap_alloc_new w _), Nat.zero_add, ← Array.getElem?_toList]
    exact List.getElem?_eq_getElem hi⟩⟩
theorem not_row {X : World} {g : Nat} {t : TypeId} {cs : Array Value} {row : Option Nat} (hb : Blk X g t cs) (hr : ∀ r, row = some r → ∃ o, X.heap[r]? = some o ∧ o.isCells = false) : ¬ row = some g := fun e => by
  obtain ⟨o, ho, hc⟩ := hr g e
  rw [show X.heap[g]? = _ from hb] at ho
  cases ho
  cases hc
/-- The work. -/
def WkAt (w : World) (b nb : Nat) (c : Ch) (ps : List Pk) (vr vp : Value) : Prop :=
  Blk w b 98 #[vr, .int .i64 c.at_, .int .u32 c.sum, .int .i64 c.wrong, vp] ∧ w.ownsRow nb 49 3 vr c.row.length (c.row.flatMap eCells) ∧ PR w nb vp ps
theorem WkAt.grown {X Y : World} {b nb : Nat} {c : Ch} {ps : List Pk} {vr vp : Value} {row : Option Nat} (h : WkAt X b nb c ps vr vp) (hg : X.grownBy Y row) (hr : ∀ r, row = some r → ∃ o, X.heap[r]? = some o ∧ o.isCells = false) : WkAt Y b nb c ps vr vp := by
  have hF := Frm.of_grown hg
  refine ⟨h.1.kept hF (not_row h.1 hr), hF.own h.2.1 fun q hq hk => ?_, h.2.2.kept hF (fun q hq hk => ?_) fun x hx q hq hk => ?_⟩
  · obtain ⟨cs, hb⟩ := own_blk h.2.1 q hq
    exact not_row hb hr hk
  · obtain ⟨cs, hb⟩ := own_blk h.2.2.1 q hq
    exact not_row hb hr hk
  · obtain ⟨cs, hb⟩ := own_blk (h.2.2.2.1 x hx) q hq
    exact not_row hb hr hk
theorem WkAt.keptF {X Y : World} {b nb : Nat} {c : Ch} {ps : List Pk} {vr vp : Value} (h : WkAt X b nb c ps vr vp) (hF : Frm (fun _ => False) X Y) : WkAt Y b nb c ps vr vp :=
  ⟨h.1.kept hF id, hF.own h.2.1 fun _ _ => id, h.2.2.keptF hF⟩
theorem WkAt.far {w : World} {b nb g i : Nat} {c : Ch} {ps : List Pk} {vr vp u : Value} {cs : Array Value} (h : WkAt w b nb c ps vr vp) (hb : Blk w g 52 cs) (hne : vp.ownBlock ≠ some g) : WkAt (w.setCell ⟨g, i, none⟩ u) b nb c ps vr vp := by
  have hF : Frm (fun q => q = g) w (w.setCell ⟨g, i, none⟩ u) := (Frm.refl (fun q => q = g) w).setCell ⟨g, i, none⟩ (.inl rfl) _
  exact ⟨h.1.kept hF (h.1.ne_ hb (by decide)), hF.own h.2.1 fun q hq hk => own_blk_ne h.2.1 hb (by decide) (by rw [hq, hk]), h.2.2.kept hF (fun q hq hk => hne (by rw [hq, hk])) fun x hx q hq hk => own_blk_ne (h.2.2.2.1 x hx) hb (by decide) (by rw [hq, hk])⟩
/-- The pipes are told anew, with one more. -/
theorem WkAt.more {w w' : World} {b nb : Nat} {c : Ch} {ps : List Pk} {vr vp v' : Value} {x : Pk} (h : WkAt w b nb c ps vr vp) (hx : w.ownsRow nb 44 1 x.v x.p.ins.length (uv x.p.ins)) (hap : ∀ y ∈ ps, ∀ q, y.v.ownBlock = some q → x.v.ownBlock ≠ some q)
    (ho : w'.ownsRow nb 52 3 v' (ps.length + 1) (ps.flatMap pCells ++ pCells x)) (hF : Frm (fun q => vp.ownBlock = some q) w w') : WkAt (w'.setCell ⟨b, 4, none⟩ v') b nb c (ps ++ [x]) vr v' := by
  have hb' : Blk w' b 98 #[vr, .int .i64 c.at_, .int .u32 c.sum, .int .i64 c.wrong, vp] := h.1.kept hF fun hk => own_blk_ne h.2.2.1 h.1 (by decide) hk
  have hFs : Frm (fun q => q = b) w' (w'.setCell ⟨b, 4, none⟩ v') := (Frm.refl (fun q => q = b) w').setCell ⟨b, 4, none⟩ (.inl rfl) _
  have hr' := hF.own h.2.1 fun q hq hk => by
    obtain ⟨cs, hb⟩ := own_blk h.2.2.1 q hk
    exact own_blk_ne h.2.1 hb (by decide) hq
  have hp' := h.2.2.snoc hx hap ho hF
  exact ⟨hb'.set_ 4 _, hFs.own hr' fun q hq hk => own_blk_ne hr' hb' (by decide) (by rw [hq, hk]), hp'.far hb' (by decide) (by decide)⟩
theorem Frm.others {w w' : World} (hF : Frm (fun _ => False) w w') : KeepsOthers w w' := ⟨hF.size, fun k o hk _ => (hF.block k (lt_heap hk) id).trans hk⟩
theorem Sl.toZ {w : World} {K : Nat → Prop} {v : Value} {xs : List Value} (h : Sl w K v xs) : SlZ w K 1 v xs := by
  obtain ⟨A, n, c, rfl, hn, hc, hm, hx⟩ := h
  exact ⟨A, n, c, rfl, by omega, hc, hm, hx⟩
theorem attach_p (ps : List Pk) : ps.attach.map (fun x => x.1.p) = ps.map (·.p) := by
  have h : (ps.attach.map (·.1)).map (·.p) = ps.map (·.p) := by rw [List.attach_map_subtype_val]
  rwa [List.map_map] at h
theorem own_fin {m D : Nat} {R : Ending → World → Prop} {W : World} {t : Array Value} {v : Value} (hK : W.heap[D]? = some (.deferred (some []))) (h4 : t.getD 4 undef = v) (hR : R (.returned v) (W.putObj D (.deferred none))) :
    bodyPostM Fence.wide m Try.prog Try.f72 R Exit.ret { tmps := t, defers := [{ target := .collected D, args := #[] }] } W := by
  refine ⟨by simp, .inl ⟨_, _, rfl, run_takeDeferred hK, ?_⟩⟩
  exact ⟨_, by simp [results, Try.results72, go_sem, -Array.getD_eq_getD_getElem?, h4], hR⟩
/-- The round's act in own. -/
def AxO (G B : Nat) (A A1 A2 : Option Addr) (n c n1 c1 c2 : Nat) (a s r : Int) (x : Pk) (a' : Act) (W : World) : Prop := ∃ g, (G + 3 ≤ g ∧ ∃ cs vp, Blk W (G + 1) 98 cs ∧ cs[4]? = some vp ∧ vp.ownBlock ≠ some g) ∧ Blk W g 52 #[.int .i64 x.p.room, x.v, .bool x.p.closed] ∧
  a' = { tmps := #[.agg #[.slice A n c, .int .i64 a, .int .u32 s, .int .i64 r], .slice A1 n1 c1, .pointer (some ⟨G, 0, none⟩), undef, .pointer none, .pointer (some ⟨G + 1 + 1, 0, none⟩), .pointer (some ⟨g, 0, none⟩), .agg #[.slice A n c, .int .i64 a, .int .u32 s, .int .i64 r], .agg #[.slice A n c, .int .i64 a, .int .u32 s, .int .i64 r, .slice none 0 0],
    .pointer (some ⟨G + 1, 0, none⟩), .pointer (some ⟨G + 1, 0, none⟩), .pointer (some ⟨G, 0, none⟩), .slice A n c, .slice A2 n c2, .pointer (some ⟨G + 1, 0, none⟩), .pointer (some ⟨G + 1, 0, none⟩), .pointer (some ⟨G + 1, 0, none⟩), .slice A1 n1 c1, .func (.func 78) #[] #[.pointer (some ⟨B, 0, none⟩)], pEnc x,
    undef, undef, undef, undef, undef, undef, undef, undef, undef, undef, undef, undef, undef, undef, undef], defers := [] }
set_option maxRecDepth 100000 in
set_option maxHeartbeats 2000000 in
theorem own_in (A : Option Addr) (n c : Nat) (a s r : Int) (es : List Er) (A1 : Option Addr) (n1 c1 : Nat) (ps : List Pk) (w : World) (h : RAt w (fun q => q < w.heap.size) (.slice A n c) es) (h1 : PAt w (fun q => q < w.heap.size) (.slice A1 n1 c1) ps) (hn : n ≤ 1000000) (hn1 : n1 ≤ 1000) (hin : ∀ p ∈ ps, p.p.ins.length ≤ 1000000) :
    CallsIn Fence.wide 4 Try.prog 72 #[.agg #[.slice A n c, .int .i64 a, .int .u32 s, .int .i64 r], .slice A1 n1 c1] w fun e w' => ∃ b ps' vr vp, e = .returned (.pointer (some ⟨b, 0, none⟩)) ∧ w.heap.size ≤ b ∧ WkAt w' b w.heap.size ⟨es, a, s, r⟩ ps' vr vp ∧ ps'.map (·.p) = ps.map (·.p) ∧ Frm (fun _ => False) w w' := by
  have hcl := fun (W : World) (hW : Frm (fun _ => False) w W) => clone_e (fun q => q < w.heap.size) (.slice A n c) (es.flatMap eCells) n W (h.keptTo fun q hq => ⟨hW.block q hq id, hq⟩) (by rw [flat3 eCells (fun _ => rfl), h.cells.1]) (fun q hq => Nat.lt_of_lt_of_le hq hW.size) (by
    intro u hu
    obtain ⟨x, hx, hu⟩ := List.mem_flatMap.1 hu
    simp only [eCells, List.mem_cons, List.not_mem_nil, or_false] at hu
    rcases hu with rfl | rfl | rfl <;> rfl) hn
  have H := Lib.hid (And.intro h (And.intro h1 (And.intro hcl (And.intro hn hin))))
  clear h h1 hcl hn hin
  refine callsIn_of_wp_marks Try.func72 rfl trivial ?_ rfl
  simp only [Try.ntmps72, List.size_toArray, List.length_cons, List.length_nil, Nat.reduceAdd, Nat.reduceSub, Array.replicate_succ, Array.replicate_zero, List.push_toArray, List.append_toArray, List.nil_append, List.cons_append]
  gi_wp2_with fail
  obtain ⟨W0, hW0⟩ : ∃ W, W = ((w.alloc (.cells #[.slice A n c, .int .i64 a, .int .u32 s, .int .i64 r] 46)).alloc (.cells #[.slice A n c, .int .i64 a, .int .u32 s, .int .i64 r, .slice none 0 0] 98)).alloc (.cells #[.pointer (some ⟨w.heap.size + 1, 0, none⟩)] 95) := ⟨_, rfl⟩
  rw [← hW0]
  have hF0 : Frm (fun _ => False) w W0 := by rw [hW0]; exact (((Frm.refl _ w).alloc _).alloc _).alloc _
  have hb0 : Blk W0 w.heap.size 46 #[.slice A n c, .int .i64 a, .int .u32 s, .int .i64 r] := by rw [hW0]; exact ((Blk.new w _ _).alloc _).alloc _
  have hb1 : Blk W0 (w.heap.size + 1) 98 #[.slice A n c, .int .i64 a, .int .u32 s, .int .i64 r, .slice none 0 0] := by
    rw [hW0]
    have := (Blk.new (w.alloc (.cells #[.slice A n c, .int .i64 a, .int .u32 s, .int .i64 r] 46)) 98 #[.slice A n c, .int .i64 a, .int .u32 s, .int .i64 r, .slice none 0 0]).alloc (.cells #[.pointer (some ⟨w.heap.size + 1, 0, none⟩)] 95)
    rwa [World.size_alloc] at this
  have hb2 : Blk W0 (w.heap.size + 1 + 1) 95 #[.pointer (some ⟨w.heap.size + 1, 0, none⟩)] := by
    rw [hW0]
    have := Blk.new ((w.alloc (.cells #[.slice A n c, .int .i64 a, .int .u32 s, .int .i64 r] 46)).alloc (.cells #[.slice A n c, .int .i64 a, .int .u32 s, .int .i64 r, .slice none 0 0] 98)) 95 #[.pointer (some ⟨w.heap.size + 1, 0, none⟩)]
    rwa [World.size_alloc, World.size_alloc] at this
  have hs0 : W0.heap.size = w.heap.size + 3 := by rw [hW0]; simp
  clear hW0
  obtain ⟨G, hG⟩ : ∃ G, G = w.heap.size := ⟨_, rfl⟩
  rw [← hG] at hb0 hb1 hb2 hs0 ⊢
  have c0 : W0.cell? ⟨G, 0, none⟩ = some (.slice A n c) := hb0.cell 0
  have c5 : W0.cell? ⟨G + 1 + 1, 0, none⟩ = some (.pointer (some ⟨G + 1, 0, none⟩)) := hb2.cell 0
  have f1 := hb1.frozen 0
  have H0 := Lib.hid (And.intro hF0 (And.intro hb0 (And.intro hb1 (And.intro hb2 (And.intro hs0 hG)))))
  clear hF0 hb0 hb1 hb2 hs0 hG
  refine wpIn_only ?_
  go_region_law
    (refine step_call (by rfl) (H.out.2.2.1 _ (by exact H0.out.1.drew)) _ _ (by rfl) (args1 (by rfl)) (Try.call54 _ _) ?_; rintro e w2 ⟨v2, rfl, ho2, hF2⟩; obtain ⟨A2, c2, rfl, -, -⟩ := own_form ho2; refine ⟨_, rfl, ?_⟩; replace hF2 := ((Frm.refl (fun _ => False) W0).drew).trans hF2 fun _ h => h.elim; have d5 := hF2.cell c5 id; have hw2 := H0.out.2.2.1.kept hF2 id; have g1 := hw2.frozen 0; have g0 : w2.cell? ⟨G + 1, 0, none⟩ = some (.slice A n c) := hw2.cell 0; have H2 := Lib.hid (And.intro ho2 hF2); clear ho2 hF2 hw2)
  all_goals
    gi_wp2_with fail
    refine ⟨trivial, ?_⟩
    refine (callsIn_wide.2 (each_any A1 n1 c1 _)).mono ?_
    rintro e w' ⟨rfl, rfl⟩
    have hes : n = es.length := H.out.1.cells.1
    have hps : n1 = ps.length := H.out.2.1.cells.1
    have hF3 : Frm (fun q => q = G + 1) w2 (w2.setCell ⟨G + 1, 0, none⟩ (.slice A2 n c2)) := (Frm.refl (fun q => q = G + 1) w2).setCell ⟨G + 1, 0, none⟩ (.inl rfl) _
    have hw3 : Blk (w2.setCell ⟨G + 1, 0, none⟩ (.slice A2 n c2)) (G + 1) 98 #[.slice A2 n c2, .int .i64 a, .int .u32 s, .int .i64 r, .slice none 0 0] := (H0.out.2.2.1.kept H2.out.2 id).set_ 0 _
    have hp3 : Blk (w2.setCell ⟨G + 1, 0, none⟩ (.slice A2 n c2)) (G + 1 + 1) 95 #[.pointer (some ⟨G + 1, 0, none⟩)] := (H0.out.2.2.2.1.kept H2.out.2 id).kept hF3 (by omega)
    have ho3 : (w2.setCell ⟨G + 1, 0, none⟩ (.slice A2 n c2)).ownsRow G 49 3 (.slice A2 n c2) n (es.flatMap eCells) := hF3.own (World.ownsRow.mono H2.out.1 (by have := H0.out.2.2.2.2.1; simp; omega)) fun q hq hk => own_blk_ne H2.out.1 (H0.out.2.2.1.kept H2.out.2 id) (by decide) (by rw [hq, hk])
    have hFw3 : Frm (fun _ => False) w (w2.setCell ⟨G + 1, 0, none⟩ (.slice A2 n c2)) := (H0.out.1.trans H2.out.2 fun _ h => h.elim).trans hF3 fun q hq => .inr (by have := H0.out.2.2.2.2.2; omega)
    have hs3 : W0.heap.size ≤ (w2.setCell ⟨G + 1, 0, none⟩ (.slice A2 n c2)).heap.size := by have := H2.out.2.size; simpa using this
    generalize w2.setCell ⟨G + 1, 0, none⟩ (.slice A2 n c2) = w3 at *
    have hF4 : Frm (fun _ => False) w3 (w3.alloc (.cells #[.slice A1 n1 c1] 22)) := (Frm.refl _ w3).alloc _
    have hk4 : (w3.alloc (.cells #[.slice A1 n1 c1] 22)).cell? ⟨w3.heap.size, 0, none⟩ = some (.slice A1 n1 c1) := by
      have := World.cell?_alloc_new w3 #[.slice A1 n1 c1] 22 0
      simp at this ⊢
    have hs4 : (w3.alloc (.cells #[.slice A1 n1 c1] 22)).heap.size = w3.heap.size + 1 := by simp
    have hwk4 : WkAt (w3.alloc (.cells #[.slice A1 n1 c1] 22)) (G + 1) G ⟨es, a, s, r⟩ [] (.slice A2 n c2) (.slice none 0 0) := ⟨hw3.kept hF4 id, by have := hF4.own ho3 fun _ _ => id; rw [hes] at this ⊢; exact this, PR.nil _ _⟩
    have hpt4 := hp3.kept hF4 id
    have hFw4 := hFw3.trans hF4 fun _ h => h.elim
    generalize w3.alloc (.cells #[.slice A1 n1 c1] 22) = W4 at *
    obtain ⟨B, hB⟩ : ∃ B, B = w3.heap.size := ⟨_, rfl⟩
    rw [← hB] at hk4 hs4 ⊢
    have H4 := Lib.hid (And.intro hwk4 (And.intro hpt4 (And.intro hFw4 (And.intro hk4 (And.intro hs4 (And.intro (show G + 3 ≤ B by have := H0.out.2.2.2.2.1; omega) (And.intro hes hps)))))))
    clear hF3 hw3 hp3 ho3 hFw3 hF4 hk4 hs4 hwk4 hpt4 hFw4 hB hs3 H2 d5 g1 g0 c0 c5 f1 hes hps
    gi_wp2_with fail
    have hGw : w.heap.size = G := H0.out.2.2.2.2.2.symm
    refine wpIn_rangeFunc_ownH rfl (by omega) (gf := 78) (lb := #[.pointer (some ⟨B, 0, none⟩)]) rfl trivial (enters_of Try.func78 (by kernel_rfl) rfl)
      (each_stops (fun x : { x // x ∈ ps } => x.1) 3 (by omega) B w.heap.size n1 c1 A1 ps.attach (by omega) W4 (by have := H4.out.2.2.2.2.1; omega) H4.out.2.2.1.size H4.out.2.2.2.1 (by rw [List.attach_map_subtype_val]; exact H.out.2.1.keptTo fun q hq => ⟨H4.out.2.2.1.block q hq id, hq⟩)) belowK_t (belowK_b H4.out.2.2.1.size) (Below.refl _ _) (fun _ => rfl)
      (fun pre W => (∃ zs vp, WkAt W (G + 1) G ⟨es, a, s, r⟩ zs (.slice A2 n c2) vp ∧ zs.map (·.p) = pre.map (·.1.p) ∧ Blk W (G + 1 + 1) 95 #[.pointer (some ⟨G + 1, 0, none⟩)]) ∧ Below w.heap.size w W)
      (fun _ _ _ => False)
      (OwnFrom.and (Own.from (fun pre X Y row hs hg hr => by obtain ⟨zs, vp, h1, h2, h3⟩ := hs; exact ⟨zs, vp, h1.grown hg hr, h2, blk_kept h3 hg hr⟩) _) (ownFrom_below (Nat.le_refl _) H4.out.2.2.1.size))
      (fun _ _ _ _ _ hs => hs.elim)
      ⟨⟨[], _, H4.out.1, rfl, H4.out.2.1⟩, H4.out.2.2.1.below (Nat.le_refl _) fun _ h => h.elim⟩
      (fun x a' W => AxO G B A A1 A2 n c n1 c1 c2 a s r x.1 a' W) (fun x a' => Own.from (fun _ X Y row hs hg hr => by obtain ⟨g, ⟨h1, cs, vp, k1, k2, k3⟩, h2, h3⟩ := hs; exact ⟨g, ⟨h1, cs, vp, blk_kept k1 hg hr, k2, k3⟩, blk_kept h2 hg hr, h3⟩) _) ?assign ?body ?done ?stop
    case assign =>
      rintro l pre x W K ⟨⟨zs, vp, hWk, hzs, hpt⟩, hBW⟩ hK
      obtain ⟨a3, n3, c3, hv, -⟩ := H.out.2.1.2 x.1 x.2
      have hKK := fun a' (hA : a' = _) => hK a' (W.alloc (.cells #[.int .i64 x.1.p.room, x.1.v, .bool x.1.p.closed] 52)) ((KeepsOthers.alloc W _).from _) ((Below.refl _ W).alloc hBW.size _) ⟨⟨zs, vp, hWk.keptF ((Frm.refl _ W).alloc _), hzs, hpt.alloc _⟩, hBW.trans ((Below.refl _ W).alloc hBW.size _)⟩
        ⟨W.heap.size, ⟨by have := hpt.lt; omega, _, vp, hWk.1.alloc _, rfl, fun h => by have := (World.ownsRow.lt hWk.2.2.1 _ h).2; omega⟩, Blk.new W _ _, hA⟩
      unfold pEnc at hKK ⊢
      rw [hv] at hKK ⊢
      have HKK := Lib.hid hKK
      clear hKK hK hWk hzs hpt
      gi_wp2
      exact HKK.out _ rfl
    case body =>
      rintro l pre x a' W hl hrec ⟨⟨zs, vp, hWk, hzs, hpt⟩, hBW⟩ ⟨g, ⟨hg, cs, vp', k1, k2, k3⟩, hb, rfl⟩ hlen
      obtain rfl : vp = vp' := by
        have e1 := hWk.1
        unfold Blk at e1 k1
        rw [e1] at k1
        cases k1
        simpa using k2
      obtain ⟨a3, n3, c3, hv, hn3, -⟩ := id (H.out.2.1.2 x.1 x.2)
      have hin := H.out.2.2.2.2 x.1 x.2
      have hcu := clone_u (fun q => q < w.heap.size) x.1.v (uv x.1.p.ins) x.1.p.ins.length W ((H.out.2.1.2 x.1 x.2).toZ.keptTo fun q hq => ⟨hBW.block q hq, hq⟩) (by rw [uv_length]; omega) (fun q hq => Nat.lt_of_lt_of_le hq hBW.size) (uv_one _) hin
      have c1' := hb.cell 1
      simp only [List.getElem?_toArray, List.getElem?_cons_zero, List.getElem?_cons_succ] at c1'
      have hzl : zs.length < n1 := by have := congrArg List.length hzs; simp at this; have h2 : pre.length < n1 := hlen; omega
      have HB := Lib.hid (And.intro hWk (And.intro hzs (And.intro hpt (And.intro hBW (And.intro hg (And.intro hb (And.intro k3 (And.intro hcu hzl))))))))
      unfold pEnc
      rw [hv] at c1' ⊢
      rw [hv] at HB
      clear hWk hzs hpt hBW hg k1 k2 k3 hb hcu hn3 hin hrec hzl
      gi_wp2_with fail
      refine ⟨trivial, ?_⟩
      refine (callsIn_wide.2 HB.out.2.2.2.2.2.2.2.1).mono ?_
      rintro e W5 ⟨v5, rfl, ho5, hF5⟩
      obtain ⟨a5, c5, rfl, -, -⟩ := own_form ho5
      obtain ⟨L, hL⟩ : ∃ L, L = x.1.p.ins.length := ⟨_, rfl⟩
      rw [← hL] at ho5 ⊢
      have hb5 := HB.out.2.2.2.2.2.1.kept hF5 id
      have f5 := hb5.frozen 1
      have e5 : W5.cell? ⟨g, 1, none⟩ = some (.slice a3 n3 c3) := hb5.cell 1
      have hFs : Frm (fun q => q = g) W5 (W5.setCell ⟨g, 1, none⟩ (.slice a5 L c5)) := (Frm.refl (fun q => q = g) W5).setCell ⟨g, 1, none⟩ (.inl rfl) _
      have hWk6 : WkAt (W5.setCell ⟨g, 1, none⟩ (.slice a5 L c5)) (G + 1) G ⟨es, a, s, r⟩ zs (.slice A2 n c2) vp := (HB.out.1.keptF hF5).far hb5 HB.out.2.2.2.2.2.2.1
      have hb6 : Blk (W5.setCell ⟨g, 1, none⟩ (.slice a5 L c5)) g 52 #[.int .i64 x.1.p.room, .slice a5 L c5, .bool x.1.p.closed] := hb5.set_ 1 _
      have hpt6 : Blk (W5.setCell ⟨g, 1, none⟩ (.slice a5 L c5)) (G + 1 + 1) 95 #[.pointer (some ⟨G + 1, 0, none⟩)] := (HB.out.2.2.1.kept hF5 id).kept hFs (by have := HB.out.2.2.2.2.1; omega)
      have hGW : G ≤ W.heap.size := by have := HB.out.2.2.1.lt; omega
      have ho6 : (W5.setCell ⟨g, 1, none⟩ (.slice a5 L c5)).ownsRow G 44 1 (.slice a5 L c5) L (uv x.1.p.ins) := hFs.own (World.ownsRow.mono ho5 hGW) fun q hq hk => own_blk_ne ho5 hb5 (by decide) (by rw [hq, hk])
      have hv5 : ∀ q, (Value.slice a5 L c5).ownBlock = some q → W.heap.size ≤ q := fun q hq => (World.ownsRow.lt ho5 q hq).1
      have hap : ∀ y ∈ zs, ∀ q, y.v.ownBlock = some q → (Value.slice a5 L c5).ownBlock ≠ some q := fun y hy q hq hk => by
        have h1 := (World.ownsRow.lt (HB.out.1.2.2.2.1 y hy) q hq).2
        have h2 := hv5 q hk
        omega
      have hKo6 : KeepsOthers W (W5.setCell ⟨g, 1, none⟩ (.slice a5 L c5)) := hF5.others.trans (KeepsOthers.setCell _ _ _)
      have hBe6 : Below w.heap.size W (W5.setCell ⟨g, 1, none⟩ (.slice a5 L c5)) := (hF5.below (by omega) fun _ h => h.elim).trans ((Below.refl _ W5).setCell (p := ⟨g, 1, none⟩) (by have := HB.out.2.2.2.2.1; show w.heap.size ≤ g; omega) _)
      have H5 := Lib.hid (And.intro hWk6 (And.intro hb6 (And.intro hpt6 (And.intro ho6 (And.intro hap (And.intro hKo6 (And.intro hBe6 hL)))))))
      clear hb5 hFs hWk6 hb6 hpt6 ho6 hv5 hap hKo6 hBe6 hL ho5 hF5 c1'
      gi_wp2_with fail
      generalize W5.setCell ⟨g, 1, none⟩ (.slice a5 L c5) = W6 at *
      clear f5 e5
      obtain ⟨Av, cv, rfl, -, -⟩ := H5.out.1.2.2.form
      obtain ⟨Nz, hNz⟩ : ∃ Nz, Nz = zs.length := ⟨_, rfl⟩
      have p5 : W6.cell? ⟨G + 1 + 1, 0, none⟩ = some (.pointer (some ⟨G + 1, 0, none⟩)) := H5.out.2.2.1.cell 0
      have q4 : W6.cell? ⟨G + 1, 4, none⟩ = some (.slice Av Nz cv) := by rw [hNz]; exact H5.out.1.1.cell 4
      have b0 : W6.cell? ⟨g, 0, none⟩ = some (.int .i64 x.1.p.room) := H5.out.2.1.cell 0
      have b1 : W6.cell? ⟨g, 1, none⟩ = some (.slice a5 L c5) := H5.out.2.1.cell 1
      have b2 : W6.cell? ⟨g, 2, none⟩ = some (.bool x.1.p.closed) := H5.out.2.1.cell 2
      have hFa : Frm (fun _ => False) W6 (W6.drew.alloc (.cells #[.int .i64 x.1.p.room, .slice a5 L c5, .bool x.1.p.closed] 52)) := (Frm.refl _ W6).drew.alloc _
      have hzn : Nz ≤ 1000 := by have := HB.out.2.2.2.2.2.2.2.2; omega
      obtain ⟨i0, hi, hz0, hz1, hz2⟩ := info_parts infoP
      have H6 := Lib.hid (And.intro hFa hNz)
      clear hFa hNz
      refine wpIn_region_last (ls := oops) (by kernel_rfl) (by kernel_rfl) 11 (by kernel_rfl) _ (by rfl) ?_
      refine own_reg _ _ _ _ _ _ _ _ _ _ _ _ _ _ _ _ _ _ _ _ _ _ G g W6 Av Nz cv x.1.p.room a5 L c5 x.1.p.closed p5 q4 b0 b1 b2
        (fun A8 N8 c8 W8 => (N8 = Nz + 1 ∧ W8.ownsRow G 52 3 (.slice A8 N8 c8) N8 (zs.flatMap pCells ++ [.int .i64 x.1.p.room, .slice a5 L c5, .bool x.1.p.closed]) ∧ (W6.drew.alloc (.cells #[.int .i64 x.1.p.room, .slice a5 L c5, .bool x.1.p.closed] 52)).grownBy W8 (Value.slice Av Nz cv).ownBlock) ∧ W8.cell? ⟨G + 1 + 1, 0, none⟩ = some (.pointer (some ⟨G + 1, 0, none⟩)) ∧ W8.cell? ⟨G + 1, 4, none⟩ = some (.slice Av Nz cv) ∧ W8.frozen? ⟨G + 1, 4, none⟩ = false) (fun _ _ _ _ h => h.2) ?happ ?hfin
      case happ =>
        intro a' Q' e28 e30 hnext
        refine wpList_append_slz (by rfl) (.tmp 28) (.tmp 30) 22 (by rfl) G 52 i0 _ 3 40 Try.underlying22 hi hz0 hz1 hz2 (by rfl) (by decide) _ Nz (zs.flatMap pCells) e28 (by rw [H6.out.2]; exact H6.out.1.own H5.out.1.2.2.1 fun _ _ => id) (fun q => q = W6.heap.size) _ 1 [.int .i64 x.1.p.room, .slice a5 L c5, .bool x.1.p.closed] e30 (SlZ.blk3 W6.drew _ _ _ _) rfl (by intro u hu; simp only [List.mem_cons, List.not_mem_nil, or_false] at hu; rcases hu with rfl | rfl | rfl <;> rfl) (by unfold maxLen; omega) (by omega) (by have := H5.out.2.2.1.lt; simp; omega) ?_
        intro A8 N8 c8 W8 HN8 hNc8 hc8 hown8 hg8 hat8
        have hF8 : Frm (fun q => (Value.slice Av Nz cv).ownBlock = some q) W6 W8 := (H6.out.1.mono fun _ h => h.elim).trans (Frm.of_grown hg8) fun q hq => .inl hq
        have hne : ∀ t cs q, Blk W6 q t cs → 52 ≠ t → ¬ (Value.slice Av Nz cv).ownBlock = some q := fun t cs q hb ht hk => own_blk_ne H5.out.1.2.2.1 hb ht (by rw [← hk, H6.out.2])
        have hw8 := H5.out.1.1.kept hF8 (hne _ _ _ H5.out.1.1 (by decide))
        have hp8 := H5.out.2.2.1.kept hF8 (hne _ _ _ H5.out.2.2.1 (by decide))
        exact hnext A8 N8 c8 W8 ⟨⟨HN8.out, hown8, hg8⟩, hp8.cell 0, by rw [H6.out.2]; exact hw8.cell 4, hw8.frozen 4⟩
      case hfin =>
        rintro A8 N8 c8 W8 ⟨⟨rfl, ho8, hg8⟩, -, -, -⟩
        have hF8 : Frm (fun q => (Value.slice Av Nz cv).ownBlock = some q) W6 W8 := (H6.out.1.mono fun _ h => h.elim).trans (Frm.of_grown hg8) fun q hq => .inl hq
        have hwm : WkAt (W8.setCell ⟨G + 1, 4, none⟩ (.slice A8 (Nz + 1) c8)) (G + 1) G ⟨es, a, s, r⟩ (zs ++ [⟨.slice a5 L c5, x.1.p⟩]) (.slice A2 n c2) (.slice A8 (Nz + 1) c8) := WkAt.more (x := ⟨.slice a5 L c5, x.1.p⟩) H5.out.1 (by have := H5.out.2.2.2.1; rw [H5.out.2.2.2.2.2.2.2] at this ⊢; exact this) H5.out.2.2.2.2.1 (by have e : zs.length = Nz := H6.out.2.symm; rw [e]; exact ho8) (by have := hF8; rw [H6.out.2] at this; exact this)
        have hpt9 : Blk (W8.setCell ⟨G + 1, 4, none⟩ (.slice A8 (Nz + 1) c8)) (G + 1 + 1) 95 #[.pointer (some ⟨G + 1, 0, none⟩)] := (H5.out.2.2.1.kept hF8 (fun hk => own_blk_ne H5.out.1.2.2.1 H5.out.2.2.1 (by decide) (by rw [← hk, H6.out.2]))).far (by show G + 1 + 1 ≠ G + 1; omega) _
        have hKo : KeepsOthers W (W8.setCell ⟨G + 1, 4, none⟩ (.slice A8 (Nz + 1) c8)) := (H5.out.2.2.2.2.2.1.trans (H6.out.1.others.trans (KeepsOthers.of_grownBy hg8 fun j o hj ho => by
          obtain ⟨cs, hb⟩ := own_blk (H6.out.1.own H5.out.1.2.2.1 fun _ _ => id) j (by rw [← H6.out.2]; exact hj)
          rw [show _ = _ from hb] at ho
          cases ho
          rfl))).trans (KeepsOthers.setCell _ _ _)
        have hBe : Below w.heap.size W (W8.setCell ⟨G + 1, 4, none⟩ (.slice A8 (Nz + 1) c8)) := (H5.out.2.2.2.2.2.2.1.trans (hF8.below (by have := H5.out.2.2.1.lt; omega) fun q hq => by
          have := World.ownsRow.lt H5.out.1.2.2.1 q (by rw [← H6.out.2]; exact hq)
          omega)).trans ((Below.refl _ W8).setCell (p := ⟨G + 1, 4, none⟩) (by show w.heap.size ≤ G + 1; omega) _)
        have HZ := Lib.hid (And.intro hwm (And.intro hpt9 (And.intro hKo hBe)))
        clear hwm hpt9 hKo hBe ho8 hg8 hF8
        gi_wp2_with fail
        exact ⟨HZ.out.2.2.1.from _, HZ.out.2.2.2, ⟨_, _, HZ.out.1, by rw [List.map_append, HB.out.2.1]; simp, HZ.out.2.1⟩, HB.out.2.2.2.1.trans HZ.out.2.2.2⟩
    case done =>
      rintro D ys W hD rfl ⟨⟨zs, vp, hWk, hzs, hpt⟩, hBW⟩ hK
      have p5 : W.cell? ⟨G + 1 + 1, 0, none⟩ = some (.pointer (some ⟨G + 1, 0, none⟩)) := hpt.cell 0
      have HB := Lib.hid (And.intro hWk (And.intro hzs (And.intro hBW hK)))
      clear hWk hzs hpt hBW hK
      gi_wp2_with fail
      refine own_fin (D := D) HB.out.2.2.2 (v := .pointer (some ⟨G + 1, 0, none⟩)) rfl ?_
      have hDl : w.heap.size ≤ D := Nat.le_trans H4.out.2.2.1.size hD
      exact ⟨G + 1, zs, _, vp, rfl, by omega, by rw [hGw]; exact HB.out.1.grown (grownBy_putObj' W D (.deferred none)) (fun r' e => by cases e; exact ⟨_, HB.out.2.2.2, rfl⟩), by rw [HB.out.2.1]; exact attach_p ps, Frm.of_below (HB.out.2.2.1.trans (belowK_b (w := w) (Nat.le_refl _) W D _ _ hDl HB.out.2.2.2 rfl rfl))⟩
    case stop =>
      rintro D cc pre W _ _ h _
      exact h.elim
theorem own_any (A : Option Addr) (n c : Nat) (a s r : Int) (es : List Er) (A1 : Option Addr) (n1 c1 : Nat) (ps : List Pk) (w : World) (h : RAt w (fun q => q < w.heap.size) (.slice A n c) es) (h1 : PAt w (fun q => q < w.heap.size) (.slice A1 n1 c1) ps) (hn : n ≤ 1000000) (hn1 : n1 ≤ 1000) (hin : ∀ p ∈ ps, p.p.ins.length ≤ 1000000) :
    Calls Try.prog 72 #[.agg #[.slice A n c, .int .i64 a, .int .u32 s, .int .i64 r], .slice A1 n1 c1] w fun e w' => ∃ b ps' vr vp, e = .returned (.pointer (some ⟨b, 0, none⟩)) ∧ w.heap.size ≤ b ∧ WkAt w' b w.heap.size ⟨es, a, s, r⟩ ps' vr vp ∧ ps'.map (·.p) = ps.map (·.p) ∧ Frm (fun _ => False) w w' :=
  callsIn_wide.1 (own_in A n c a s r es A1 n1 c1 ps w h h1 hn hn1 hin)
end Go.Proofs.Ytnibllkcacalhaa
namespace Go.Proofs.Ytnibllkcacalhaa
set_option maxRecDepth 100000
open Go.RowKit
theorem PR.mono {w : World} {nb nb' : Nat} {v : Value} {ps : List Pk} (h : PR w nb v ps) (hb : nb' ≤ nb) : PR w nb' v ps :=
  ⟨World.ownsRow.mono h.1 hb, fun x hx => World.ownsRow.mono (h.2.1 x hx) hb, h.2.2⟩
def OwnpPost (ps : List Pk) (w : World) (e : Ending) (w' : World) : Prop := ∃ A N c ps', e = .returned (.slice A N c) ∧ PR w' w.heap.size (.slice A N c) ps' ∧ N = ps.length ∧ N ≤ c ∧ c ≤ 9223372036854775807 ∧ ps'.map (·.p) = ps.map (·.p) ∧ Frm (fun _ => False) w w'
set_option maxHeartbeats 1600000 in
theorem ownp_any (A : Option Addr) (n c : Nat) (ps : List Pk) (w : World) (h : PAt w (fun q => q < w.heap.size) (.slice A n c) ps) (hn : n ≤ 1000) (hin : ∀ p ∈ ps, p.p.ins.length ≤ 1000000) :
    Calls Try.prog 52 #[.slice A n c] w (OwnpPost ps w) := by
  obtain ⟨hps, hnc, hcm, hcs⟩ := h.cells
  have H := Lib.hid (And.intro hps (And.intro hcs (And.intro h.2 hin)))
  clear h hps hcs hin
  obtain ⟨iu, hu, hu0, hu1, hu2⟩ := infoCu'
  obtain ⟨i0, hi, hz0, hz1, hz2⟩ := info_parts infoP
  go_enter Try.func52, Try.ntmps52
  go_wp2_with fail
  go_loopw [3, 4] (fun o i wr => ∃ (k : Nat) (Av : Option Addr) (cv : Nat), k ≤ n ∧ i = .int .i64 k ∧ o = .slice Av k cv ∧ Hid (∃ zs, PR wr w.heap.size (.slice Av k cv) zs ∧ zs.map (·.p) = (ps.map (·.p)).take k ∧ Frm (fun _ => False) w wr)) (fun _ i _ => n - (intOf i).toNat)
  case atStart => exact ⟨0, none, 0, Nat.zero_le _, rfl, rfl, Lib.hid ⟨[], PR.nil _ _, rfl, Frm.refl _ _⟩⟩
  case round =>
    obtain ⟨k, Av, cv, hk, rfl, rfl, hT⟩ := hrel
    by_cases hlt : k < n
    · obtain ⟨hps, hcs, hsl, hin⟩ := H.out
      obtain ⟨zs, hPR, hzs, hF⟩ := hT.out
      have hkx : k < ps.length := by omega
      obtain ⟨g, o, rfl, hg, d0, d1, d2⟩ := hcs k hkx
      have sa := hsl ps[k] (List.getElem_mem hkx)
      have hl := hin ps[k] (List.getElem_mem hkx)
      have hts : (ps.map (·.p)).take (k + 1) = (ps.map (·.p)).take k ++ [ps[k].p] := by rw [List.take_succ_eq_append_getElem (by simpa using hkx)]; simp
      obtain ⟨x, hxk⟩ : ∃ x, x = ps[k] := ⟨_, rfl⟩
      rw [← hxk] at d0 d1 d2 sa hl hts
      obtain ⟨vx, r, l, b⟩ := x
      obtain ⟨A5, n5, c5, e5, hn5, -⟩ := id sa
      dsimp only at *
      subst e5
      replace d0 := hF.cell d0 id
      replace d1 := hF.cell d1 id
      replace d2 := hF.cell d2 id
      have hzl : zs.length = k := by have := congrArg List.length hzs; simp at this; omega
      have HS := Lib.hid (And.intro sa (And.intro hl (And.intro hts (And.intro hPR (And.intro hzs (And.intro hF hzl))))))
      clear hps hcs hsl hin hPR hzs hF hkx hg sa hl hts hxk hn5 hzl hT
      go_upto_region 6 with fail
      obtain ⟨W5, hW5⟩ : ∃ W, W = wr.alloc (.cells #[.int .i64 r, .slice A5 n5 c5, .bool b] 52) := ⟨_, rfl⟩
      rw [← hW5]
      have hF5 : Frm (fun _ => False) wr W5 := by rw [hW5]; exact (Frm.refl _ wr).alloc _
      have hb5 : Blk W5 wr.heap.size 52 #[.int .i64 r, .slice A5 n5 c5, .bool b] := by rw [hW5]; exact Blk.new wr _ _
      clear hW5 d0 d1 d2
      obtain ⟨gp, hgp⟩ : ∃ g, g = wr.heap.size := ⟨_, rfl⟩
      rw [← hgp] at hb5 ⊢
      have p1 : (W5.alloc (.cells #[] 44)).cell? ⟨gp, 1, none⟩ = some (.slice A5 n5 c5) := (hb5.alloc _).cell 1
      have H5 := Lib.hid (And.intro hF5 (And.intro hb5 hgp))
      clear hF5 hb5 hgp
      go_upto_region 7 with (at_builtin; go_loud (refine wpList_append_sl (by rfl) _ _ 50 (by rfl) W5.heap.size 44 iu (.int .u32 0) 4 Try.underlying50 hu hu0 hu1 hu2 (by rfl) _ 0 [] (by rfl) (own_new0 rfl (Nat.le_refl _)) (fun q => q < w.heap.size) _ (uv l) (by rfl) (by exact HS.out.1.keptTo fun q hq => ⟨((HS.out.2.2.2.2.2.1.trans H5.out.1 fun _ h => h.elim).alloc _).block q hq id, hq⟩) (uv_one l) (by unfold maxLen; rw [uv_length]; have := HS.out.2.1; omega) (by rw [uv_length]; have := HS.out.2.1; omega) (by simp) ?_); go_loud (intro A6 N6 c6 W6 HN6 hNc6 hc6 hown6 hg6 hat6; have hF6 : Frm (fun _ => False) W5 W6 := ((Frm.refl _ W5).alloc _).grown hg6 (fun q hq => Or.inr (by have h : some W5.heap.size = some q := hq; injection h; omega)); have hb6 := H5.out.2.1.kept hF6 id; have f6 := hb6.frozen 1; have e6 : W6.cell? ⟨gp, 1, none⟩ = some (.slice A5 n5 c5) := hb6.cell 1; have H6 := Lib.hid (And.intro hown6 (And.intro hF6 (And.intro hb6 HN6))); clear hown6 hg6 hat6 hF6 hb6))
      have hFs : Frm (fun q => q = gp) W6 (W6.setCell ⟨gp, 1, none⟩ (.slice A6 N6 c6)) := (Frm.refl (fun q => q = gp) W6).setCell ⟨gp, 1, none⟩ (.inl rfl) _
      have hb7 : Blk (W6.setCell ⟨gp, 1, none⟩ (.slice A6 N6 c6)) gp 52 #[.int .i64 r, .slice A6 N6 c6, .bool b] := H6.out.2.2.1.set_ 1 _
      have ho7 : (W6.setCell ⟨gp, 1, none⟩ (.slice A6 N6 c6)).ownsRow W5.heap.size 44 1 (.slice A6 N6 c6) N6 (uv l) := by
        have := hFs.own H6.out.1 fun q hq hk => own_blk_ne H6.out.1 H6.out.2.2.1 (by decide) (by rw [hq, hk])
        simpa using this
      have hFw : Frm (fun _ => False) wr (W6.setCell ⟨gp, 1, none⟩ (.slice A6 N6 c6)) := (H5.out.1.trans H6.out.2.1 fun _ h => h.elim).trans hFs fun q hq => .inr (by rw [hq, H5.out.2.2]; exact Nat.le_refl _)
      generalize W6.setCell ⟨gp, 1, none⟩ (.slice A6 N6 c6) = W7 at *
      have e0 : W7.cell? ⟨gp, 0, none⟩ = some (.int .i64 r) := hb7.cell 0
      have e1 : W7.cell? ⟨gp, 1, none⟩ = some (.slice A6 N6 c6) := hb7.cell 1
      have e2 : W7.cell? ⟨gp, 2, none⟩ = some (.bool b) := hb7.cell 2
      have hPR7 := HS.out.2.2.2.1.keptF hFw
      have hN6 : N6 = l.length := by have := H6.out.2.2.2.out; rw [uv_length] at this; omega
      have hs5 : wr.heap.size ≤ W5.heap.size := H5.out.1.size
      have hsw : w.heap.size ≤ wr.heap.size := HS.out.2.2.2.2.2.1.size
      have hsW : wr.heap.size ≤ W7.heap.size := hFw.size
      have H7 := Lib.hid (And.intro ho7 (And.intro hFw (And.intro hPR7 (And.intro hN6 (And.intro hs5 (And.intro hsw hsW))))))
      clear ho7 hFw hPR7 hN6 hs5 hsw hsW hFs hb7 f6 e6 p1 H6
      go_wp2_with (at_builtin; refine wpList_append_slz (by rfl) _ _ 22 (by rfl) w.heap.size 52 i0 _ 3 40 Try.underlying22 hi hz0 hz1 hz2 (by rfl) (by decide) _ k (zs.flatMap pCells) (by rfl) (by have := H7.out.2.2.1.1; rw [HS.out.2.2.2.2.2.2] at this; exact ((Frm.refl (fun _ => False) W7).alloc _).own this fun _ _ => id) (fun q => q = W7.heap.size) _ 1 [.int .i64 r, .slice A6 N6 c6, .bool b] (by rfl) (SlZ.blk3 W7 _ _ _ _) rfl (by intro u hu; simp only [List.mem_cons, List.not_mem_nil, or_false] at hu; rcases hu with rfl | rfl | rfl <;> rfl) (by unfold maxLen; omega) (by omega) (by have := H7.out.2.2.2.2.2.1; have := H7.out.2.2.2.2.2.2; simp; omega) ?_; intro A8 N8 c8 W8 HN8 hNc8 hc8 hown8 hg8 hat8; have H8 := Lib.hid (And.intro hown8 hg8); clear hown8 hg8 hat8)
      go_roundw
      case rel =>
        obtain rfl : N8 = k + 1 := HN8.out
        obtain ⟨ho7, hFw, hPR7, hN6, hs5, hsw, hsW⟩ := H7.out
        obtain ⟨-, -, hts, hPR, hzs, hF, hzl⟩ := HS.out
        subst hN6
        have hF8 : Frm (fun q => (Value.slice Av k cv).ownBlock = some q) W7 W8 := ((Frm.refl _ W7).alloc _).grown H8.out.2 fun q hq => .inl hq
        refine ⟨k + 1, A8, c8, by omega, by go_num, rfl, Lib.hid ⟨zs ++ [⟨.slice A6 l.length c6, ⟨r, l, b⟩⟩], ?_, ?_, ?_⟩⟩
        · exact PR.snoc (x := ⟨.slice A6 l.length c6, ⟨r, l, b⟩⟩) hPR7 (World.ownsRow.mono ho7 (by omega)) (fun y hy q hq hk => by
            have h1 := (World.ownsRow.lt (hPR.2.1 y hy) q hq).2
            have h2 := (World.ownsRow.lt ho7 q hk).1
            omega) (by rw [hzl]; exact H8.out.1) hF8
        · rw [List.map_append, hzs, hts]; rfl
        · exact (hF.trans hFw fun _ h => h.elim).trans hF8 fun q hq => .inr (World.ownsRow.lt hPR.1 q hq).1
      case measure => simp [intOf]; omega
    · obtain rfl : k = n := by omega
      go_wp2_with fail
      go_ret
      obtain ⟨zs, hPR, hzs, hF⟩ := hT.out
      have hps := H.out.1
      obtain ⟨A9, c9, e9, h9, h9'⟩ := own_form hPR.1
      have hzl : zs.length = k := by have := congrArg List.length hzs; simp at this; omega
      rw [hzl] at e9 h9
      cases e9
      exact ⟨_, _, _, zs, rfl, hPR, hps, h9, h9', by rw [hzs, List.take_of_length_le (by simp; omega)], hF⟩
end Go.Proofs.Ytnibllkcacalhaa
