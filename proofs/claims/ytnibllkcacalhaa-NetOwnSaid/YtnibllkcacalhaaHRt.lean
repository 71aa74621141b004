/- The walk of teaselref23.Step. -/
import Derived.Test.YtnibllkcacalhaaHRu
namespace Go.Proofs.Ytnibllkcacalhaa
set_option maxRecDepth 100000
open Go.RowKit
theorem e_one (es : List Er) : ∀ u ∈ es.flatMap eCells, u.oneCell' = true := by
  intro u hu
  obtain ⟨x, hx, hu⟩ := List.mem_flatMap.1 hu
  simp only [eCells, List.mem_cons, List.not_mem_nil, or_false] at hu
  rcases hu with rfl | rfl | rfl <;> rfl
theorem sp_closed (j : Nat) (z : Int) (c : Ch) (l : List Pi) (p : Pi) (hp : l[j]? = some p) (hc : p.closed = true) : (choreN ⟨1, j, z⟩ c l[(j : Int).toNat]?, pipesN ⟨1, j, z⟩ c l) = (⟨c.row, c.at_ + 1, c.sum, c.wrong + 1⟩, l) := by
  rw [Int.toNat_natCast, hp, pipesN_1, modify_same]
  · simp [choreN, hc]
  · intro p' hp'
    rw [hp] at hp'
    cases hp'
    unfold putP
    rw [if_pos hc]
theorem sp_open (j : Nat) (z : Int) (c : Ch) (l : List Pi) (p : Pi) (hp : l[j]? = some p) (hc : p.closed = false) : (choreN ⟨1, j, z⟩ c l[(j : Int).toNat]?, pipesN ⟨1, j, z⟩ c l) = (⟨c.row, c.at_ + 1, c.sum, c.wrong⟩, l.modify j (fun p => { p with ins := p.ins ++ [u32w (c.sum + z)] })) := by
  rw [Int.toNat_natCast, hp, pipesN_1]
  refine Prod.ext ?_ ?_
  · simp [choreN, hc]
  · apply List.ext_getElem?
    intro i
    dsimp only
    rw [List.getElem?_modify, List.getElem?_modify]
    by_cases hi : j = i
    · subst hi
      rw [hp]
      simp [putP, hc]
    · simp [hi]
theorem sp_get (j : Nat) (z : Int) (c : Ch) (l : List Pi) (p : Pi) (hp : l[j]? = some p) : (choreN ⟨2, j, z⟩ c l[(j : Int).toNat]?, pipesN ⟨2, j, z⟩ c l) = (⟨c.row, c.at_ + 1, getS c.sum p, c.wrong⟩, l.modify j getP) := by
  rw [Int.toNat_natCast, hp, pipesN_2]
  simp [choreN]
theorem sp_get0 (j : Nat) (z : Int) (c : Ch) (l : List Pi) (p : Pi) (hp : l[j]? = some p) (h0 : p.ins = []) : (choreN ⟨2, j, z⟩ c l[(j : Int).toNat]?, pipesN ⟨2, j, z⟩ c l) = (⟨c.row, c.at_ + 1, u32w (c.sum * 31), c.wrong⟩, l) := by
  rw [sp_get j z c l p hp, modify_same]
  · unfold getS
    rw [h0]
  · intro p' hp'
    rw [hp] at hp'
    cases hp'
    unfold getP
    cases p
    dsimp only at h0
    subst h0
    rfl
theorem sp_add (q z : Int) (c : Ch) (l : List Pi) : (choreN ⟨3, q, z⟩ c l[q.toNat]?, pipesN ⟨3, q, z⟩ c l) = (⟨c.row, c.at_ + 1, u32w (c.sum + z), c.wrong⟩, l) := by
  simp [choreN, pipesN]
theorem sp_close (j : Nat) (z : Int) (c : Ch) (l : List Pi) : (choreN ⟨4, j, z⟩ c l[(j : Int).toNat]?, pipesN ⟨4, j, z⟩ c l) = (⟨c.row, c.at_ + 1, c.sum, c.wrong⟩, l.modify j (fun p => { p with closed := true })) := by
  rw [pipesN_4]
  simp [choreN]
theorem sp_stop (q z : Int) (c : Ch) (l : List Pi) : (choreN ⟨5, q, z⟩ c l[q.toNat]?, pipesN ⟨5, q, z⟩ c l) = (⟨c.row, c.row.length, c.sum, c.wrong⟩, l) := by
  simp [choreN, pipesN]
set_option maxRecDepth 100000 in
set_option maxHeartbeats 6400000 in
theorem rstep_any (A : Option Addr) (n c : Nat) (a s r : Int) (es : List Er) (A1 : Option Addr) (n1 c1 : Nat) (ps : List Pk) (w : World) (h : RAt w (fun q => q < w.heap.size) (.slice A n c) es) (h1 : PAt w (fun q => q < w.heap.size) (.slice A1 n1 c1) ps) (hn : n ≤ 1000000) (hn1 : n1 ≤ 1000) (hin : ∀ p ∈ ps, p.p.ins.length ≤ 1000000) :
    Calls Try.prog 38 #[.agg #[.slice A n c, .int .i64 a, .int .u32 s, .int .i64 r], .slice A1 n1 c1] w (StepPost ⟨es, a, s, r⟩ ps w) := by
  obtain ⟨gc, hgc⟩ : ∃ g, g = w.heap.size := ⟨_, rfl⟩
  obtain ⟨W0, hW0⟩ : ∃ W, W = (w.alloc (.cells #[.slice A n c, .int .i64 a, .int .u32 s, .int .i64 r] 46)).alloc (.cells #[.slice none 0 0, .int .i64 0, .int .u32 0, .int .i64 0] 46) := ⟨_, rfl⟩
  obtain ⟨hF, hb1, hb2⟩ : Frm (fun _ => False) w W0 ∧ Blk W0 gc 46 #[.slice A n c, .int .i64 a, .int .u32 s, .int .i64 r] ∧ Blk W0 (gc + 1) 46 #[.slice none 0 0, .int .i64 0, .int .u32 0, .int .i64 0] := by
    subst hgc hW0
    refine ⟨((Frm.refl _ w).alloc _).alloc _, (Blk.new w _ _).alloc _, ?_⟩
    have := Blk.new (w.alloc (.cells #[.slice A n c, .int .i64 a, .int .u32 s, .int .i64 r] 46)) 46 #[.slice none 0 0, .int .i64 0, .int .u32 0, .int .i64 0]
    rwa [World.size_alloc] at this
  have hown := ownp_any A1 n1 c1 ps W0 (h1.keptTo fun q hq => ⟨hF.block q hq id, Nat.lt_of_lt_of_le hq hF.size⟩) hn1 hin
  have hps := h1.cells.1
  have hes := h.cells.1
  have Hp := Lib.hid h1
  obtain ⟨i0, hi, hz0, hz1, hz2⟩ := infoCe'
  have hws : W0.heap.size = gc + 2 := by subst hW0 hgc; simp
  have H := Lib.hid (And.intro hown (And.intro h (And.intro hF (And.intro hb1 (And.intro hb2 (And.intro hgc (And.intro hps (And.intro hin (And.intro hes (And.intro hn hws))))))))))
  clear h h1 hin hown hF hb1 hb2 hps hes hn hws
  go_enter Try.func38, Try.ntmps38
  go_upto_region 1 with fail
  rw [← hgc, ← hW0]
  clear hW0 hgc
  go_wp2_with fail
  refine H.out.1.mono ?_
  rintro e w1 ⟨Ap, np, cp, ps1, rfl, hPR, hnp, hncp, hcp, hpp, hF1⟩
  have hb1 := H.out.2.2.2.1.kept hF1 id
  have c0 : (w1.alloc (.cells #[] 49)).cell? ⟨gc, 0, none⟩ = some (.slice A n c) := (hb1.alloc _).cell 0
  have H1 := Lib.hid (And.intro hPR (And.intro hnp (And.intro hpp (And.intro hF1 hb1))))
  clear hPR hnp hpp hF1 hb1
  go_upto_region 3 with (at_builtin; go_loud (
    refine wpList_append_slz (by rfl) _ _ 43 (by rfl) w1.heap.size 49 i0 (.agg #[.int .u8 0, .int .i64 0, .int .u32 0]) 3 24 Try.underlying43 hi hz0 hz1 hz2 (by rfl) (by decide) (.slice (some ⟨w1.heap.size, 0, none⟩) 0 0) 0 [] (by rfl) (World.ownsRow_made _ _ _ (Nat.le_refl _) (Nat.zero_le _) rfl) (fun q => q < w.heap.size) (.slice A n c) n (es.flatMap eCells) (by rfl) ?_ ?_ ?_ ?_ ?_ ?_ ?_
    · exact H.out.2.1.keptTo fun q hq => ⟨((H.out.2.2.1.trans H1.out.2.2.2.1 fun _ h => h.elim).alloc _).block q hq id, hq⟩
    · rw [flat3 eCells (fun _ => rfl), H.out.2.2.2.2.2.2.2.2.1]
    · exact e_one es
    · have := H.out.2.2.2.2.2.2.2.2.2.1; unfold maxLen; omega
    · have := H.out.2.2.2.2.2.2.2.2.2.1; omega
    · simp
    intro A2 N2 c2 w2 HN2 hNc2 hc2 hown2 hg2 hat2
    have hF2 : Frm (fun _ => False) w1 w2 := ((Frm.refl _ w1).alloc _).grown hg2 (fun q hq => Or.inr (by have h : some w1.heap.size = some q := hq; injection h; omega))
    have hb2 := H1.out.2.2.2.2.kept hF2 id
    have f2 := hb2.frozen 0
    have e2 : w2.cell? ⟨gc, 0, none⟩ = some (.slice A n c) := hb2.cell 0
    have H2 := Lib.hid (And.intro hown2 (And.intro hF2 (And.intro hb2 HN2)))
    clear hown2 hg2 hat2 hF2 hb2))
  have hFs : Frm (fun q => q = gc) w2 (w2.setCell ⟨gc, 0, none⟩ (.slice A2 N2 c2)) := (Frm.refl (fun q => q = gc) w2).setCell ⟨gc, 0, none⟩ (.inl rfl) _
  have hN2 : N2 = n := by have := H2.out.2.2.2.out; omega
  have hnb : gc < W0.heap.size := H.out.2.2.2.1.lt
  have hrk : RkAt (w2.setCell ⟨gc, 0, none⟩ (.slice A2 N2 c2)) gc W0.heap.size ⟨es, a, s, r⟩ ps1 (.slice A2 N2 c2) (.slice Ap np cp) := by
    refine ⟨H2.out.2.2.1.set_ 0 _, ?_, (H1.out.1.keptF H2.out.2.1).far H2.out.2.2.1 (by decide) (by decide)⟩
    have ho := hFs.own H2.out.1 fun q hq hk => own_blk_ne H2.out.1 H2.out.2.2.1 (by decide) (by rw [hq, hk])
    rw [hN2, H.out.2.2.2.2.2.2.2.2.1] at ho
    rw [hN2, H.out.2.2.2.2.2.2.2.2.1]
    simpa using World.ownsRow.mono ho H1.out.2.2.2.1.size
  have hFw : Frm (fun _ => False) w (w2.setCell ⟨gc, 0, none⟩ (.slice A2 N2 c2)) := ((H.out.2.2.1.trans H1.out.2.2.2.1 fun _ h => h.elim).trans H2.out.2.1 fun _ h => h.elim).trans hFs fun q hq => .inr (by have := H.out.2.2.2.2.2.1; omega)
  have hb3 := (H.out.2.2.2.2.1.kept (H1.out.2.2.2.1.trans H2.out.2.1 fun _ h => h.elim) id).kept hFs (by omega)
  clear hFs e2 f2 c0
  generalize w2.setCell ⟨gc, 0, none⟩ (.slice A2 N2 c2) = W3 at *
  have hrd := rready_any A2 N2 c2 a s r es A1 n1 c1 ps W3 (by have := hrk.2.1; rw [hN2, H.out.2.2.2.2.2.2.2.2.1] at this ⊢; exact SlZ.of_own this fun q hq => (World.ownsRow.lt this q hq).2) (Hp.out.keptTo fun q hq => ⟨hFw.block q hq id, Nat.lt_of_lt_of_le hq hFw.size⟩) (by omega)
  obtain ⟨d0, d1, d2, d3⟩ := rk_cells hrk
  dsimp only at d0 d1 d2 d3
  have H3 := Lib.hid (And.intro hrd (And.intro hrk (And.intro hb3 (And.intro hFw hN2))))
  clear hrd hrk hb3 hFw hN2 H2
  go_wp2_with fail
  refine H3.out.1.mono ?_
  rintro e w4 ⟨rfl, hF4⟩
  have hrk := H3.out.2.1.keptF hF4
  have hb4 := H3.out.2.2.1.kept hF4 id
  have hfw := H3.out.2.2.2.1.trans hF4 fun _ h => h.elim
  obtain ⟨d0, d1, d2, d3⟩ := rk_cells hrk
  dsimp only at d0 d1 d2 d3
  have hgcw : w.heap.size ≤ gc + 1 ∧ gc + 1 < W0.heap.size := by have := H.out.2.2.2.2.2.1; have := H.out.2.2.2.2.2.2.2.2.2.2; omega
  cases hR : readyB ⟨es, a, s, r⟩ (ps.map (·.p)) with
  | false =>
    have b0 : w4.cell? ⟨gc + 1, 0, none⟩ = some (.slice none 0 0) := hb4.cell 0
    have b1 : w4.cell? ⟨gc + 1, 1, none⟩ = some (.int .i64 0) := hb4.cell 1
    have b2 : w4.cell? ⟨gc + 1, 2, none⟩ = some (.int .u32 0) := hb4.cell 2
    have b3 : w4.cell? ⟨gc + 1, 3, none⟩ = some (.int .i64 0) := hb4.cell 3
    have f0 := hb4.frozen 0
    have f1 := hb4.frozen 1
    have f2 := hb4.frozen 2
    have f3 := hb4.frozen 3
    have H4 := Lib.hid (And.intro hrk (And.intro hb4 (And.intro hfw (And.intro hgcw hR))))
    clear hrk hb4 hfw hgcw hR hF4
    go_wp2_with fail
    obtain ⟨hB4, hF5⟩ := four H4.out.2.1 (.slice A2 N2 c2) (.int .i64 a) (.int .u32 s) (.int .i64 r)
    refine bodyPost_ret (rstep_ret hB4 rfl rfl rfl) rfl ?_
    refine rdone_fin (c' := ⟨es, a, s, r⟩) H4.out.1.done ?_ H4.out.2.2.2.2.symm H4.out.2.2.1 hF5 H4.out.2.2.2.1
    unfold stepN
    rw [if_neg (by rw [H4.out.2.2.2.2]; simp), H1.out.2.2.1]
  | true =>
    obtain ⟨k, x, rfl, hx, hq, hk, hr, hd, hst⟩ := ready_parts hR
    have hpl : (ps.map (·.p)).length = ps1.length := by rw [← H1.out.2.2.1, List.length_map]
    rw [hpl] at hq
    rw [← H1.out.2.2.1] at hst
    have hin : ∀ p ∈ ps1, p.p.ins.length ≤ 1000000 := fun p hp => by
      have : p.p ∈ ps.map (·.p) := by rw [← H1.out.2.2.1]; exact List.mem_map_of_mem hp
      obtain ⟨p', hp', e⟩ := List.mem_map.1 this
      rw [← e]
      exact H.out.2.2.2.2.2.2.2.1 p' hp'
    obtain ⟨A2', c2', e2', -, -⟩ := own_form hrk.2.1
    cases e2'
    obtain ⟨hN2e, hkn, g, rfl, x0, x1, x2⟩ := er_at hrk.2.1 hx
    obtain ⟨d, q, z⟩ := x
    dsimp only at *
    have f1 := hrk.1.frozen 1
    have hbl := hrk.1.lt
    have H4 := Lib.hid (And.intro hrk (And.intro hb4 (And.intro hfw (And.intro hgcw (And.intro hR (And.intro hst (And.intro hin (And.intro hd hq))))))))
    clear hrk hb4 hfw hgcw hR hst hin hx hF4 hpl hd hq H3 hN2e
    have g1 := (H4.out.1.1.set_ 1 (.int .i64 ((k : Int) + 1))).frozen 1
    have hFa : Frm (fun _ => False) w4 (w4.alloc (.cells #[.int .u8 d, .int .i64 q, .int .u32 z] 49)) := (Frm.refl _ w4).alloc _
    have y1 := hFa.cell d1 id
    have y2 := (H4.out.1.1.kept hFa id).frozen 1
    go_upto_region 7 with fail
    obtain ⟨Gx, hGx⟩ : ∃ G, G = w4.heap.size := ⟨_, rfl⟩
    have hFs : Frm (fun q => q = gc) w4 (w4.setCell ⟨gc, 1, none⟩ (.int .i64 ((k : Int) + 1))) := (Frm.refl (fun q => q = gc) w4).setCell ⟨gc, 1, none⟩ (.inl rfl) _
    have hrk5 := H4.out.1.set_ (i := 1) (u := .int .i64 ((k : Int) + 1)) (c' := ⟨es, (k : Int) + 1, s, r⟩) rfl rfl
    have hb5 := H4.out.2.1.kept hFs (by omega)
    have hfw5 : Frm (fun _ => False) w (w4.setCell ⟨gc, 1, none⟩ (.int .i64 ((k : Int) + 1))) := H4.out.2.2.1.trans hFs fun q hq => .inr (by have := H.out.2.2.2.2.2.1; omega)
    have hsz : (w4.setCell ⟨gc, 1, none⟩ (.int .i64 ((k : Int) + 1))).heap.size = Gx := by rw [hGx]; simp
    rw [← hGx]
    clear hFs hFa hGx y1 y2 g1 f1 hbl x0 x1 x2 d0 d1 d2 d3
    generalize w4.setCell ⟨gc, 1, none⟩ (.int .i64 ((k : Int) + 1)) = w5 at *
    have hFa : Frm (fun _ => False) w5 (w5.alloc (.cells #[.int .u8 d, .int .i64 q, .int .u32 z] 49)) := (Frm.refl _ w5).alloc _
    have hbx := Blk.new w5 49 #[.int .u8 d, .int .i64 q, .int .u32 z]
    rw [hsz] at hbx
    have hrk := hrk5.keptF hFa
    have hb6 := hb5.kept hFa id
    have hfw6 := hfw5.trans hFa fun _ h => h.elim
    clear hrk5 hb5 hfw5 hFa hsz
    generalize w5.alloc (.cells #[.int .u8 d, .int .i64 q, .int .u32 z] 49) = W5 at *
    have e0 : W5.cell? ⟨Gx, 0, none⟩ = some (.int .u8 d) := hbx.cell 0
    have e1 : W5.cell? ⟨Gx, 1, none⟩ = some (.int .i64 q) := hbx.cell 1
    have e2 : W5.cell? ⟨Gx, 2, none⟩ = some (.int .u32 z) := hbx.cell 2
    obtain ⟨d0, d1, d2, d3⟩ := rk_cells hrk
    dsimp only at d0 d1 d2 d3
    have f1 := hrk.1.frozen 1
    have f2 := hrk.1.frozen 2
    have f3 := hrk.1.frozen 3
    have H5 := Lib.hid (And.intro hrk (And.intro hbx (And.intro hb6 hfw6)))
    clear hrk hbx hb6 hfw6
    have hst := H4.out.2.2.2.2.2.1
    rcases (by have := H4.out.2.2.2.2.2.2.2.1; omega : d = 1 ∨ d = 2 ∨ d = 3 ∨ d = 4 ∨ d = 5) with rfl | rfl | rfl | rfl | rfl
    case inl =>
      obtain ⟨h5, h6⟩ := H4.out.2.2.2.2.2.2.2.2 (by omega)
      obtain ⟨j, rfl⟩ : ∃ j : Nat, q = j := ⟨q.toNat, by omega⟩
      have hjx : j < ps1.length := by omega
      obtain ⟨rfl, gp, cs, rfl, hbp, hgp, p0, p1, p2⟩ := H5.out.1.2.2.pipe hjx
      have hgj : (ps1.map (·.p))[j]? = some ps1[j].p := by rw [List.getElem?_map, List.getElem?_eq_getElem hjx]; rfl
      obtain ⟨a2, m2, k2, e5, hm2, hk2, hc2, -⟩ := id (H5.out.1.2.2.ins hjx (Frm.refl _ W5))
      rw [e5] at p1
      rw [uv_length] at hm2
      have hl := H4.out.2.2.2.2.2.2.1 ps1[j] (List.getElem_mem hjx)
      have hfz := hbp.frozen (j * 3 + 1)
      have HP := Lib.hid (And.intro hbp (And.intro hgp (And.intro e5 (And.intro hm2 (And.intro hl hgj)))))
      clear hbp hgp e5 hm2 hl hgj h5 h6 hc2
      cases hcl : ps1[j].p.closed with
      | true =>
        rw [hcl] at p2
        rw [sp_closed j z _ _ _ HP.out.2.2.2.2.2 hcl] at hst
        have HS := Lib.hid hst
        clear hst hcl
        go_upto_region 23 with fail
        have hrk6 := H5.out.1.set_ (i := 3) (u := .int .i64 (r + 1)) (c' := ⟨es, (k : Int) + 1, s, r + 1⟩) rfl rfl
        have hFs : Frm (fun q => q = gc) W5 (W5.setCell ⟨gc, 3, none⟩ (.int .i64 (r + 1))) := (Frm.refl (fun q => q = gc) W5).setCell ⟨gc, 3, none⟩ (.inl rfl) _
        obtain ⟨c', ps', hD, hcz, hFz, hBr⟩ : ∃ c' ps', RkDone (W5.setCell ⟨gc, 3, none⟩ (.int .i64 (r + 1))) gc W0.heap.size c' ps' (.slice (some ⟨g, 0, none⟩) es.length c2) (.slice (some ⟨gp, 0, none⟩) ps1.length cp) ∧ (c', ps'.map (·.p)) = stepN ⟨es, k, s, r⟩ (ps1.map (·.p)) ∧ Frm (fun _ => False) w (W5.setCell ⟨gc, 3, none⟩ (.int .i64 (r + 1))) ∧ Blk (W5.setCell ⟨gc, 3, none⟩ (.int .i64 (r + 1))) (gc + 1) 46 #[.slice none 0 0, .int .i64 0, .int .u32 0, .int .i64 0] :=
          ⟨_, _, hrk6.done, by rw [HS.out], H5.out.2.2.2.trans hFs fun q hq => .inr (by have := H.out.2.2.2.2.2.1; omega), H5.out.2.2.1.kept hFs (by omega)⟩
        clear hrk6 hFs d0 d1 d2 d3 e0 e1 e2 f1 f2 f3 p0 p1 p2 hfz
        generalize W5.setCell ⟨gc, 3, none⟩ (.int .i64 (r + 1)) = W6 at *
        have d0 : W6.cell? ⟨gc, 0, none⟩ = some (.slice (some ⟨g, 0, none⟩) es.length c2) := hD.1.cell 0
        have d1 : W6.cell? ⟨gc, 1, none⟩ = some (.int .i64 c'.at_) := hD.1.cell 1
        have d2 : W6.cell? ⟨gc, 2, none⟩ = some (.int .u32 c'.sum) := hD.1.cell 2
        have d3 : W6.cell? ⟨gc, 3, none⟩ = some (.int .i64 c'.wrong) := hD.1.cell 3
        have b0 : W6.cell? ⟨gc + 1, 0, none⟩ = some (.slice none 0 0) := hBr.cell 0
        have b1 : W6.cell? ⟨gc + 1, 1, none⟩ = some (.int .i64 0) := hBr.cell 1
        have b2 : W6.cell? ⟨gc + 1, 2, none⟩ = some (.int .u32 0) := hBr.cell 2
        have b3 : W6.cell? ⟨gc + 1, 3, none⟩ = some (.int .i64 0) := hBr.cell 3
        have f0 := hBr.frozen 0
        have f1 := hBr.frozen 1
        have f2 := hBr.frozen 2
        have f3 := hBr.frozen 3
        have HZ := Lib.hid (And.intro hD (And.intro hcz (And.intro hFz hBr)))
        clear hD hcz hFz hBr
        go_wp2_with fail
        obtain ⟨hB4, hF4⟩ := four HZ.out.2.2.2 (.slice (some ⟨g, 0, none⟩) es.length c2) (.int .i64 c'.at_) (.int .u32 c'.sum) (.int .i64 c'.wrong)
        refine bodyPost_ret (rstep_ret hB4 rfl rfl rfl) rfl ?_
        exact rdone_fin (c' := c') HZ.out.1 (by rw [HZ.out.2.1, H1.out.2.2.1]) H4.out.2.2.2.2.1.symm HZ.out.2.2.1 hF4 H4.out.2.2.2.1
      | false =>
        rw [hcl] at p2
        rw [sp_open j z _ _ _ HP.out.2.2.2.2.2 hcl] at hst
        have HS := Lib.hid hst
        clear hst hcl
        obtain ⟨iu, hu, hu0, hu1, hu2⟩ := infoCu'
        have hFa : Frm (fun _ => False) W5 (W5.drew.alloc (.cells #[.int .u32 (IntKind.u32.wrap (s + z))] 44)) := (Frm.refl _ W5).drew.alloc _
        have hown := hFa.own (H5.out.1.2.2.2.1 ps1[j] (List.getElem_mem hjx)) fun _ _ => id
        rw [HP.out.2.2.1, ← HP.out.2.2.2.1] at hown
        have hb8 : W0.heap.size ≤ (W5.drew.alloc (.cells #[.int .u32 (IntKind.u32.wrap (s + z))] 44)).heap.size := by
          have := HP.out.1.lt
          have := HP.out.2.1
          have := hFa.size
          omega
        have hm2 := HP.out.2.2.2.1
        have hml := HP.out.2.2.2.2.1
        have H3 := Lib.hid (And.intro hFa (And.intro hown (And.intro hb8 (And.intro (show m2 + 1 ≤ maxLen by unfold maxLen; omega) (show (m2 + 1) * 4 ≤ 140737488355328 by omega)))))
        clear hFa hown hb8 hm2 hml
        have HI : Hid (∀ W8, Frm (fun q => (Value.slice a2 m2 k2).ownBlock = some q) W5 W8 → Blk W8 gp 52 cs ∧ W8.cell? ⟨gp, j * 3 + 1, none⟩ = some (.slice a2 m2 k2) ∧ W8.cell? ⟨Gx, 1, none⟩ = some (.int .i64 j)) := Lib.hid fun W8 hF8 => by
          have hne : ∀ b t cs, Blk W5 b t cs → t ≠ 44 → ¬ (Value.slice a2 m2 k2).ownBlock = some b := fun b t cs hb ht hk => own_blk_ne (H5.out.1.2.2.2.1 ps1[j] (List.getElem_mem hjx)) hb (fun e => ht e.symm) (by rw [HP.out.2.2.1]; exact hk)
          exact ⟨HP.out.1.kept hF8 (hne _ _ _ HP.out.1 (by decide)), hF8.cell p1 (hne _ _ _ HP.out.1 (by decide)), hF8.cell e1 (hne _ _ _ H5.out.2.1 (by decide))⟩
        go_upto_region 11 with fail
        refine wp_region_of (ls := rops) (by kernel_rfl) 19 (by kernel_rfl) _ (by rfl) ?_
        refine rput_reg _ _ _ _ _ _ _ _ _ _ _ _ _ _ _ _ _ _ _ _ _ _ _ _ _ _ _ _ _ _ _ _ _ _ _ _ _ _ _ _ _ _ _ _ _ _ _ _ _ _ _ _ _ _ _ _ _ _ _ _ _ _ _ _ _ _ _ _ _ _ _ _ _ _ _ _ _ _ _ _ _ _ _ _ _ _ _ _ _ _ _ _ _ _ _ _ _ _ _ _ _ _ _ _ _ (by intro c d v a w h; cases d <;> exact h) gc gp Gx j ps1.length cp m2 k2 s z a2 W5 hjx e1 e2 d2 p1
          (fun A8 N8 c8 W8 => W8.ownsRow W0.heap.size 44 1 (.slice A8 N8 c8) N8 (uv ps1[j].p.ins ++ [.int .u32 (IntKind.u32.wrap (s + z))]) ∧ Frm (fun q => (Value.slice a2 m2 k2).ownBlock = some q) W5 W8) (fun A8 N8 c8 W8 h => by
            obtain ⟨h1, h2, h3⟩ := HI.out W8 h.2
            exact ⟨h3, h2, h1.frozen _⟩) ?happ _ rfl ?hfin
        case happ =>
          intro a' Q' h54 h60 hnext
          refine wpList_append_sl (by rfl) (.tmp 54) (.tmp 60) 50 (by rfl) W0.heap.size 44 iu (.int .u32 0) 4 Try.underlying50 hu hu0 hu1 hu2 (by rfl) (.slice a2 m2 k2) m2 (uv ps1[j].p.ins) h54 H3.out.2.1 (fun q => q = W5.heap.size) (.slice (some ⟨W5.heap.size, 0, none⟩) 1 1) [.int .u32 (IntKind.u32.wrap (s + z))] h60 (Sl.blk1 W5.drew _ _) (by simp [Value.oneCell']) H3.out.2.2.2.1 H3.out.2.2.2.2 H3.out.2.2.1 ?_
          intro A8 N8 c8 W8 HN8 hNc8 hc8 hown8 hg8 hat8
          exact hnext A8 N8 c8 W8 ⟨hown8, (H3.out.1.mono fun _ h => h.elim).trans (Frm.of_grown hg8) fun q hq => .inl hq⟩
        case hfin =>
          rintro A8 N8 c8 W8 ⟨hown8, hF8⟩
          have H8 := Lib.hid (And.intro hown8 (And.intro hF8 (HI.out W8 hF8).1))
          clear hown8 hF8
          go_upto_region 23 with fail
          have hFi : Frm (InOf ps1 j) W5 W8 := H8.out.2.1.mono fun q hq => .inl ⟨_, ⟨hjx, rfl⟩, by rw [HP.out.2.2.1]; exact hq⟩
          have hk6 := H5.out.1.pset (u := .slice A8 N8 c8) (x := ⟨.slice A8 N8 c8, { ps1[j].p with ins := ps1[j].p.ins ++ [u32w (s + z)] }⟩) hFi hjx (by omega : 1 < 3) rfl (by
            show Sl W8 _ (.slice A8 N8 c8) (uv (ps1[j].p.ins ++ [u32w (s + z)]))
            rw [uv_snoc]
            exact (OSl.of_own (K := fun q => W0.heap.size ≤ q ∧ q < W8.heap.size ∧ q ≠ gp) H8.out.1 fun q hq => ⟨(World.ownsRow.lt H8.out.1 q hq).1, (World.ownsRow.lt H8.out.1 q hq).2, fun e => own_blk_ne H8.out.1 H8.out.2.2 (by decide) (by rw [hq, e])⟩).sl.mono fun q hq => hq.1)
          have hFg : Frm (fun q => W0.heap.size ≤ q) W5 (W8.setCell ⟨gp, j * 3 + 1, none⟩ (.slice A8 N8 c8)) := (H8.out.2.1.mono fun q hq => .inl (World.ownsRow.lt (H5.out.1.2.2.2.1 ps1[j] (List.getElem_mem hjx)) q (by rw [HP.out.2.2.1]; exact hq)).1).setCell ⟨gp, j * 3 + 1, none⟩ (.inl HP.out.2.1) _
          obtain ⟨c', ps', hD, hcz, hFz, hBr⟩ : ∃ c' ps', RkDone (W8.setCell ⟨gp, j * 3 + 1, none⟩ (.slice A8 N8 c8)) gc W0.heap.size c' ps' (.slice (some ⟨g, 0, none⟩) es.length c2) (.slice (some ⟨gp, 0, none⟩) ps1.length cp) ∧ (c', ps'.map (·.p)) = stepN ⟨es, k, s, r⟩ (ps1.map (·.p)) ∧ Frm (fun _ => False) w (W8.setCell ⟨gp, j * 3 + 1, none⟩ (.slice A8 N8 c8)) ∧ Blk (W8.setCell ⟨gp, j * 3 + 1, none⟩ (.slice A8 N8 c8)) (gc + 1) 46 #[.slice none 0 0, .int .i64 0, .int .u32 0, .int .i64 0] :=
            ⟨_, _, hk6, by rw [HS.out]; exact Prod.ext rfl (set_map ps1 j _ (fun p => { p with ins := p.ins ++ [u32w (s + z)] }) hjx rfl), H5.out.2.2.2.trans hFg fun q hq => .inr (by have := H.out.2.2.2.2.2.1; have := H.out.2.2.2.2.2.2.2.2.2.2; omega), H5.out.2.2.1.kept hFg (by have := H.out.2.2.2.2.2.2.2.2.2.2; omega)⟩
          clear hk6 hFg hFi d0 d1 d2 d3 e0 e1 e2 f1 f2 f3 p0 p1 p2 hfz
          generalize W8.setCell ⟨gp, j * 3 + 1, none⟩ (.slice A8 N8 c8) = W6 at *
          have d0 : W6.cell? ⟨gc, 0, none⟩ = some (.slice (some ⟨g, 0, none⟩) es.length c2) := hD.1.cell 0
          have d1 : W6.cell? ⟨gc, 1, none⟩ = some (.int .i64 c'.at_) := hD.1.cell 1
          have d2 : W6.cell? ⟨gc, 2, none⟩ = some (.int .u32 c'.sum) := hD.1.cell 2
          have d3 : W6.cell? ⟨gc, 3, none⟩ = some (.int .i64 c'.wrong) := hD.1.cell 3
          have b0 : W6.cell? ⟨gc + 1, 0, none⟩ = some (.slice none 0 0) := hBr.cell 0
          have b1 : W6.cell? ⟨gc + 1, 1, none⟩ = some (.int .i64 0) := hBr.cell 1
          have b2 : W6.cell? ⟨gc + 1, 2, none⟩ = some (.int .u32 0) := hBr.cell 2
          have b3 : W6.cell? ⟨gc + 1, 3, none⟩ = some (.int .i64 0) := hBr.cell 3
          have f0 := hBr.frozen 0
          have f1 := hBr.frozen 1
          have f2 := hBr.frozen 2
          have f3 := hBr.frozen 3
          have HZ := Lib.hid (And.intro hD (And.intro hcz (And.intro hFz hBr)))
          clear hD hcz hFz hBr
          go_wp2_with fail
          obtain ⟨hB4, hF4⟩ := four HZ.out.2.2.2 (.slice (some ⟨g, 0, none⟩) es.length c2) (.int .i64 c'.at_) (.int .u32 c'.sum) (.int .i64 c'.wrong)
          refine bodyPost_ret (rstep_ret hB4 rfl rfl rfl) rfl ?_
          exact rdone_fin (c' := c') HZ.out.1 (by rw [HZ.out.2.1, H1.out.2.2.1]) H4.out.2.2.2.2.1.symm HZ.out.2.2.1 hF4 H4.out.2.2.2.1
    case inr.inl =>
      obtain ⟨h5, h6⟩ := H4.out.2.2.2.2.2.2.2.2 (by omega)
      obtain ⟨j, rfl⟩ : ∃ j : Nat, q = j := ⟨q.toNat, by omega⟩
      have hjx : j < ps1.length := by omega
      obtain ⟨rfl, gp, cs, rfl, hbp, hgp, p0, p1, p2⟩ := H5.out.1.2.2.pipe hjx
      have hgj : (ps1.map (·.p))[j]? = some ps1[j].p := by rw [List.getElem?_map, List.getElem?_eq_getElem hjx]; rfl
      obtain ⟨a2, m2, k2, e5, hm2, hk2, hc2, -⟩ := id (H5.out.1.2.2.ins hjx (Frm.refl _ W5))
      rw [e5] at p1
      rw [uv_length] at hm2
      have hl := H4.out.2.2.2.2.2.2.1 ps1[j] (List.getElem_mem hjx)
      have HP := Lib.hid (And.intro hbp (And.intro hgp (And.intro e5 (And.intro hm2 (And.intro hl hgj)))))
      clear hbp hgp e5 hm2 hl hgj h5 h6
      go_upto_region 14 with fail
      have hrk7 := H5.out.1.set_ (i := 2) (u := .int .u32 (31 * s % 4294967296)) (c' := ⟨es, (k : Int) + 1, u32w (s * 31), r⟩) (by rw [u32w_mod, Int.mul_comm]; rfl) rfl
      have hFs : Frm (fun q => q = gc) W5 (W5.setCell ⟨gc, 2, none⟩ (.int .u32 (31 * s % 4294967296))) := (Frm.refl (fun q => q = gc) W5).setCell ⟨gc, 2, none⟩ (.inl rfl) _
      have hbx7 := H5.out.2.1.kept hFs (H5.out.2.1.ne_ H5.out.1.1 (by decide))
      have hb7 := H5.out.2.2.1.kept hFs (by omega)
      have hbp7 := HP.out.1.kept hFs (HP.out.1.ne_ H5.out.1.1 (by decide))
      have hfw7 : Frm (fun _ => False) w (W5.setCell ⟨gc, 2, none⟩ (.int .u32 (31 * s % 4294967296))) := H5.out.2.2.2.trans hFs fun q hq => .inr (by have := H.out.2.2.2.2.2.1; omega)
      replace p1 := hFs.cell p1 (HP.out.1.ne_ H5.out.1.1 (by decide))
      clear hFs d0 d1 d2 d3 e0 e1 e2 f1 f2 f3 p0 p2
      generalize W5.setCell ⟨gc, 2, none⟩ (.int .u32 (31 * s % 4294967296)) = W7 at *
      have e1 : W7.cell? ⟨Gx, 1, none⟩ = some (.int .i64 j) := hbx7.cell 1
      have d2 : W7.cell? ⟨gc, 2, none⟩ = some (.int .u32 (u32w (s * 31))) := hrk7.1.cell 2
      have f2 := hrk7.1.frozen 2
      have hfz := hbp7.frozen (j * 3 + 1)
      have H7 := Lib.hid (And.intro hrk7 (And.intro hbx7 (And.intro hb7 (And.intro hbp7 hfw7))))
      clear hrk7 hbx7 hb7 hbp7 hfw7
      rcases Nat.eq_zero_or_pos m2 with rfl | hpos
      · have hnil : ps1[j].p.ins = [] := List.eq_nil_of_length_eq_zero HP.out.2.2.2.1.symm
        rw [sp_get0 j z _ _ _ HP.out.2.2.2.2.2 hnil] at hst
        have HS := Lib.hid hst
        clear hst hnil
        go_upto_region 23 with fail
        obtain ⟨c', ps', hD, hcz, hFz, hBr⟩ : ∃ c' ps', RkDone (W7) gc W0.heap.size c' ps' (.slice (some ⟨g, 0, none⟩) es.length c2) (.slice (some ⟨gp, 0, none⟩) ps1.length cp) ∧ (c', ps'.map (·.p)) = stepN ⟨es, k, s, r⟩ (ps1.map (·.p)) ∧ Frm (fun _ => False) w (W7) ∧ Blk (W7) (gc + 1) 46 #[.slice none 0 0, .int .i64 0, .int .u32 0, .int .i64 0] :=
          ⟨_, _, H7.out.1.done, by rw [HS.out], H7.out.2.2.2.2, H7.out.2.2.1⟩
        clear d2 e1 f2 hfz p1
        generalize W7 = W6 at *
        have d0 : W6.cell? ⟨gc, 0, none⟩ = some (.slice (some ⟨g, 0, none⟩) es.length c2) := hD.1.cell 0
        have d1 : W6.cell? ⟨gc, 1, none⟩ = some (.int .i64 c'.at_) := hD.1.cell 1
        have d2 : W6.cell? ⟨gc, 2, none⟩ = some (.int .u32 c'.sum) := hD.1.cell 2
        have d3 : W6.cell? ⟨gc, 3, none⟩ = some (.int .i64 c'.wrong) := hD.1.cell 3
        have b0 : W6.cell? ⟨gc + 1, 0, none⟩ = some (.slice none 0 0) := hBr.cell 0
        have b1 : W6.cell? ⟨gc + 1, 1, none⟩ = some (.int .i64 0) := hBr.cell 1
        have b2 : W6.cell? ⟨gc + 1, 2, none⟩ = some (.int .u32 0) := hBr.cell 2
        have b3 : W6.cell? ⟨gc + 1, 3, none⟩ = some (.int .i64 0) := hBr.cell 3
        have f0 := hBr.frozen 0
        have f1 := hBr.frozen 1
        have f2 := hBr.frozen 2
        have f3 := hBr.frozen 3
        have HZ := Lib.hid (And.intro hD (And.intro hcz (And.intro hFz hBr)))
        clear hD hcz hFz hBr
        go_wp2_with fail
        obtain ⟨hB4, hF4⟩ := four HZ.out.2.2.2 (.slice (some ⟨g, 0, none⟩) es.length c2) (.int .i64 c'.at_) (.int .u32 c'.sum) (.int .i64 c'.wrong)
        refine bodyPost_ret (rstep_ret hB4 rfl rfl rfl) rfl ?_
        exact rdone_fin (c' := c') HZ.out.1 (by rw [HZ.out.2.1, H1.out.2.2.1]) H4.out.2.2.2.2.1.symm HZ.out.2.2.1 hF4 H4.out.2.2.2.1
      · have ho := H7.out.1.2.2.2.1 ps1[j] (List.getElem_mem hjx)
        rw [HP.out.2.2.1, ← HP.out.2.2.2.1] at ho
        obtain ⟨x0, xs, hxs⟩ : ∃ x0 xs, ps1[j].p.ins = x0 :: xs := by
          cases hh : ps1[j].p.ins with
          | nil => have := HP.out.2.2.2.1; rw [hh] at this; simp at this; omega
          | cons a l => exact ⟨a, l, rfl⟩
        rw [hxs] at ho
        obtain ⟨gi, rfl, y0⟩ := own_at ho 0 (by rw [uv_length]; simp)
        replace y0 : W7.cell? ⟨gi, 0, none⟩ = some (.int .u32 x0) := y0
        have hdr := run_drop (P := Try.prog) (t := 50) Try.underlying50 sizeU32 (some ⟨gi, 0, none⟩) m2 k2 1 (by omega) (by omega)
        obtain ⟨Ad, hAd⟩ : ∃ Ad : Option Addr, Ad = (if k2 = (1 : Int).toNat then (some ⟨gi, 0, none⟩ : Option Addr) else (some (⟨gi, 0, none⟩ : Addr)).map (·.add ((1 : Int).toNat * 1))) := ⟨_, rfl⟩
        rw [← hAd] at hdr
        replace hdr : ∀ w, (Instr.slice 50 (.slice (some ⟨gi, 0, none⟩) m2 k2) (some (.int .i64 1)) none none).run Try.prog w = .ok (.slice Ad (m2 - 1) (k2 - 1)) w := hdr
        rw [sp_get j z _ _ _ HP.out.2.2.2.2.2] at hst
        have hgs : getS s ps1[j].p = u32w (s * 31 + x0 + 1) := by unfold getS; rw [hxs]
        dsimp only at hst
        rw [hgs] at hst
        have H8 := Lib.hid (And.intro hxs (And.intro hAd hst))
        have hnn : (0 : Int) ≤ m2 := by omega
        clear ho hxs hAd hst hgs
        go_upto_region 16 with (go_region)
        have hrk8 := (H7.out.1.set_ (i := 2) (u := .int .u32 ((u32w (s * 31) + x0 + 1) % 4294967296)) (c' := ⟨es, (k : Int) + 1, u32w (s * 31 + x0 + 1), r⟩) (by rw [← u32w_mod, Int.add_assoc, u32w_add, ← Int.add_assoc]; rfl) rfl).keptF (Frm.refl _ _).drew
        have hFs : Frm (fun q => q = gc) W7 (W7.setCell ⟨gc, 2, none⟩ (.int .u32 ((u32w (s * 31) + x0 + 1) % 4294967296))).drew := ((Frm.refl (fun q => q = gc) W7).setCell ⟨gc, 2, none⟩ (.inl rfl) _).drew
        have hbx8 := H7.out.2.1.kept hFs (H7.out.2.1.ne_ H7.out.1.1 (by decide))
        have hb8 := H7.out.2.2.1.kept hFs (by omega)
        have hbp8 := H7.out.2.2.2.1.kept hFs (H7.out.2.2.2.1.ne_ H7.out.1.1 (by decide))
        have hfw8 : Frm (fun _ => False) w (W7.setCell ⟨gc, 2, none⟩ (.int .u32 ((u32w (s * 31) + x0 + 1) % 4294967296))).drew := H7.out.2.2.2.2.trans hFs fun q hq => .inr (by have := H.out.2.2.2.2.2.1; omega)
        replace p1 := hFs.cell p1 (H7.out.2.2.2.1.ne_ H7.out.1.1 (by decide))
        clear hFs d2 e1 f2 hfz y0
        generalize (W7.setCell ⟨gc, 2, none⟩ (.int .u32 ((u32w (s * 31) + x0 + 1) % 4294967296))).drew = W8 at *
        have e1 : W8.cell? ⟨Gx, 1, none⟩ = some (.int .i64 j) := hbx8.cell 1
        have hfz := hbp8.frozen (j * 3 + 1)
        have H9 := Lib.hid (And.intro hrk8 (And.intro hb8 (And.intro hbp8 hfw8)))
        clear hrk8 hbx8 hb8 hbp8 hfw8
        go_upto_region 23 with (go_region)
        have hsx := H9.out.1.2.2.ins hjx (Frm.refl _ W8)
        rw [HP.out.2.2.1] at hsx
        have hsd := hsx.drop 1 hpos
        have hAd : Ad = (if k2 = 1 then (some ⟨gi, 0, none⟩ : Option Addr) else (some (⟨gi, 0, none⟩ : Addr)).map (·.add 1)) := H8.out.2.1
        rw [← hAd] at hsd
        have hk6 := (H9.out.1.pset (u := .slice Ad (m2 - 1) (k2 - 1)) (x := ⟨.slice Ad (m2 - 1) (k2 - 1), { ps1[j].p with ins := ps1[j].p.ins.drop 1 }⟩) (Frm.refl _ W8) hjx (by omega : 1 < 3) rfl (by
          have h2 : uv (ps1[j].p.ins.drop 1) = (uv ps1[j].p.ins).drop 1 := by simp [uv]
          show Sl W8 _ (.slice Ad (m2 - 1) (k2 - 1)) (uv (ps1[j].p.ins.drop 1))
          rw [h2]
          exact hsd)).drew
        have hFg : Frm (fun q => q = gp) W8 (W8.setCell ⟨gp, j * 3 + 1, none⟩ (.slice Ad (m2 - 1) (k2 - 1))).drew := ((Frm.refl (fun q => q = gp) W8).setCell ⟨gp, j * 3 + 1, none⟩ (.inl rfl) _).drew
        obtain ⟨c', ps', hD, hcz, hFz, hBr⟩ : ∃ c' ps', RkDone ((W8.setCell ⟨gp, j * 3 + 1, none⟩ (.slice Ad (m2 - 1) (k2 - 1))).drew) gc W0.heap.size c' ps' (.slice (some ⟨g, 0, none⟩) es.length c2) (.slice (some ⟨gp, 0, none⟩) ps1.length cp) ∧ (c', ps'.map (·.p)) = stepN ⟨es, k, s, r⟩ (ps1.map (·.p)) ∧ Frm (fun _ => False) w ((W8.setCell ⟨gp, j * 3 + 1, none⟩ (.slice Ad (m2 - 1) (k2 - 1))).drew) ∧ Blk ((W8.setCell ⟨gp, j * 3 + 1, none⟩ (.slice Ad (m2 - 1) (k2 - 1))).drew) (gc + 1) 46 #[.slice none 0 0, .int .i64 0, .int .u32 0, .int .i64 0] :=
          ⟨_, _, hk6, by rw [H8.out.2.2]; exact Prod.ext rfl (set_map ps1 j _ getP hjx rfl), H9.out.2.2.2.trans hFg fun q hq => .inr (by have := H.out.2.2.2.2.2.1; have := H.out.2.2.2.2.2.2.2.2.2.2; have := HP.out.2.1; omega), H9.out.2.1.kept hFg (by have := H.out.2.2.2.2.2.2.2.2.2.2; have := HP.out.2.1; omega)⟩
        clear hk6 hFg hsx hsd hAd p1 e1 hfz hdr
        generalize (W8.setCell ⟨gp, j * 3 + 1, none⟩ (.slice Ad (m2 - 1) (k2 - 1))).drew = W6 at *
        have d0 : W6.cell? ⟨gc, 0, none⟩ = some (.slice (some ⟨g, 0, none⟩) es.length c2) := hD.1.cell 0
        have d1 : W6.cell? ⟨gc, 1, none⟩ = some (.int .i64 c'.at_) := hD.1.cell 1
        have d2 : W6.cell? ⟨gc, 2, none⟩ = some (.int .u32 c'.sum) := hD.1.cell 2
        have d3 : W6.cell? ⟨gc, 3, none⟩ = some (.int .i64 c'.wrong) := hD.1.cell 3
        have b0 : W6.cell? ⟨gc + 1, 0, none⟩ = some (.slice none 0 0) := hBr.cell 0
        have b1 : W6.cell? ⟨gc + 1, 1, none⟩ = some (.int .i64 0) := hBr.cell 1
        have b2 : W6.cell? ⟨gc + 1, 2, none⟩ = some (.int .u32 0) := hBr.cell 2
        have b3 : W6.cell? ⟨gc + 1, 3, none⟩ = some (.int .i64 0) := hBr.cell 3
        have f0 := hBr.frozen 0
        have f1 := hBr.frozen 1
        have f2 := hBr.frozen 2
        have f3 := hBr.frozen 3
        have HZ := Lib.hid (And.intro hD (And.intro hcz (And.intro hFz hBr)))
        clear hD hcz hFz hBr
        go_wp2_with fail
        obtain ⟨hB4, hF4⟩ := four HZ.out.2.2.2 (.slice (some ⟨g, 0, none⟩) es.length c2) (.int .i64 c'.at_) (.int .u32 c'.sum) (.int .i64 c'.wrong)
        refine bodyPost_ret (rstep_ret hB4 rfl rfl rfl) rfl ?_
        exact rdone_fin (c' := c') HZ.out.1 (by rw [HZ.out.2.1, H1.out.2.2.1]) H4.out.2.2.2.2.1.symm HZ.out.2.2.1 hF4 H4.out.2.2.2.1
    case inr.inr.inl =>
      rw [sp_add] at hst
      have HS := Lib.hid hst
      clear hst
      go_upto_region 23 with fail
      have hrk6 := H5.out.1.set_ (i := 2) (u := .int .u32 ((s + z) % 4294967296)) (c' := ⟨es, (k : Int) + 1, u32w (s + z), r⟩) (by rw [u32w_mod]; rfl) rfl
      have hFs : Frm (fun q => q = gc) W5 (W5.setCell ⟨gc, 2, none⟩ (.int .u32 ((s + z) % 4294967296))) := (Frm.refl (fun q => q = gc) W5).setCell ⟨gc, 2, none⟩ (.inl rfl) _
      obtain ⟨c', ps', hD, hcz, hFz, hBr⟩ : ∃ c' ps', RkDone (W5.setCell ⟨gc, 2, none⟩ (.int .u32 ((s + z) % 4294967296))) gc W0.heap.size c' ps' (.slice (some ⟨g, 0, none⟩) es.length c2) (.slice Ap np cp) ∧ (c', ps'.map (·.p)) = stepN ⟨es, k, s, r⟩ (ps1.map (·.p)) ∧ Frm (fun _ => False) w (W5.setCell ⟨gc, 2, none⟩ (.int .u32 ((s + z) % 4294967296))) ∧ Blk (W5.setCell ⟨gc, 2, none⟩ (.int .u32 ((s + z) % 4294967296))) (gc + 1) 46 #[.slice none 0 0, .int .i64 0, .int .u32 0, .int .i64 0] :=
        ⟨_, _, hrk6.done, by rw [HS.out], H5.out.2.2.2.trans hFs fun q hq => .inr (by have := H.out.2.2.2.2.2.1; omega), H5.out.2.2.1.kept hFs (by omega)⟩
      clear hrk6 hFs d0 d1 d2 d3 e0 e1 e2 f1 f2 f3
      generalize W5.setCell ⟨gc, 2, none⟩ (.int .u32 ((s + z) % 4294967296)) = W6 at *
      have d0 : W6.cell? ⟨gc, 0, none⟩ = some (.slice (some ⟨g, 0, none⟩) es.length c2) := hD.1.cell 0
      have d1 : W6.cell? ⟨gc, 1, none⟩ = some (.int .i64 c'.at_) := hD.1.cell 1
      have d2 : W6.cell? ⟨gc, 2, none⟩ = some (.int .u32 c'.sum) := hD.1.cell 2
      have d3 : W6.cell? ⟨gc, 3, none⟩ = some (.int .i64 c'.wrong) := hD.1.cell 3
      have b0 : W6.cell? ⟨gc + 1, 0, none⟩ = some (.slice none 0 0) := hBr.cell 0
      have b1 : W6.cell? ⟨gc + 1, 1, none⟩ = some (.int .i64 0) := hBr.cell 1
      have b2 : W6.cell? ⟨gc + 1, 2, none⟩ = some (.int .u32 0) := hBr.cell 2
      have b3 : W6.cell? ⟨gc + 1, 3, none⟩ = some (.int .i64 0) := hBr.cell 3
      have f0 := hBr.frozen 0
      have f1 := hBr.frozen 1
      have f2 := hBr.frozen 2
      have f3 := hBr.frozen 3
      have HZ := Lib.hid (And.intro hD (And.intro hcz (And.intro hFz hBr)))
      clear hD hcz hFz hBr
      go_wp2_with fail
      obtain ⟨hB4, hF4⟩ := four HZ.out.2.2.2 (.slice (some ⟨g, 0, none⟩) es.length c2) (.int .i64 c'.at_) (.int .u32 c'.sum) (.int .i64 c'.wrong)
      refine bodyPost_ret (rstep_ret hB4 rfl rfl rfl) rfl ?_
      exact rdone_fin (c' := c') HZ.out.1 (by rw [HZ.out.2.1, H1.out.2.2.1]) H4.out.2.2.2.2.1.symm HZ.out.2.2.1 hF4 H4.out.2.2.2.1
    case inr.inr.inr.inl =>
      obtain ⟨h5, h6⟩ := H4.out.2.2.2.2.2.2.2.2 (by omega)
      obtain ⟨j, rfl⟩ : ∃ j : Nat, q = j := ⟨q.toNat, by omega⟩
      have hjx : j < ps1.length := by omega
      obtain ⟨rfl, gp, cs, rfl, hbp, hgp, p0, p1, p2⟩ := H5.out.1.2.2.pipe hjx
      have hgj : (ps1.map (·.p))[j]? = some ps1[j].p := by rw [List.getElem?_map, List.getElem?_eq_getElem hjx]; rfl
      have hfz := hbp.frozen (j * 3 + 2)
      rw [sp_close j z] at hst
      have HP := Lib.hid (And.intro hgp hst)
      clear hbp hgp hst hgj h5 h6
      go_upto_region 23 with fail
      have hk6 := H5.out.1.pset (u := .bool true) (x := ⟨ps1[j].v, { ps1[j].p with closed := true }⟩) (Frm.refl _ W5) hjx (by omega : 2 < 3) rfl (H5.out.1.2.2.ins hjx (Frm.refl _ W5))
      have hFs : Frm (fun q => q = gp) W5 (W5.setCell ⟨gp, j * 3 + 2, none⟩ (.bool true)) := (Frm.refl (fun q => q = gp) W5).setCell ⟨gp, j * 3 + 2, none⟩ (.inl rfl) _
      obtain ⟨c', ps', hD, hcz, hFz, hBr⟩ : ∃ c' ps', RkDone (W5.setCell ⟨gp, j * 3 + 2, none⟩ (.bool true)) gc W0.heap.size c' ps' (.slice (some ⟨g, 0, none⟩) es.length c2) (.slice (some ⟨gp, 0, none⟩) ps1.length cp) ∧ (c', ps'.map (·.p)) = stepN ⟨es, k, s, r⟩ (ps1.map (·.p)) ∧ Frm (fun _ => False) w (W5.setCell ⟨gp, j * 3 + 2, none⟩ (.bool true)) ∧ Blk (W5.setCell ⟨gp, j * 3 + 2, none⟩ (.bool true)) (gc + 1) 46 #[.slice none 0 0, .int .i64 0, .int .u32 0, .int .i64 0] :=
        ⟨_, _, hk6, by rw [HP.out.2]; exact Prod.ext rfl (set_map ps1 j _ (fun p => { p with closed := true }) hjx rfl), H5.out.2.2.2.trans hFs fun q hq => .inr (by have := H.out.2.2.2.2.2.1; have := H.out.2.2.2.2.2.2.2.2.2.2; have := HP.out.1; omega), H5.out.2.2.1.kept hFs (by have := H.out.2.2.2.2.2.2.2.2.2.2; have := HP.out.1; omega)⟩
      clear hk6 hFs d0 d1 d2 d3 e0 e1 e2 f1 f2 f3 p0 p1 p2 hfz
      generalize W5.setCell ⟨gp, j * 3 + 2, none⟩ (.bool true) = W6 at *
      have d0 : W6.cell? ⟨gc, 0, none⟩ = some (.slice (some ⟨g, 0, none⟩) es.length c2) := hD.1.cell 0
      have d1 : W6.cell? ⟨gc, 1, none⟩ = some (.int .i64 c'.at_) := hD.1.cell 1
      have d2 : W6.cell? ⟨gc, 2, none⟩ = some (.int .u32 c'.sum) := hD.1.cell 2
      have d3 : W6.cell? ⟨gc, 3, none⟩ = some (.int .i64 c'.wrong) := hD.1.cell 3
      have b0 : W6.cell? ⟨gc + 1, 0, none⟩ = some (.slice none 0 0) := hBr.cell 0
      have b1 : W6.cell? ⟨gc + 1, 1, none⟩ = some (.int .i64 0) := hBr.cell 1
      have b2 : W6.cell? ⟨gc + 1, 2, none⟩ = some (.int .u32 0) := hBr.cell 2
      have b3 : W6.cell? ⟨gc + 1, 3, none⟩ = some (.int .i64 0) := hBr.cell 3
      have f0 := hBr.frozen 0
      have f1 := hBr.frozen 1
      have f2 := hBr.frozen 2
      have f3 := hBr.frozen 3
      have HZ := Lib.hid (And.intro hD (And.intro hcz (And.intro hFz hBr)))
      clear hD hcz hFz hBr
      go_wp2_with fail
      obtain ⟨hB4, hF4⟩ := four HZ.out.2.2.2 (.slice (some ⟨g, 0, none⟩) es.length c2) (.int .i64 c'.at_) (.int .u32 c'.sum) (.int .i64 c'.wrong)
      refine bodyPost_ret (rstep_ret hB4 rfl rfl rfl) rfl ?_
      exact rdone_fin (c' := c') HZ.out.1 (by rw [HZ.out.2.1, H1.out.2.2.1]) H4.out.2.2.2.2.1.symm HZ.out.2.2.1 hF4 H4.out.2.2.2.1
    case inr.inr.inr.inr =>
      rw [sp_stop] at hst
      have HS := Lib.hid hst
      clear hst
      go_upto_region 23 with fail
      have hrk6 := H5.out.1.set_ (i := 1) (u := .int .i64 (es.length : Int)) (c' := ⟨es, (es.length : Int), s, r⟩) rfl rfl
      have hFs : Frm (fun q => q = gc) W5 (W5.setCell ⟨gc, 1, none⟩ (.int .i64 (es.length : Int))) := (Frm.refl (fun q => q = gc) W5).setCell ⟨gc, 1, none⟩ (.inl rfl) _
      obtain ⟨c', ps', hD, hcz, hFz, hBr⟩ : ∃ c' ps', RkDone (W5.setCell ⟨gc, 1, none⟩ (.int .i64 (es.length : Int))) gc W0.heap.size c' ps' (.slice (some ⟨g, 0, none⟩) es.length c2) (.slice Ap np cp) ∧ (c', ps'.map (·.p)) = stepN ⟨es, k, s, r⟩ (ps1.map (·.p)) ∧ Frm (fun _ => False) w (W5.setCell ⟨gc, 1, none⟩ (.int .i64 (es.length : Int))) ∧ Blk (W5.setCell ⟨gc, 1, none⟩ (.int .i64 (es.length : Int))) (gc + 1) 46 #[.slice none 0 0, .int .i64 0, .int .u32 0, .int .i64 0] :=
        ⟨_, _, hrk6.done, by rw [HS.out], H5.out.2.2.2.trans hFs fun q hq => .inr (by have := H.out.2.2.2.2.2.1; omega), H5.out.2.2.1.kept hFs (by omega)⟩
      clear hrk6 hFs d0 d1 d2 d3 e0 e1 e2 f1 f2 f3
      generalize W5.setCell ⟨gc, 1, none⟩ (.int .i64 (es.length : Int)) = W6 at *
      have d0 : W6.cell? ⟨gc, 0, none⟩ = some (.slice (some ⟨g, 0, none⟩) es.length c2) := hD.1.cell 0
      have d1 : W6.cell? ⟨gc, 1, none⟩ = some (.int .i64 c'.at_) := hD.1.cell 1
      have d2 : W6.cell? ⟨gc, 2, none⟩ = some (.int .u32 c'.sum) := hD.1.cell 2
      have d3 : W6.cell? ⟨gc, 3, none⟩ = some (.int .i64 c'.wrong) := hD.1.cell 3
      have b0 : W6.cell? ⟨gc + 1, 0, none⟩ = some (.slice none 0 0) := hBr.cell 0
      have b1 : W6.cell? ⟨gc + 1, 1, none⟩ = some (.int .i64 0) := hBr.cell 1
      have b2 : W6.cell? ⟨gc + 1, 2, none⟩ = some (.int .u32 0) := hBr.cell 2
      have b3 : W6.cell? ⟨gc + 1, 3, none⟩ = some (.int .i64 0) := hBr.cell 3
      have f0 := hBr.frozen 0
      have f1 := hBr.frozen 1
      have f2 := hBr.frozen 2
      have f3 := hBr.frozen 3
      have HZ := Lib.hid (And.intro hD (And.intro hcz (And.intro hFz hBr)))
      clear hD hcz hFz hBr
      go_wp2_with fail
      obtain ⟨hB4, hF4⟩ := four HZ.out.2.2.2 (.slice (some ⟨g, 0, none⟩) es.length c2) (.int .i64 c'.at_) (.int .u32 c'.sum) (.int .i64 c'.wrong)
      refine bodyPost_ret (rstep_ret hB4 rfl rfl rfl) rfl ?_
      exact rdone_fin (c' := c') HZ.out.1 (by rw [HZ.out.2.1, H1.out.2.2.1]) H4.out.2.2.2.2.1.symm HZ.out.2.2.1 hF4 H4.out.2.2.2.1
end Go.Proofs.Ytnibllkcacalhaa
