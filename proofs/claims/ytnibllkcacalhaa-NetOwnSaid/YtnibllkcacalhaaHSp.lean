/- The walk of (*net.work).step. -/
import Derived.Test.YtnibllkcacalhaaGF
namespace Go.Proofs.Ytnibllkcacalhaa
set_option maxRecDepth 100000
open Go.RowKit
def StepW (B b : Nat) (N : Nt) (k : Nat) (w : World) (e : Ending) (w' : World) : Prop := (∃ v, e = .returned v) ∧ WAt w' B b (stepC N k) ∧ Frm (NetK w B) w w'
set_option maxHeartbeats 3200000 in
theorem step_w (B b : Nat) (N : Nt) (k : Nat) (w : World) (h : WAt w B b N) (hk : k ∈ readyNt N) : Calls Try.prog 37 #[.pointer (some ⟨b, 0, none⟩), .int .i64 k] w (StepW B b N k w) := by
  obtain ⟨hr, c, hc, hrd, hkl⟩ := ready_of hk
  have hsm := right_sm hr
  obtain ⟨vp, vc, ps, cks, hW, hp, hcs⟩ := h
  obtain ⟨A1, n1, c1, rfl⟩ := hW.2.2.2.1.form
  obtain ⟨A, cc, rfl, -, -⟩ := own_form hW.2.2.1
  have hkx : k < cks.length := by rw [← hcs, List.length_map] at hkl; exact hkl
  obtain ⟨-, -, -, hx⟩ := hW.cs.cells
  obtain ⟨g, o, rfl, hg, d0, d1, d2, d3⟩ := hx k hkx
  have ho0 : o = 0 := by
    rcases hW.2.2.1.2 with ⟨e, -⟩ | ⟨g', cap, cur, e, -⟩
    · cases e
    · injection e with e; injection e with e; injection e
  subst ho0
  have hck : cks[k].c = c := by
    rw [← hcs, List.getElem?_map, List.getElem?_eq_getElem hkx] at hc
    simpa using hc
  rw [hck] at d1 d2 d3
  have hrow := hW.2.2.2.2 cks[k] (List.getElem_mem hkx)
  rw [hck] at hrow
  obtain ⟨A5, n5, c5, e5, hn5, -⟩ := id hrow
  rw [e5] at d0 hrow
  obtain ⟨es, a, s, r⟩ := c
  dsimp only at *
  have hst := fun (W : World) (hF : Frm (fun _ => False) w W) => step_any A5 n5 c5 a s r es A1 n1 c1 ps W (hrow.keptTo fun q hq => ⟨hF.block q hq.2.1 id, Nat.lt_of_lt_of_le hq.2.1 hF.size⟩) (hW.2.2.2.1.keptTo fun q hq => ⟨hF.block q hq.2.1 id, Nat.lt_of_lt_of_le hq.2.1 hF.size⟩)
    (by have := hsm.2.2.2 _ (List.mem_of_getElem? hc); have := hrow.cells.1; dsimp only at *; omega) (by have := hW.2.2.2.1.cells.1; have := hsm.1; rw [← hp, List.length_map] at this; omega) (fun p hp' => by have := hsm.2.2.1 p.p (by rw [← hp]; exact List.mem_map_of_mem hp'); omega)
  have b0 : w.cell? ⟨b, 0, none⟩ = some (.slice A1 n1 c1) := hW.1.cell 0
  have b1 : w.cell? ⟨b, 1, none⟩ = some (.slice (some ⟨g, 0, none⟩) cks.length cc) := hW.1.cell 1
  have u0 := hW.1.frozen 0
  have hgb := own_blk_ne hW.2.2.1 hW.1 (by decide)
  obtain ⟨cur, hcur⟩ := own_blk hW.2.2.1 g rfl
  have g0 := hcur.frozen (k * 4)
  have g1 := hcur.frozen (k * 4 + 1)
  have g2 := hcur.frozen (k * 4 + 2)
  have g3 := hcur.frozen (k * 4 + 3)
  simp only [Nat.zero_add] at d0 d1 d2 d3
  have H := Lib.hid (And.intro hW (And.intro hst (And.intro hgb (And.intro hcur (And.intro hp (And.intro hcs (And.intro hc (And.intro hrd (And.intro hkl hsm)))))))))
  have hbl := hW.1.lt
  have hgl := hcur.lt
  obtain ⟨L, hL⟩ : ∃ L, L = cks.length := ⟨_, rfl⟩
  rw [← hL] at b1 hkx
  have HL := Lib.hid hL
  have n1' : ¬ g = b := fun e => hgb (by rw [e]; rfl)
  have n2' : ¬ b = g := fun e => n1' e.symm
  clear hW hst hgb hcur hp hcs hc hrd hkl hsm hg hrow e5 hn5 hx hr hk hck hL
  go_enter Try.func37, Try.ntmps37
  go_region_law (refine step_call (by rfl) (H.out.2.1 _ (by exact (Frm.refl (fun _ => False) w).drew)) _ _ (by rfl) (args2 (by rfl) (by rfl)) (Try.call57 _ _) ?_; rintro e w2 ⟨Ar, nr, cr, Ap, np, cp, ps', c', b', rfl, hs2, hr2, hp2, hF2⟩; refine ⟨_, rfl, ?_⟩; have hb2 : Blk w2 b 66 #[.slice A1 n1 c1, .slice (some ⟨g, 0, none⟩) L cc] := ((show Blk w b 66 _ from HL.out ▸ H.out.1.1).drew).kept hF2 id; have hc2 := (H.out.2.2.2.1.drew).kept hF2 id; have y0 : w2.cell? ⟨b, 0, none⟩ = some (.slice A1 n1 c1) := hb2.cell 0; have y1 : w2.cell? ⟨b, 1, none⟩ = some (.slice (some ⟨g, 0, none⟩) L cc) := hb2.cell 1; have z0 := hb2.frozen 0; have v0 := hc2.frozen (k * 4); have v1 := hc2.frozen (k * 4 + 1); have v2 := hc2.frozen (k * 4 + 2); have v3 := hc2.frozen (k * 4 + 3); have x0 : w2.cell? ⟨g, k * 4, none⟩ = some (.slice A5 n5 c5) := hF2.cell (w := w.drew) d0 id; have x1 : w2.cell? ⟨g, k * 4 + 1, none⟩ = some (.int .i64 a) := hF2.cell (w := w.drew) d1 id; have x2 : w2.cell? ⟨g, k * 4 + 2, none⟩ = some (.int .u32 s) := hF2.cell (w := w.drew) d2 id; have x3 : w2.cell? ⟨g, k * 4 + 3, none⟩ = some (.int .i64 r) := hF2.cell (w := w.drew) d3 id; have H2 := Lib.hid (And.intro hs2 (And.intro hr2 (And.intro hp2 (And.intro hF2 (And.intro hb2 hc2))))); clear hs2 hr2 hp2 hF2 hb2 hc2)
  all_goals
    go_end0
    refine ⟨⟨_, rfl⟩, ?_⟩
    have hst := WA.step (k := k) (c' := c') (HL.out ▸ H.out.1) HL.out (by rw [← HL.out]; exact hkx) ((Frm.refl (fun _ => False) w).drew.trans H2.out.2.2.2.1 fun _ h => h.elim) H2.out.2.1 H2.out.2.2.1
    refine ⟨?_, hst.2⟩
    have e : stepC N k = ⟨ps'.map (·.p), (cks.map (·.c)).set k c'⟩ := by
      unfold stepC
      rw [H.out.2.2.2.2.2.2.1]
      have h1 := H2.out.1.2
      rw [H.out.2.2.2.2.1] at h1
      show (⟨(stepN ⟨es, a, s, r⟩ N.ps).2, N.cs.set k (stepN ⟨es, a, s, r⟩ N.ps).1⟩ : Nt) = _
      rw [← h1, H.out.2.2.2.2.2.1]
    rw [e]
    exact hst.1
end Go.Proofs.Ytnibllkcacalhaa
