/- The walk of chore.Step. -/
import Derived.Test.YtbfcpapehfdphaaDo
import Derived.Test.YtbfcpapehfdphaaRy
namespace Go.Proofs.Ytbfcpapehfdphaa
open Go.RowKit
theorem may_d {m : Int} {x : Er} (h : mayB m x = true) : (1 ≤ x.d ∧ x.d ≤ 5) ∧ (x.d = 1 ∨ x.d = 2 ∨ x.d = 4 → 0 ≤ x.q ∧ x.q < m) := by
  obtain ⟨d, q, n⟩ := x
  refine ⟨?_, fun hd => may_range h hd⟩
  by_cases h1 : d = 1
  · subst h1; dsimp only; omega
  · by_cases h2 : d = 2
    · subst h2; dsimp only; omega
    · by_cases h3 : d = 3
      · subst h3; dsimp only; omega
      · by_cases h4 : d = 4
        · subst h4; dsimp only; omega
        · by_cases h5 : d = 5
          · subst h5; dsimp only; omega
          · rw [mayB_no m d q n h1 h2 h3 h4 h5] at h; cases h
/-- What a ready chore has. -/
theorem ready_parts {es : List Er} {a s r : Int} {l : List Pi} (h : readyB ⟨es, a, s, r⟩ l = true) : ∃ (k : Nat) (x : Er), a = k ∧ es[k]? = some x ∧ (x.d = 1 ∨ x.d = 2 ∨ x.d = 4 → 0 ≤ x.q ∧ x.q < l.length) ∧ k ≤ 64 ∧ (0 ≤ r ∧ r ≤ 64) ∧ (1 ≤ x.d ∧ x.d ≤ 5) ∧
    stepN ⟨es, a, s, r⟩ l = (choreN x ⟨es, a, s, r⟩ l[x.q.toNat]?, pipesN x ⟨es, a, s, r⟩ l) := by
  have h0 := h
  unfold readyB overB at h
  simp only [Bool.and_eq_true, Bool.not_eq_true', decide_eq_false_iff_not] at h
  obtain ⟨h1, h2, h3, h4⟩ := h
  obtain ⟨k, rfl, x, hx, hm, hk⟩ := next_of h2 h3
  obtain ⟨g1, g2, g3, g4, g5, g6⟩ := head_of h2
  obtain ⟨d1, d2⟩ := may_d hm
  refine ⟨k, x, rfl, hx, d2, by omega, ⟨g4, g5⟩, d1, ?_⟩
  unfold stepN
  rw [if_pos h0]
  simp [hx]
def StepPost (c : Ch) (ps : List Pk) (w : World) (e : Ending) (w' : World) : Prop := ∃ (Ar : Option Addr) (nr cr : Nat) (Ap : Option Addr) (np cp : Nat) (ps' : List Pk) (c' : Ch) (b : Bool),
  e = .returned (.tuple #[.agg #[.slice Ar nr cr, .int .i64 c'.at_, .int .u32 c'.sum, .int .i64 c'.wrong], .slice Ap np cp, .bool b]) ∧ (b = readyB c (ps.map (·.p)) ∧ (c', ps'.map (·.p)) = stepN c (ps.map (·.p))) ∧
  RAt w' (fun q => w.heap.size ≤ q ∧ q < w'.heap.size) (.slice Ar nr cr) c'.row ∧ PAt w' (fun q => w.heap.size ≤ q ∧ q < w'.heap.size) (.slice Ap np cp) ps' ∧ Frm (fun _ => False) w w'
theorem results_c2 {P : Program} {fn : Func} {p u v : Tmp} {ty : TypeId} (h : fn.results = #[.cell p ty, .tmp u, .tmp v]) (tmps : Array Value) (w : World) (g : Nat) (t : TypeId) (cs : Array Value) (fr : Nat × Nat) (d : TypeDesc)
    (hp : tmps.getD p undef = .pointer (some ⟨g, 0, none⟩)) (hg : w.heap[g]? = some (.cells cs t fr))
    (hu : P.underlying ty = some d) (hd : (match d with | .struct _ | .array _ _ => true | _ => false) = true) (hi : (P.info? ty).map (·.size) = some cs.size) :
    (results fn tmps).run P w = .ok (.tuple #[.agg cs, tmps.getD u undef, tmps.getD v undef]) w := by
  have hp' : tmps[p]?.getD undef = .pointer (some ⟨g, 0, none⟩) := by simpa using hp
  simp [results, h, hp', asAddr, run_loadVar_row w g t ty cs fr d hg hu hd hi]
theorem step_ret {vr x y : Value} {a s r : Int} {tmps : Array Value} {w : World} {b : Nat} (h : Blk w b 25 #[vr, .int .i64 a, .int .u32 s, .int .i64 r]) (h4 : tmps.getD 4 undef = .pointer (some ⟨b, 0, none⟩)) (h5 : tmps.getD 5 undef = x) (h6 : tmps.getD 6 undef = y) :
    (results Try.f8 tmps).run Try.prog w = .ok (.tuple #[.agg #[vr, .int .i64 a, .int .u32 s, .int .i64 r], x, y]) w := by
  rw [results_c2 (u := 5) (v := 6) rfl tmps w b 25 _ (0, 0) _ h4 h Try.underlying25 rfl (by kernel_rfl), h5, h6]
/-- The end of Step, at what stands in the work. -/
theorem done_fin {w W W' : World} {b nb B : Nat} {c c' : Ch} {ps ps' : List Pk} {vr vp : Value} {rb : Bool} (hd : DoneAt W b nb c' ps' vr vp) (hc : (c', ps'.map (·.p)) = stepN c (ps.map (·.p))) (hr : rb = readyB c (ps.map (·.p))) (hF : Frm (fun _ => False) w W) (hF' : Frm (fun q => q = B) W W') (hB : w.heap.size ≤ B ∧ B < nb) :
    StepPost c ps w (.returned (.tuple #[.agg #[vr, .int .i64 c'.at_, .int .u32 c'.sum, .int .i64 c'.wrong], vp, .bool rb])) W' := by
  obtain ⟨Ar, cr, rfl, -, -⟩ := own_form hd.2.1
  obtain ⟨Ap, np, cp, rfl, -⟩ := id hd.2.2.1
  refine ⟨Ar, _, cr, Ap, np, cp, ps', c', rb, rfl, ⟨hr, hc⟩, ?_, ?_, hF.trans hF' fun q hq => .inr (by omega)⟩
  · have h1 : RAt W (fun q => nb ≤ q ∧ q < W.heap.size) (.slice Ar c'.row.length cr) c'.row := SlZ.of_own hd.2.1 fun q hq => World.ownsRow.lt hd.2.1 q hq
    exact h1.keptTo fun q hq => ⟨hF'.block q hq.2 (by omega), by omega, Nat.lt_of_lt_of_le hq.2 hF'.size⟩
  · exact hd.2.2.keptTo fun q hq => ⟨hF'.block q hq.2 (by omega), by omega, Nat.lt_of_lt_of_le hq.2 hF'.size⟩
/-- The result's box, written whole. -/
theorem four {W : World} {g : Nat} {t : TypeId} {x0 x1 x2 x3 : Value} (h : Blk W g t #[x0, x1, x2, x3]) (y0 y1 y2 y3 : Value) :
    Blk ((((W.setCell ⟨g, 0, none⟩ y0).setCell ⟨g, 1, none⟩ y1).setCell ⟨g, 2, none⟩ y2).setCell ⟨g, 3, none⟩ y3) g t #[y0, y1, y2, y3] ∧ Frm (fun q => q = g) W ((((W.setCell ⟨g, 0, none⟩ y0).setCell ⟨g, 1, none⟩ y1).setCell ⟨g, 2, none⟩ y2).setCell ⟨g, 3, none⟩ y3) :=
  ⟨(((h.set_ 0 y0).set_ 1 y1).set_ 2 y2).set_ 3 y3, ((((Frm.refl (fun q => q = g) W).setCell ⟨g, 0, none⟩ (.inl rfl) _).setCell ⟨g, 1, none⟩ (.inl rfl) _).setCell ⟨g, 2, none⟩ (.inl rfl) _).setCell ⟨g, 3, none⟩ (.inl rfl) _⟩
set_option maxHeartbeats 3200000 in
theorem step_any (A : Option Addr) (n c : Nat) (a s r : Int) (es : List Er) (A1 : Option Addr) (n1 c1 : Nat) (ps : List Pk) (w : World) (h : RAt w (fun q => q < w.heap.size) (.slice A n c) es) (h1 : PAt w (fun q => q < w.heap.size) (.slice A1 n1 c1) ps) (hn : n ≤ 1000000) (hn1 : n1 ≤ 1000) (hin : ∀ p ∈ ps, p.p.ins.length ≤ 1000000) :
    Calls Try.prog 8 #[.agg #[.slice A n c, .int .i64 a, .int .u32 s, .int .i64 r], .slice A1 n1 c1] w (StepPost ⟨es, a, s, r⟩ ps w) := by
  obtain ⟨gc, hgc⟩ : ∃ g, g = w.heap.size := ⟨_, rfl⟩
  obtain ⟨W0, hW0⟩ : ∃ W, W = (w.alloc (.cells #[.slice A n c, .int .i64 a, .int .u32 s, .int .i64 r] 25)).alloc (.cells #[.slice none 0 0, .int .i64 0, .int .u32 0, .int .i64 0] 25) := ⟨_, rfl⟩
  obtain ⟨hF, hb1, hb2⟩ : Frm (fun _ => False) w W0 ∧ Blk W0 gc 25 #[.slice A n c, .int .i64 a, .int .u32 s, .int .i64 r] ∧ Blk W0 (gc + 1) 25 #[.slice none 0 0, .int .i64 0, .int .u32 0, .int .i64 0] := by
    subst hgc hW0
    refine ⟨((Frm.refl _ w).alloc _).alloc _, (Blk.new w _ _).alloc _, ?_⟩
    have := Blk.new (w.alloc (.cells #[.slice A n c, .int .i64 a, .int .u32 s, .int .i64 r] 25)) 25 #[.slice none 0 0, .int .i64 0, .int .u32 0, .int .i64 0]
    rwa [World.size_alloc] at this
  have hown := own_any A n c a s r es A1 n1 c1 ps W0 (h.keptTo fun q hq => ⟨hF.block q hq id, Nat.lt_of_lt_of_le hq hF.size⟩) (h1.keptTo fun q hq => ⟨hF.block q hq id, Nat.lt_of_lt_of_le hq hF.size⟩) hn hn1 hin
  have hrd := fun (W : World) (hW : Frm (fun _ => False) W0 W) => ready_any A n c a s r es A1 n1 c1 ps W (h.keptTo fun q hq => ⟨(hF.trans hW fun _ h => h.elim).block q hq id, Nat.lt_of_lt_of_le hq (hF.trans hW fun _ h => h.elim).size⟩) (h1.keptTo fun q hq => ⟨(hF.trans hW fun _ h => h.elim).block q hq id, Nat.lt_of_lt_of_le hq (hF.trans hW fun _ h => h.elim).size⟩)
  have hps := h1.cells.1
  have H := Lib.hid (And.intro hown (And.intro hrd (And.intro hF (And.intro hb1 (And.intro hb2 (And.intro hgc (And.intro hps hin)))))))
  have c0 : W0.cell? ⟨gc, 0, none⟩ = some (.slice A n c) := hb1.cell 0
  have c1' : W0.cell? ⟨gc, 1, none⟩ = some (.int .i64 a) := hb1.cell 1
  have c2 : W0.cell? ⟨gc, 2, none⟩ = some (.int .u32 s) := hb1.cell 2
  have c3 : W0.cell? ⟨gc, 3, none⟩ = some (.int .i64 r) := hb1.cell 3
  clear h h1 hin hown hrd hF hb1 hb2 hps
  go_enter Try.func8, Try.ntmps8
  go_upto_region 1 with fail
  rw [← hgc, ← hW0]
  clear hW0 hgc
  go_wp2_with fail
  refine H.out.1.mono ?_
  rintro e w1 ⟨b, ps1, vr, vp, rfl, hbn, hWk, hpp, hF1⟩
  replace c0 := hF1.cell c0 id
  replace c1' := hF1.cell c1' id
  replace c2 := hF1.cell c2 id
  replace c3 := hF1.cell c3 id
  have H1 := Lib.hid (And.intro hWk (And.intro hpp (And.intro hF1 hbn)))
  clear hWk hpp hF1 hbn
  go_wp2_with fail
  refine (H.out.2.1 w1 H1.out.2.2.1).mono ?_
  rintro e w2 ⟨rfl, hF2⟩
  have hwk := H1.out.1.keptF hF2
  have hF02 := H1.out.2.2.1.trans hF2 fun _ h => h.elim
  have hb2 := H.out.2.2.2.2.1.kept hF02 id
  have hfw := H.out.2.2.1.trans hF02 fun _ h => h.elim
  have hsz : W0.heap.size ≤ b := H1.out.2.2.2
  have hW0s : gc + 1 < W0.heap.size := H.out.2.2.2.2.1.lt
  have hws : w.heap.size ≤ gc := Nat.le_of_eq H.out.2.2.2.2.2.1.symm
  cases hR : readyB ⟨es, a, s, r⟩ (ps.map (·.p)) with
  | false =>
    obtain ⟨d0, d1, d2, d3, d4⟩ := wk_cells hwk
    dsimp only at d0 d1 d2 d3 d4
    have b0 : w2.cell? ⟨gc + 1, 0, none⟩ = some (.slice none 0 0) := hb2.cell 0
    have b1 : w2.cell? ⟨gc + 1, 1, none⟩ = some (.int .i64 0) := hb2.cell 1
    have b2 : w2.cell? ⟨gc + 1, 2, none⟩ = some (.int .u32 0) := hb2.cell 2
    have b3 : w2.cell? ⟨gc + 1, 3, none⟩ = some (.int .i64 0) := hb2.cell 3
    have f0 := hb2.frozen 0
    have f1 := hb2.frozen 1
    have f2 := hb2.frozen 2
    have f3 := hb2.frozen 3
    obtain ⟨Ar, cr, rfl, -, -⟩ := own_form hwk.2.1
    obtain ⟨Ap, cp, rfl, -, -⟩ := own_form hwk.2.2.1
    have H2 := Lib.hid (And.intro hwk (And.intro hb2 (And.intro hfw (And.intro hsz (And.intro hW0s (And.intro hws hR))))))
    clear hwk hb2 hfw hsz hW0s hws hR hF2 hF02
    go_wp2_with fail
    go_region
    go_wp2_with fail
    obtain ⟨hB4, hF4⟩ := four H2.out.2.1 (.slice Ar es.length cr) (.int .i64 a) (.int .u32 s) (.int .i64 r)
    refine bodyPost_ret (step_ret (Blk.drew hB4) rfl rfl rfl) rfl ?_
    refine done_fin (c' := ⟨es, a, s, r⟩) H2.out.1.done ?_ H2.out.2.2.2.2.2.2.symm H2.out.2.2.1 hF4.drew ⟨by have := H2.out.2.2.2.2.2.1; omega, H2.out.2.2.2.2.1⟩
    unfold stepN
    rw [if_neg (by rw [H2.out.2.2.2.2.2.2]; simp), H1.out.2.1]
  | true =>
    obtain ⟨k, x, rfl, hx, hq, hk, hr, hd, hst⟩ := ready_parts hR
    have hpl : (ps.map (·.p)).length = ps1.length := by rw [← H1.out.2.1, List.length_map]
    obtain ⟨Ar, cr, rfl, -, -⟩ := own_form hwk.2.1
    obtain ⟨Ap, cp, rfl, -, -⟩ := own_form hwk.2.2.1
    have hdo := do_any b W0.heap.size k s r es ps1 Ar es.length cr Ap ps1.length cp w2 x hwk hsz hx (by rw [← hpl]; exact hq) hk hr (fun p hp => by
      have : p.p ∈ ps.map (·.p) := by rw [← H1.out.2.1]; exact List.mem_map_of_mem hp
      obtain ⟨p', hp', e⟩ := List.mem_map.1 this
      rw [← e]
      exact H.out.2.2.2.2.2.2.2 p' hp') hd
    rw [H1.out.2.1] at hdo
    have HD := Lib.hid hdo
    have H2 := Lib.hid (And.intro hb2 (And.intro hfw (And.intro hsz (And.intro hW0s (And.intro hws (And.intro hR hst))))))
    clear hwk hb2 hfw hsz hW0s hws hR hF2 hF02 hx hq hk hr hd hst hdo hpl c0 c1' c2 c3
    go_wp2_with fail
    refine HD.out.mono ?_
    rintro e w3 ⟨⟨v3, rfl⟩, ps', hD3, hp3, hF3⟩
    obtain ⟨c', hc'⟩ : ∃ c', c' = choreN x ⟨es, k, s, r⟩ ((ps.map (·.p))[x.q.toNat]?) := ⟨_, rfl⟩
    rw [← hc'] at hD3
    have hb3 := H2.out.1.kept hF3 (by have := H2.out.2.2.2.1; omega)
    have b0 : w3.cell? ⟨gc + 1, 0, none⟩ = some (.slice none 0 0) := hb3.cell 0
    have b1 : w3.cell? ⟨gc + 1, 1, none⟩ = some (.int .i64 0) := hb3.cell 1
    have b2 : w3.cell? ⟨gc + 1, 2, none⟩ = some (.int .u32 0) := hb3.cell 2
    have b3 : w3.cell? ⟨gc + 1, 3, none⟩ = some (.int .i64 0) := hb3.cell 3
    have f0 := hb3.frozen 0
    have f1 := hb3.frozen 1
    have f2 := hb3.frozen 2
    have f3 := hb3.frozen 3
    have d0 : w3.cell? ⟨b, 0, none⟩ = some (.slice Ar es.length cr) := hD3.1.cell 0
    have d1 : w3.cell? ⟨b, 1, none⟩ = some (.int .i64 c'.at_) := hD3.1.cell 1
    have d2 : w3.cell? ⟨b, 2, none⟩ = some (.int .u32 c'.sum) := hD3.1.cell 2
    have d3 : w3.cell? ⟨b, 3, none⟩ = some (.int .i64 c'.wrong) := hD3.1.cell 3
    have d4 : w3.cell? ⟨b, 4, none⟩ = some (.slice Ap ps1.length cp) := hD3.1.cell 4
    have hfw3 := H2.out.2.1.trans hF3 fun q hq => .inr (by have := H2.out.2.2.2.1; have := H2.out.2.2.2.2.1; omega)
    have H3 := Lib.hid (And.intro hD3 (And.intro hp3 (And.intro hb3 (And.intro hc' hfw3))))
    clear hD3 hp3 hF3 hb3 hc' hfw3
    go_wp2_with fail
    go_region
    go_wp2_with fail
    obtain ⟨hB4, hF4⟩ := four H3.out.2.2.1 (.slice Ar es.length cr) (.int .i64 c'.at_) (.int .u32 c'.sum) (.int .i64 c'.wrong)
    refine bodyPost_ret (step_ret (Blk.drew hB4) rfl rfl rfl) rfl ?_
    refine done_fin (c' := c') H3.out.1 ?_ H2.out.2.2.2.2.2.1.symm H3.out.2.2.2.2 hF4.drew ⟨by have := H2.out.2.2.2.2.1; omega, H2.out.2.2.2.1⟩
    rw [H2.out.2.2.2.2.2.2, H3.out.2.1, H3.out.2.2.2.1]
end Go.Proofs.Ytbfcpapehfdphaa
