/- The walk of chore.Ready. The walk of chore.Step. The walk of teaselref23.Right. The walks of chore.Alike and of teaselref23.Alike. -/
import Derived.Test.YtnibllkcacalhaaHRg
import Derived.Test.YtnibllkcacalhaaGA
import Derived.Test.YtnibllkcacalhaaHDo
import Derived.Test.YtnibllkcacalhaaHMb
import Derived.Test.YtnibllkcacalhaaHSd
namespace Go.Proofs.Ytnibllkcacalhaa
set_option maxRecDepth 100000
open Go.RowKit
def ReadyPost (c : Ch) (ps : List Pk) (w : World) (e : Ending) (w' : World) : Prop := e = .returned (.bool (readyB c (ps.map (·.p)))) ∧ Frm (fun _ => False) w w'
theorem head_of {es : List Er} {a s r m : Int} (h : rightB m ⟨es, a, s, r⟩ = true) : es.length ≤ 64 ∧ 0 ≤ a ∧ a ≤ es.length ∧ 0 ≤ r ∧ r ≤ 64 ∧ es.all (mayB m) = true := by
  unfold rightB headB at h
  simp only [Bool.and_eq_true, decide_eq_true_eq] at h
  exact ⟨h.1.1, h.1.2.1, h.1.2.2.1, h.1.2.2.2.1, h.1.2.2.2.2, h.2⟩
/-- Of a chore that may be, and is not over: the next errand. -/
theorem next_of {es : List Er} {a s r : Int} {m : Int} (h : rightB m ⟨es, a, s, r⟩ = true) (ho : ¬ a = (es.length : Int)) : ∃ k : Nat, a = k ∧ ∃ x, es[k]? = some x ∧ mayB m x = true ∧ k < es.length := by
  obtain ⟨h1, h2, h3, h4, h5, h6⟩ := head_of h
  refine ⟨a.toNat, by omega, es[a.toNat]'(by omega), List.getElem?_eq_getElem _, List.all_eq_true.1 h6 _ (List.getElem_mem _), by omega⟩
theorem may_range {m d q n : Int} (h : mayB m ⟨d, q, n⟩ = true) (hd : d = 1 ∨ d = 2 ∨ d = 4) : 0 ≤ q ∧ q < m := by
  unfold mayB at h
  dsimp only at h
  rcases hd with rfl | rfl | rfl <;> simp at h <;> omega
theorem ready_no1 {c : Ch} {l : List Pi} (h : pipesB l = false) : readyB c l = false := by unfold readyB; rw [h, Bool.false_and]
theorem ready_no2 {c : Ch} {l : List Pi} (h : rightB l.length c = false) : readyB c l = false := by unfold readyB; rw [h, Bool.false_and, Bool.and_false]
theorem ready_no3 {c : Ch} {l : List Pi} (h : c.at_ = (c.row.length : Int)) : readyB c l = false := by unfold readyB overB; rw [decide_eq_true h]; simp
theorem ready_yes {es : List Er} {s r : Int} {k : Nat} {x : Er} {l : List Pi} (h1 : pipesB l = true) (h2 : rightB l.length ⟨es, k, s, r⟩ = true) (h3 : ¬ (k : Int) = (es.length : Int)) (hx : es[k]? = some x) : readyB ⟨es, k, s, r⟩ l = canB x l := by
  unfold readyB overB nextB
  rw [h1, h2, decide_eq_false h3]
  simp [hx]
set_option maxHeartbeats 1600000 in
theorem ready_any (A : Option Addr) (n c : Nat) (a s r : Int) (es : List Er) (A1 : Option Addr) (n1 c1 : Nat) (ps : List Pk) (w : World) (h : RAt w (fun q => q < w.heap.size) (.slice A n c) es) (h1 : PAt w (fun q => q < w.heap.size) (.slice A1 n1 c1) ps) :
    Calls Try.prog 56 #[.agg #[.slice A n c, .int .i64 a, .int .u32 s, .int .i64 r], .slice A1 n1 c1] w (ReadyPost ⟨es, a, s, r⟩ ps w) := by
  obtain ⟨hes, hnc, hcm, hcs⟩ := h.cells
  obtain ⟨hps, -, -, -⟩ := h1.cells
  obtain ⟨gc, hgc⟩ : ∃ g, g = w.heap.size := ⟨_, rfl⟩
  obtain ⟨W0, hW0⟩ : ∃ W, W = w.alloc (.cells #[.slice A n c, .int .i64 a, .int .u32 s, .int .i64 r] 46) := ⟨_, rfl⟩
  obtain ⟨hF0, hk0, c0, c1', c2, c3⟩ := chore_box w W0 gc A n c a s r hgc hW0
  have hcalls := fun (W : World) (hW : Frm (fun _ => False) W0 W) => (And.intro (pipes_any A1 n1 c1 ps W (h1.keptTo fun q hq => ⟨(hF0.trans hW fun _ h => h.elim).block q hq id, Nat.lt_of_lt_of_le hq (hF0.trans hW fun _ h => h.elim).size⟩)) (And.intro (right_any A n c a s r (n1 : Int) es W (h.keptTo fun q hq => ⟨(hF0.trans hW fun _ h => h.elim).block q hq id, Nat.lt_of_lt_of_le hq (hF0.trans hW fun _ h => h.elim).size⟩)) (over_any A n c a s r W)))
  have hcan := fun (W : World) (hW : Frm (fun _ => False) W0 W) (d q z : Int) hq => can_any d q z A1 n1 c1 ps W (h1.keptTo fun q hq => ⟨(hF0.trans hW fun _ h => h.elim).block q hq id, Nat.lt_of_lt_of_le hq (hF0.trans hW fun _ h => h.elim).size⟩) hq
  have hlen : ((ps.map (·.p)).length : Int) = (n1 : Int) := by rw [List.length_map, hps]
  have H := Lib.hid (And.intro hes (And.intro hcs (And.intro hF0 (And.intro hcalls (And.intro hcan hlen)))))
  clear h h1 hes hcs hk0 hF0 hps hcalls hcan hlen
  go_enter Try.func56, Try.ntmps56
  go_upto_region 1 with fail
  rw [← hgc, ← hW0]
  clear hgc hW0
  go_wp2_with fail
  refine (H.out.2.2.2.1 W0 (Frm.refl _ _)).1.mono ?_
  rintro e w1 ⟨rfl, hF1⟩
  replace c0 := hF1.cell c0 id
  replace c1' := hF1.cell c1' id
  replace c2 := hF1.cell c2 id
  replace c3 := hF1.cell c3 id
  have HF1 := Lib.hid hF1
  clear hF1
  cases hP : pipesB (ps.map (·.p)) with
  | false =>
    have Hr := Lib.hid (ready_no1 (c := ⟨es, a, s, r⟩) hP)
    clear hP
    go_wp2_with fail
    go_ret
    exact ⟨by rw [Hr.out]; rfl, H.out.2.2.1.trans HF1.out fun _ h => h.elim⟩
  | true =>
    have HP := Lib.hid hP
    clear hP
    go_wp2_with fail
    refine (H.out.2.2.2.1 w1 HF1.out).2.1.mono ?_
    rintro e w2 ⟨rfl, hF2⟩
    replace c0 := hF2.cell c0 id
    replace c1' := hF2.cell c1' id
    replace c2 := hF2.cell c2 id
    replace c3 := hF2.cell c3 id
    have HF2 := Lib.hid (HF1.out.trans hF2 fun _ h => h.elim)
    clear hF2 HF1
    cases hR : rightB (n1 : Int) ⟨es, a, s, r⟩ with
    | false =>
      have Hr := Lib.hid (ready_no2 (c := ⟨es, a, s, r⟩) (l := ps.map (·.p)) (by rw [H.out.2.2.2.2.2]; exact hR))
      clear hR
      go_wp2_with fail
      go_ret
      exact ⟨by rw [Hr.out]; rfl, H.out.2.2.1.trans HF2.out fun _ h => h.elim⟩
    | true =>
      have HR := Lib.hid hR
      clear hR
      go_wp2_with fail
      refine (H.out.2.2.2.1 w2 HF2.out).2.2.mono ?_
      rintro e w3 ⟨rfl, hF3⟩
      replace c0 := hF3.cell c0 id
      replace c1' := hF3.cell c1' id
      have HF3 := Lib.hid (HF2.out.trans hF3 fun _ h => h.elim)
      clear hF3 HF2 c2 c3
      by_cases ho : a = (n : Int)
      · have Hr := Lib.hid (ready_no3 (c := ⟨es, a, s, r⟩) (l := ps.map (·.p)) (by show a = (es.length : Int); rw [ho, H.out.1]))
        rw [decide_eq_true ho]
        clear ho
        go_wp2_with fail
        go_ret
        exact ⟨by rw [Hr.out]; rfl, H.out.2.2.1.trans HF3.out fun _ h => h.elim⟩
      · rw [decide_eq_false ho]
        have ho2 : ¬ a = (es.length : Int) := by have := H.out.1; omega
        obtain ⟨k, rfl, x, hx, hm, hkx⟩ := next_of HR.out ho2
        have Hr := Lib.hid (ready_yes HP.out (by rw [H.out.2.2.2.2.2]; exact HR.out) ho2 hx)
        obtain ⟨hkx', rfl⟩ := List.getElem?_eq_some_iff.1 hx
        obtain ⟨g, o, rfl, hg, d0, d1, d2⟩ := H.out.2.1 k hkx
        have hFr := H.out.2.2.1.trans HF3.out fun _ h => h.elim
        replace d0 := hFr.cell d0 id
        replace d1 := hFr.cell d1 id
        replace d2 := hFr.cell d2 id
        have hkn : k < n := by have := H.out.1; omega
        have Hm := Lib.hid hm
        clear hx hm hFr ho ho2 hg
        generalize es[k] = y at *
        clear hkx hkx'
        obtain ⟨d, q, z⟩ := y
        dsimp only at d0 d1 d2
        go_wp2_with fail
        refine (H.out.2.2.2.2.1 w3 HF3.out d q z fun hd => may_range Hm.out (by omega)).mono ?_
        rintro e w4 ⟨rfl, hF4⟩
        have HF4 := Lib.hid hF4
        clear hF4
        go_wp2_with fail
        go_ret
        exact ⟨by rw [Hr.out]; rfl, (H.out.2.2.1.trans HF3.out fun _ h => h.elim).trans HF4.out fun _ h => h.elim⟩
end Go.Proofs.Ytnibllkcacalhaa
namespace Go.Proofs.Ytnibllkcacalhaa
set_option maxRecDepth 100000
open Go.RowKit
theorem may_d {m : Int} {x : Er} (h : mayB m x = true) : (1 ≤ x.d ∧ x.d ≤ 5) ∧ (x.d = 1 ∨ x.d = 2 ∨ x.d = 4 → 0 ≤ x.q ∧ x.q < m) := by
  obtain ⟨d, q, n⟩ := x
  refine ⟨?_, fun hd => may_range h hd⟩
  by_cases h1 : d = 1
  · subst h1; dsimp only; omega
  · by_cases h2 : d = 2
    · subst h2; dsimp only; omega
    · by_cases h3 : d = 3
      · subst h3; dsimp only; omega
      · by_cases h4 : d = 4
        · subst h4; dsimp only; omega
        · by_cases h5 : d = 5
          · subst h5; dsimp only; omega
          · rw [mayB_no m d q n h1 h2 h3 h4 h5] at h; cases h
/-- What a ready chore has. -/
theorem ready_parts {es : List Er} {a s r : Int} {l : List Pi} (h : readyB ⟨es, a, s, r⟩ l = true) : ∃ (k : Nat) (x : Er), a = k ∧ es[k]? = some x ∧ (x.d = 1 ∨ x.d = 2 ∨ x.d = 4 → 0 ≤ x.q ∧ x.q < l.length) ∧ k ≤ 64 ∧ (0 ≤ r ∧ r ≤ 64) ∧ (1 ≤ x.d ∧ x.d ≤ 5) ∧
    stepN ⟨es, a, s, r⟩ l = (choreN x ⟨es, a, s, r⟩ l[x.q.toNat]?, pipesN x ⟨es, a, s, r⟩ l) := by
  have h0 := h
  unfold readyB overB at h
  simp only [Bool.and_eq_true, Bool.not_eq_true', decide_eq_false_iff_not] at h
  obtain ⟨h1, h2, h3, h4⟩ := h
  obtain ⟨k, rfl, x, hx, hm, hk⟩ := next_of h2 h3
  obtain ⟨g1, g2, g3, g4, g5, g6⟩ := head_of h2
  obtain ⟨d1, d2⟩ := may_d hm
  refine ⟨k, x, rfl, hx, d2, by omega, ⟨g4, g5⟩, d1, ?_⟩
  unfold stepN
  rw [if_pos h0]
  simp [hx]
def StepPost (c : Ch) (ps : List Pk) (w : World) (e : Ending) (w' : World) : Prop := ∃ (Ar : Option Addr) (nr cr : Nat) (Ap : Option Addr) (np cp : Nat) (ps' : List Pk) (c' : Ch) (b : Bool),
  e = .returned (.tuple #[.agg #[.slice Ar nr cr, .int .i64 c'.at_, .int .u32 c'.sum, .int .i64 c'.wrong], .slice Ap np cp, .bool b]) ∧ (b = readyB c (ps.map (·.p)) ∧ (c', ps'.map (·.p)) = stepN c (ps.map (·.p))) ∧
  RAt w' (fun q => w.heap.size ≤ q ∧ q < w'.heap.size) (.slice Ar nr cr) c'.row ∧ PAt w' (fun q => w.heap.size ≤ q ∧ q < w'.heap.size) (.slice Ap np cp) ps' ∧ Frm (fun _ => False) w w'
/-- Chore.Step's: the blocks are not frozen. -/
def StepPostU (c : Ch) (ps : List Pk) (w : World) (e : Ending) (w' : World) : Prop := ∃ (Ar : Option Addr) (nr cr : Nat) (Ap : Option Addr) (np cp : Nat) (ps' : List Pk) (c' : Ch) (b : Bool),
  e = .returned (.tuple #[.agg #[.slice Ar nr cr, .int .i64 c'.at_, .int .u32 c'.sum, .int .i64 c'.wrong], .slice Ap np cp, .bool b]) ∧ (b = readyB c (ps.map (·.p)) ∧ (c', ps'.map (·.p)) = stepN c (ps.map (·.p))) ∧
  RAt w' (fun q => w.heap.size ≤ q ∧ q < w'.heap.size ∧ UF w' q) (.slice Ar nr cr) c'.row ∧ PAt w' (fun q => w.heap.size ≤ q ∧ q < w'.heap.size ∧ UF w' q) (.slice Ap np cp) ps' ∧ Frm (fun _ => False) w w'
theorem results_c2 {P : Program} {fn : Func} {p u v : Tmp} {ty : TypeId} (h : fn.results = #[.cell p ty, .tmp u, .tmp v]) (tmps : Array Value) (w : World) (g : Nat) (t : TypeId) (cs : Array Value) (fr : Nat × Nat) (d : TypeDesc)
    (hp : tmps.getD p undef = .pointer (some ⟨g, 0, none⟩)) (hg : w.heap[g]? = some (.cells cs t fr))
    (hu : P.underlying ty = some d) (hd : (match d with | .struct _ | .array _ _ => true | _ => false) = true) (hi : (P.info? ty).map (·.size) = some cs.size) :
    (results fn tmps).run P w = .ok (.tuple #[.agg cs, tmps.getD u undef, tmps.getD v undef]) w := by
  have hp' : tmps[p]?.getD undef = .pointer (some ⟨g, 0, none⟩) := by simpa using hp
  simp [results, h, hp', asAddr, run_loadVar_row w g t ty cs fr d hg hu hd hi]
theorem step_ret {vr x y : Value} {a s r : Int} {tmps : Array Value} {w : World} {b : Nat} (h : Blk w b 46 #[vr, .int .i64 a, .int .u32 s, .int .i64 r]) (h4 : tmps.getD 4 undef = .pointer (some ⟨b, 0, none⟩)) (h5 : tmps.getD 5 undef = x) (h6 : tmps.getD 6 undef = y) :
    (results Try.f57 tmps).run Try.prog w = .ok (.tuple #[.agg #[vr, .int .i64 a, .int .u32 s, .int .i64 r], x, y]) w := by
  rw [results_c2 (u := 5) (v := 6) rfl tmps w b 46 _ (0, 0) _ h4 h Try.underlying46 rfl (by kernel_rfl), h5, h6]
/-- The end of Step, at what stands in the work. -/
theorem done_fin {w W W' : World} {b nb B : Nat} {c c' : Ch} {ps ps' : List Pk} {vr vp : Value} {rb : Bool} (hd : DoneAt W b nb c' ps' vr vp) (hc : (c', ps'.map (·.p)) = stepN c (ps.map (·.p))) (hr : rb = readyB c (ps.map (·.p))) (hF : Frm (fun _ => False) w W) (hF' : Frm (fun q => q = B) W W') (hB : w.heap.size ≤ B ∧ B < nb) :
    StepPostU c ps w (.returned (.tuple #[.agg #[vr, .int .i64 c'.at_, .int .u32 c'.sum, .int .i64 c'.wrong], vp, .bool rb])) W' := by
  obtain ⟨Ar, cr, rfl, -, -⟩ := own_form hd.2.1
  obtain ⟨Ap, np, cp, rfl, -⟩ := id hd.2.2.1
  refine ⟨Ar, _, cr, Ap, np, cp, ps', c', rb, rfl, ⟨hr, hc⟩, ?_, ?_, hF.trans hF' fun q hq => .inr (by omega)⟩
  · have h1 : RAt W (fun q => nb ≤ q ∧ q < W.heap.size ∧ UF W q) (.slice Ar c'.row.length cr) c'.row := SlZ.of_own hd.2.1 fun q hq => UF.own hd.2.1 q hq
    exact h1.keptTo fun q hq => ⟨hF'.block q hq.2.1 (by omega), by omega, Nat.lt_of_lt_of_le hq.2.1 hF'.size, hq.2.2.of (hF'.block q hq.2.1 (by omega))⟩
  · exact hd.2.2.keptTo fun q hq => ⟨hF'.block q hq.2.1 (by omega), by omega, Nat.lt_of_lt_of_le hq.2.1 hF'.size, hq.2.2.of (hF'.block q hq.2.1 (by omega))⟩
/-- The result's box, written whole. -/
theorem four {W : World} {g : Nat} {t : TypeId} {x0 x1 x2 x3 : Value} (h : Blk W g t #[x0, x1, x2, x3]) (y0 y1 y2 y3 : Value) :
    Blk ((((W.setCell ⟨g, 0, none⟩ y0).setCell ⟨g, 1, none⟩ y1).setCell ⟨g, 2, none⟩ y2).setCell ⟨g, 3, none⟩ y3) g t #[y0, y1, y2, y3] ∧ Frm (fun q => q = g) W ((((W.setCell ⟨g, 0, none⟩ y0).setCell ⟨g, 1, none⟩ y1).setCell ⟨g, 2, none⟩ y2).setCell ⟨g, 3, none⟩ y3) :=
  ⟨(((h.set_ 0 y0).set_ 1 y1).set_ 2 y2).set_ 3 y3, ((((Frm.refl (fun q => q = g) W).setCell ⟨g, 0, none⟩ (.inl rfl) _).setCell ⟨g, 1, none⟩ (.inl rfl) _).setCell ⟨g, 2, none⟩ (.inl rfl) _).setCell ⟨g, 3, none⟩ (.inl rfl) _⟩
set_option maxHeartbeats 3200000 in
theorem step_any (A : Option Addr) (n c : Nat) (a s r : Int) (es : List Er) (A1 : Option Addr) (n1 c1 : Nat) (ps : List Pk) (w : World) (h : RAt w (fun q => q < w.heap.size) (.slice A n c) es) (h1 : PAt w (fun q => q < w.heap.size) (.slice A1 n1 c1) ps) (hn : n ≤ 1000000) (hn1 : n1 ≤ 1000) (hin : ∀ p ∈ ps, p.p.ins.length ≤ 1000000) :
    Calls Try.prog 57 #[.agg #[.slice A n c, .int .i64 a, .int .u32 s, .int .i64 r], .slice A1 n1 c1] w (StepPostU ⟨es, a, s, r⟩ ps w) := by
  obtain ⟨gc, hgc⟩ : ∃ g, g = w.heap.size := ⟨_, rfl⟩
  obtain ⟨W0, hW0⟩ : ∃ W, W = (w.alloc (.cells #[.slice A n c, .int .i64 a, .int .u32 s, .int .i64 r] 46)).alloc (.cells #[.slice none 0 0, .int .i64 0, .int .u32 0, .int .i64 0] 46) := ⟨_, rfl⟩
  obtain ⟨hF, hb1, hb2⟩ : Frm (fun _ => False) w W0 ∧ Blk W0 gc 46 #[.slice A n c, .int .i64 a, .int .u32 s, .int .i64 r] ∧ Blk W0 (gc + 1) 46 #[.slice none 0 0, .int .i64 0, .int .u32 0, .int .i64 0] := by
    subst hgc hW0
    refine ⟨((Frm.refl _ w).alloc _).alloc _, (Blk.new w _ _).alloc _, ?_⟩
    have := Blk.new (w.alloc (.cells #[.slice A n c, .int .i64 a, .int .u32 s, .int .i64 r] 46)) 46 #[.slice none 0 0, .int .i64 0, .int .u32 0, .int .i64 0]
    rwa [World.size_alloc] at this
  have hown := own_any A n c a s r es A1 n1 c1 ps W0 (h.keptTo fun q hq => ⟨hF.block q hq id, Nat.lt_of_lt_of_le hq hF.size⟩) (h1.keptTo fun q hq => ⟨hF.block q hq id, Nat.lt_of_lt_of_le hq hF.size⟩) hn hn1 hin
  have hrd := fun (W : World) (hW : Frm (fun _ => False) W0 W) => ready_any A n c a s r es A1 n1 c1 ps W (h.keptTo fun q hq => ⟨(hF.trans hW fun _ h => h.elim).block q hq id, Nat.lt_of_lt_of_le hq (hF.trans hW fun _ h => h.elim).size⟩) (h1.keptTo fun q hq => ⟨(hF.trans hW fun _ h => h.elim).block q hq id, Nat.lt_of_lt_of_le hq (hF.trans hW fun _ h => h.elim).size⟩)
  have hps := h1.cells.1
  have H := Lib.hid (And.intro hown (And.intro hrd (And.intro hF (And.intro hb1 (And.intro hb2 (And.intro hgc (And.intro hps hin)))))))
  have c0 : W0.cell? ⟨gc, 0, none⟩ = some (.slice A n c) := hb1.cell 0
  have c1' : W0.cell? ⟨gc, 1, none⟩ = some (.int .i64 a) := hb1.cell 1
  have c2 : W0.cell? ⟨gc, 2, none⟩ = some (.int .u32 s) := hb1.cell 2
  have c3 : W0.cell? ⟨gc, 3, none⟩ = some (.int .i64 r) := hb1.cell 3
  clear h h1 hin hown hrd hF hb1 hb2 hps
  go_enter Try.func57, Try.ntmps57
  go_upto_region 1 with fail
  rw [← hgc, ← hW0]
  clear hW0 hgc
  go_wp2_with fail
  refine H.out.1.mono ?_
  rintro e w1 ⟨b, ps1, vr, vp, rfl, hbn, hWk, hpp, hF1⟩
  replace c0 := hF1.cell c0 id
  replace c1' := hF1.cell c1' id
  replace c2 := hF1.cell c2 id
  replace c3 := hF1.cell c3 id
  have H1 := Lib.hid (And.intro hWk (And.intro hpp (And.intro hF1 hbn)))
  clear hWk hpp hF1 hbn
  go_wp2_with fail
  refine (H.out.2.1 w1 H1.out.2.2.1).mono ?_
  rintro e w2 ⟨rfl, hF2⟩
  have hwk := H1.out.1.keptF hF2
  have hF02 := H1.out.2.2.1.trans hF2 fun _ h => h.elim
  have hb2 := H.out.2.2.2.2.1.kept hF02 id
  have hfw := H.out.2.2.1.trans hF02 fun _ h => h.elim
  have hsz : W0.heap.size ≤ b := H1.out.2.2.2
  have hW0s : gc + 1 < W0.heap.size := H.out.2.2.2.2.1.lt
  have hws : w.heap.size ≤ gc := Nat.le_of_eq H.out.2.2.2.2.2.1.symm
  cases hR : readyB ⟨es, a, s, r⟩ (ps.map (·.p)) with
  | false =>
    obtain ⟨d0, d1, d2, d3, d4⟩ := wk_cells hwk
    dsimp only at d0 d1 d2 d3 d4
    have b0 : w2.cell? ⟨gc + 1, 0, none⟩ = some (.slice none 0 0) := hb2.cell 0
    have b1 : w2.cell? ⟨gc + 1, 1, none⟩ = some (.int .i64 0) := hb2.cell 1
    have b2 : w2.cell? ⟨gc + 1, 2, none⟩ = some (.int .u32 0) := hb2.cell 2
    have b3 : w2.cell? ⟨gc + 1, 3, none⟩ = some (.int .i64 0) := hb2.cell 3
    have f0 := hb2.frozen 0
    have f1 := hb2.frozen 1
    have f2 := hb2.frozen 2
    have f3 := hb2.frozen 3
    obtain ⟨Ar, cr, rfl, -, -⟩ := own_form hwk.2.1
    obtain ⟨Ap, cp, rfl, -, -⟩ := own_form hwk.2.2.1
    have H2 := Lib.hid (And.intro hwk (And.intro hb2 (And.intro hfw (And.intro hsz (And.intro hW0s (And.intro hws hR))))))
    clear hwk hb2 hfw hsz hW0s hws hR hF2 hF02
    go_wp2_with fail
    go_region
    go_wp2_with fail
    obtain ⟨hB4, hF4⟩ := four H2.out.2.1 (.slice Ar es.length cr) (.int .i64 a) (.int .u32 s) (.int .i64 r)
    refine bodyPost_ret (step_ret (Blk.drew hB4) rfl rfl rfl) rfl ?_
    refine done_fin (c' := ⟨es, a, s, r⟩) H2.out.1.done ?_ H2.out.2.2.2.2.2.2.symm H2.out.2.2.1 hF4.drew ⟨by have := H2.out.2.2.2.2.2.1; omega, H2.out.2.2.2.2.1⟩
    unfold stepN
    rw [if_neg (by rw [H2.out.2.2.2.2.2.2]; simp), H1.out.2.1]
  | true =>
    obtain ⟨k, x, rfl, hx, hq, hk, hr, hd, hst⟩ := ready_parts hR
    have hpl : (ps.map (·.p)).length = ps1.length := by rw [← H1.out.2.1, List.length_map]
    obtain ⟨Ar, cr, rfl, -, -⟩ := own_form hwk.2.1
    obtain ⟨Ap, cp, rfl, -, -⟩ := own_form hwk.2.2.1
    have hdo := do_any b W0.heap.size k s r es ps1 Ar es.length cr Ap ps1.length cp w2 x hwk hsz hx (by rw [← hpl]; exact hq) hk hr (fun p hp => by
      have : p.p ∈ ps.map (·.p) := by rw [← H1.out.2.1]; exact List.mem_map_of_mem hp
      obtain ⟨p', hp', e⟩ := List.mem_map.1 this
      rw [← e]
      exact H.out.2.2.2.2.2.2.2 p' hp') hd
    rw [H1.out.2.1] at hdo
    have HD := Lib.hid hdo
    have H2 := Lib.hid (And.intro hb2 (And.intro hfw (And.intro hsz (And.intro hW0s (And.intro hws (And.intro hR hst))))))
    clear hwk hb2 hfw hsz hW0s hws hR hF2 hF02 hx hq hk hr hd hst hdo hpl c0 c1' c2 c3
    go_wp2_with fail
    refine HD.out.mono ?_
    rintro e w3 ⟨⟨v3, rfl⟩, ps', hD3, hp3, hF3⟩
    obtain ⟨c', hc'⟩ : ∃ c', c' = choreN x ⟨es, k, s, r⟩ ((ps.map (·.p))[x.q.toNat]?) := ⟨_, rfl⟩
    rw [← hc'] at hD3
    have hb3 := H2.out.1.kept hF3 (by have := H2.out.2.2.2.1; omega)
    have b0 : w3.cell? ⟨gc + 1, 0, none⟩ = some (.slice none 0 0) := hb3.cell 0
    have b1 : w3.cell? ⟨gc + 1, 1, none⟩ = some (.int .i64 0) := hb3.cell 1
    have b2 : w3.cell? ⟨gc + 1, 2, none⟩ = some (.int .u32 0) := hb3.cell 2
    have b3 : w3.cell? ⟨gc + 1, 3, none⟩ = some (.int .i64 0) := hb3.cell 3
    have f0 := hb3.frozen 0
    have f1 := hb3.frozen 1
    have f2 := hb3.frozen 2
    have f3 := hb3.frozen 3
    have d0 : w3.cell? ⟨b, 0, none⟩ = some (.slice Ar es.length cr) := hD3.1.cell 0
    have d1 : w3.cell? ⟨b, 1, none⟩ = some (.int .i64 c'.at_) := hD3.1.cell 1
    have d2 : w3.cell? ⟨b, 2, none⟩ = some (.int .u32 c'.sum) := hD3.1.cell 2
    have d3 : w3.cell? ⟨b, 3, none⟩ = some (.int .i64 c'.wrong) := hD3.1.cell 3
    have d4 : w3.cell? ⟨b, 4, none⟩ = some (.slice Ap ps1.length cp) := hD3.1.cell 4
    have hfw3 := H2.out.2.1.trans hF3 fun q hq => .inr (by have := H2.out.2.2.2.1; have := H2.out.2.2.2.2.1; omega)
    have H3 := Lib.hid (And.intro hD3 (And.intro hp3 (And.intro hb3 (And.intro hc' hfw3))))
    clear hD3 hp3 hF3 hb3 hc' hfw3
    go_wp2_with fail
    go_region
    go_wp2_with fail
    obtain ⟨hB4, hF4⟩ := four H3.out.2.2.1 (.slice Ar es.length cr) (.int .i64 c'.at_) (.int .u32 c'.sum) (.int .i64 c'.wrong)
    refine bodyPost_ret (step_ret (Blk.drew hB4) rfl rfl rfl) rfl ?_
    refine done_fin (c' := c') H3.out.1 ?_ H2.out.2.2.2.2.2.1.symm H3.out.2.2.2.2 hF4.drew ⟨by have := H2.out.2.2.2.2.1; omega, H2.out.2.2.2.1⟩
    rw [H2.out.2.2.2.2.2.2, H3.out.2.1, H3.out.2.2.2.1]
end Go.Proofs.Ytnibllkcacalhaa
namespace Go.Proofs.Ytnibllkcacalhaa
set_option maxRecDepth 100000
open Go.RowKit
set_option maxHeartbeats 1600000 in
theorem rright_any (A : Option Addr) (n c : Nat) (a s r m : Int) (es : List Er) (w : World) (h : RAt w (fun q => q < w.heap.size) (.slice A n c) es) :
    Calls Try.prog 44 #[.agg #[.slice A n c, .int .i64 a, .int .u32 s, .int .i64 r], .int .i64 m] w fun e w' => e = .returned (.bool (rightB m ⟨es, a, s, r⟩)) ∧ Frm (fun _ => False) w w' := by
  obtain ⟨hes, hnc, hcm, hcs⟩ := h.cells
  obtain ⟨gc, hgc⟩ : ∃ g, g = w.heap.size := ⟨_, rfl⟩
  obtain ⟨W0, hW0⟩ : ∃ W, W = w.alloc (.cells #[.slice A n c, .int .i64 a, .int .u32 s, .int .i64 r] 46) := ⟨_, rfl⟩
  obtain ⟨hF0, hk0, c0, c1, -, c3⟩ := chore_box w W0 gc A n c a s r hgc hW0
  have H := Lib.hid (And.intro hes (And.intro hcs (And.intro hk0 hF0)))
  clear h hes hcs hk0 hF0
  by_cases hh : es.length ≤ 64 ∧ 0 ≤ a ∧ a ≤ es.length ∧ 0 ≤ r ∧ r ≤ 64
  · obtain ⟨k1, k2, k3, k4, k5⟩ := hh
    have g1 : decide ((64 : Int) < n) = false := by have := H.out.1; simp; omega
    have g2 : decide (a < 0) = false := by simp; omega
    have g3 : decide ((n : Int) < a) = false := by have := H.out.1; simp; omega
    have g4 : decide (r < 0) = false := by simp; omega
    have g5 : decide (64 < r) = false := by simp; omega
    have Hy := Lib.hid (head_yes es a s r m ⟨k1, k2, k3, k4, k5⟩)
    clear k1 k2 k3 k4 k5
    go_enter Try.func44, Try.ntmps44
    go_upto_region 1 with fail
    rw [← hgc, ← hW0]
    clear hgc hW0
    go_wp2_with fail
    clear g1 g2 g3 g4 g5
    go_loopw [5] (fun i wr => ∃ k : Nat, k ≤ n ∧ i = .int .i64 k ∧ Hid (Frm (fun _ => False) W0 wr ∧ (es.take k).all (mayB m) = true)) (fun i _ => n - (intOf i).toNat)
    case atStart => exact ⟨0, Nat.zero_le _, rfl, Lib.hid ⟨Frm.refl _ _, rfl⟩⟩
    case round =>
      obtain ⟨k, hk, rfl, hT⟩ := hrel
      replace c0 := hT.out.1.cell c0 id
      clear c1 c3
      by_cases hlt : k < n
      · obtain ⟨hes, hcs, hk0, hF0⟩ := H.out
        have hkx : k < es.length := by omega
        obtain ⟨g, o, rfl, hg, d0, d1, d2⟩ := hcs k hkx
        have hFr := hF0.trans hT.out.1 fun _ h => h.elim
        replace d0 := hFr.cell d0 id
        replace d1 := hFr.cell d1 id
        replace d2 := hFr.cell d2 id
        have hts : es.take (k + 1) = es.take k ++ [es[k]] := List.take_succ_eq_append_getElem hkx
        have hno := take_all_no (mayB m) es k hkx
        have HS := Lib.hid (And.intro hts hno)
        clear hes hcs hk0 hF0 hFr hts hg hno
        generalize es[k] = y at *
        obtain ⟨d, q, z⟩ := y
        dsimp only at d0 d1 d2
        go_wp2_with fail
        refine (may_any d q z m _).mono ?_
        rintro e w2 ⟨rfl, hF2⟩
        have HF := Lib.hid (hT.out.1.trans hF2 fun _ h => h.elim)
        clear hF2
        cases hm : mayB m ⟨d, q, z⟩ with
        | false =>
          have Hr := Lib.hid (all_no es a s r m (HS.out.2 hm))
          clear hm
          go_wp2_with fail
          go_ret
          exact ⟨by rw [Hr.out]; rfl, H.out.2.2.2.trans HF.out fun _ h => h.elim⟩
        | true =>
          have Hm := Lib.hid hm
          clear hm
          go_wp2_with fail
          go_roundw
          case rel => exact ⟨k + 1, by omega, by go_num, Lib.hid ⟨HF.out, by rw [HS.out.1, List.all_append, hT.out.2]; simp [Hm.out]⟩⟩
          case measure => simp [intOf]; omega
      · obtain rfl : k = n := by omega
        have hal : es.all (mayB m) = true := by have := hT.out.2; rwa [List.take_of_length_le (by have := H.out.1; omega)] at this
        have HF := Lib.hid (And.intro (H.out.2.2.2.trans hT.out.1 fun _ h => h.elim) hal)
        clear hal hT
        go_wp2_with fail
        go_ret
        exact ⟨by rw [Hy.out, HF.out.2]; rfl, HF.out.1⟩
  · have hno : rightB m ⟨es, a, s, r⟩ = false := head_no es a s r m fun h h2 => hh ⟨h, h2⟩
    rw [hno]
    have Hh := Lib.hid hh
    clear hno hh
    have hcases : decide ((64 : Int) < n) = true ∨ (decide ((64 : Int) < n) = false ∧ decide (a < 0) = true) ∨ (decide ((64 : Int) < n) = false ∧ decide (a < 0) = false ∧ decide ((n : Int) < a) = true) ∨ (decide ((64 : Int) < n) = false ∧ decide (a < 0) = false ∧ decide ((n : Int) < a) = false ∧ decide (r < 0) = true) ∨
        (decide ((64 : Int) < n) = false ∧ decide (a < 0) = false ∧ decide ((n : Int) < a) = false ∧ decide (r < 0) = false ∧ decide (64 < r) = true) := by
      have := Hh.out
      have := H.out.1
      simp only [decide_eq_true_eq, decide_eq_false_iff_not]
      omega
    rcases hcases with g1 | ⟨g1, g2⟩ | ⟨g1, g2, g3⟩ | ⟨g1, g2, g3, g4⟩ | ⟨g1, g2, g3, g4, g5⟩
    all_goals
      go_enter Try.func44, Try.ntmps44
      go_upto_region 1 with fail
      rw [← hgc, ← hW0]
      clear hgc hW0
      go_wp2_with fail
      go_ret
      exact ⟨rfl, H.out.2.2.2⟩
end Go.Proofs.Ytnibllkcacalhaa
namespace Go.Proofs.Ytnibllkcacalhaa
set_option maxRecDepth 100000
open Go.RowKit
def AlikePost (xs ys : List Pk) (w : World) (e : Ending) (w' : World) : Prop := e = .returned (.bool (decide (xs.map (·.p) = ys.map (·.p)))) ∧ Frm (fun _ => False) w w'
theorem map_take1 (l : List Pk) (k : Nat) (h : k < l.length) : (l.map (·.p)).take (k + 1) = (l.map (·.p)).take k ++ [l[k].p] := by
  rw [List.take_succ_eq_append_getElem (by simpa using h)]; simp
set_option maxHeartbeats 1600000 in
theorem eqfun_any (K : Nat → Prop) (A : Option Addr) (n c : Nat) (A' : Option Addr) (n' c' : Nat) (xs ys : List Pk) (w : World) (h : PAt w K (.slice A n c) xs) (h' : PAt w K (.slice A' n' c') ys) (hK : ∀ q, K q → q < w.heap.size) :
    Calls Try.prog 67 #[.slice A n c, .slice A' n' c', .func (.func 68) #[] #[]] w (AlikePost xs ys w) := by
  obtain ⟨hn, hnc, hcm, hx⟩ := h.cells
  obtain ⟨hn', hnc', hcm', hx'⟩ := h'.cells
  have H := Lib.hid (And.intro hn (And.intro hn' (And.intro (And.intro hx h.2) (And.intro (And.intro hx' h'.2) hK))))
  clear h h' hn hn' hx hx' hK
  by_cases hnn : n = n'
  · subst hnn
    have g4 : ((n : Int) != (n : Int)) = false := by simp
    go_enter Try.func67, Try.ntmps67
    go_wp2_with fail
    go_loopw [17] (fun i wr => ∃ k : Nat, k ≤ n ∧ i = .int .i64 k ∧ Hid ((xs.map (·.p)).take k = (ys.map (·.p)).take k ∧ Frm (fun _ => False) w wr)) (fun i _ => n - (intOf i).toNat)
    case atStart => exact ⟨0, Nat.zero_le _, rfl, Lib.hid ⟨rfl, Frm.refl _ _⟩⟩
    case round =>
      obtain ⟨k, hk, rfl, hT⟩ := hrel
      by_cases hlt : k < n
      · obtain ⟨hn, hn', ⟨hx, hs⟩, ⟨hx', hs'⟩, hK⟩ := H.out
        have hkx : k < xs.length := by omega
        have hky : k < ys.length := by omega
        have hF := hT.out.2
        obtain ⟨g1, o1, rfl, hg1, a0, a1, a2⟩ := hx k hkx
        obtain ⟨g2, o2, rfl, hg2, b0, b1, b2⟩ := hx' k hky
        have sa := hs xs[k] (List.getElem_mem hkx)
        have sb := hs' ys[k] (List.getElem_mem hky)
        have h1 := map_take1 xs k hkx
        have h2 := map_take1 ys k hky
        obtain ⟨x, hxk⟩ : ∃ x, x = xs[k] := ⟨_, rfl⟩
        obtain ⟨y, hyk⟩ : ∃ y, y = ys[k] := ⟨_, rfl⟩
        rw [← hxk] at a0 a1 a2 sa h1
        rw [← hyk] at b0 b1 b2 sb h2
        obtain ⟨vx, r1, l1, q1⟩ := x
        obtain ⟨vy, r2, l2, q2⟩ := y
        obtain ⟨A5, n5, c5, e5, -⟩ := id sa
        obtain ⟨A6, n6, c6, e6, -⟩ := id sb
        dsimp only at *
        subst e5 e6
        replace a0 := hF.cell a0 id
        replace a1 := hF.cell a1 id
        replace a2 := hF.cell a2 id
        have hF1 := (Frm.refl (fun _ => False) wr).alloc (.cells #[.int .i64 r1, .slice A5 n5 c5, .bool q1] 52)
        replace b0 := hF1.cell (hF.cell b0 id) id
        replace b1 := hF1.cell (hF.cell b1 id) id
        replace b2 := hF1.cell (hF.cell b2 id) id
        have hF2 := hF.trans (hF1.alloc (.cells #[.int .i64 r2, .slice A6 n6 c6, .bool q2] 52)) fun _ h => h.elim
        have hsame := psame_any K A5 n5 c5 r1 q1 l1 A6 n6 c6 r2 q2 l2 _ (sa.kept fun q hq => hF2.block q (hK q hq) id) (sb.kept fun q hq => hF2.block q (hK q hq) id) (fun q hq => Nat.lt_of_lt_of_le (hK q hq) hF2.size)
        have hk0 : 0 ≤ (k : Int) := by omega
        have H2 := Lib.hid (And.intro h1 (And.intro h2 hF2))
        have HS := Lib.hid hsame
        obtain ⟨r, hr⟩ : ∃ r : Bool, r = decide ((⟨r1, l1, q1⟩ : Pi) = ⟨r2, l2, q2⟩) := ⟨_, rfl⟩
        unfold PiSame at HS
        rw [← hr] at HS
        have HR := Lib.hid hr
        clear hsame h1 h2 hxk hyk hr sa sb hkx hky hx hx' hn hn' hs hs' hK hg1 hg2 hF hF1 hF2
        go_wp2_with fail
        refine HS.out.mono ?_
        rintro e w7 ⟨rfl, hF7⟩
        have HF7 := Lib.hid (H2.out.2.2.trans hF7 fun _ h => h.elim)
        clear hF7 a0 a1 a2 b0 b1 b2
        cases r with
        | true =>
          go_wp2_with fail
          go_roundw
          case rel => exact ⟨k + 1, by omega, by go_num, Lib.hid ⟨by rw [H2.out.1, H2.out.2.1, hT.out.1, of_decide_eq_true HR.out.symm], HF7.out⟩⟩
          case measure => simp [intOf]; omega
        | false =>
          go_wp2_with fail
          go_ret
          refine ⟨ret_b (Eq.symm ?_), HF7.out⟩
          rw [decide_eq_false_iff_not]
          intro he
          have h3 := H2.out.1.symm.trans ((congrArg (List.take (k + 1)) he).trans H2.out.2.1)
          have h4 := List.append_inj_right' h3 rfl
          exact of_decide_eq_false HR.out.symm (by simpa using h4)
      · obtain rfl : k = n := by omega
        go_wp2_with fail
        go_ret
        refine ⟨ret_b (Eq.symm ?_), hT.out.2⟩
        rw [decide_eq_true_iff]
        have h1 := hT.out.1
        obtain ⟨hm, hm', -⟩ := H.out
        rwa [List.take_of_length_le (by simp; omega), List.take_of_length_le (by simp; omega)] at h1
  · have hne : ((n : Int) != (n' : Int)) = true := by simp; omega
    have hno : Hid (decide (xs.map (·.p) = ys.map (·.p)) = false) := Lib.hid (by
      rw [decide_eq_false_iff_not]
      intro he
      have := congrArg List.length he
      obtain ⟨hm, hm', -⟩ := H.out
      simp at this
      omega)
    clear hnn
    go_enter Try.func67, Try.ntmps67
    go_wp2_with fail
    go_ret
    exact ⟨ret_b hno.out.symm, Frm.refl _ _⟩
theorem calike_any (K : Nat → Prop) (A : Option Addr) (n c : Nat) (A' : Option Addr) (n' c' : Nat) (xs ys : List Pk) (w : World) (h : PAt w K (.slice A n c) xs) (h' : PAt w K (.slice A' n' c') ys) (hK : ∀ q, K q → q < w.heap.size) :
    Calls Try.prog 49 #[.slice A n c, .slice A' n' c'] w (AlikePost xs ys w) := by
  have he := eqfun_any K A n c A' n' c' xs ys w h h' hK
  unfold AlikePost at he
  obtain ⟨b, hr⟩ : ∃ b, b = decide (xs.map (·.p) = ys.map (·.p)) := ⟨_, rfl⟩
  rw [← hr] at he
  have HE := Lib.hid he
  clear h h' hK he
  go_enter Try.func49, Try.ntmps49
  go_wp2_with fail
  refine HE.out.mono ?_
  rintro e w7 ⟨rfl, hF7⟩
  have HF := Lib.hid (And.intro hF7 hr)
  clear hF7 hr
  go_wp2_with fail
  go_ret
  exact ⟨ret_b HF.out.2, HF.out.1⟩
set_option maxHeartbeats 1600000 in
theorem ralike_any (K : Nat → Prop) (A : Option Addr) (n c : Nat) (A' : Option Addr) (n' c' : Nat) (xs ys : List Pk) (w : World) (h : PAt w K (.slice A n c) xs) (h' : PAt w K (.slice A' n' c') ys) (hK : ∀ q, K q → q < w.heap.size) :
    Calls Try.prog 41 #[.slice A n c, .slice A' n' c'] w (AlikePost xs ys w) := by
  obtain ⟨hn, hnc, hcm, hx⟩ := h.cells
  obtain ⟨hn', hnc', hcm', hx'⟩ := h'.cells
  have H := Lib.hid (And.intro hn (And.intro hn' (And.intro (And.intro hx h.2) (And.intro (And.intro hx' h'.2) hK))))
  clear h h' hn hn' hx hx' hK
  by_cases hnn : n = n'
  · subst hnn
    have g4 : ((n : Int) != (n : Int)) = false := by simp
    go_enter Try.func41, Try.ntmps41
    go_wp2_with fail
    go_loopw [5] (fun i wr => ∃ k : Nat, k ≤ n ∧ i = .int .i64 k ∧ Hid ((xs.map (·.p)).take k = (ys.map (·.p)).take k ∧ Frm (fun _ => False) w wr)) (fun i _ => n - (intOf i).toNat)
    case atStart => exact ⟨0, Nat.zero_le _, rfl, Lib.hid ⟨rfl, Frm.refl _ _⟩⟩
    case round =>
      obtain ⟨k, hk, rfl, hT⟩ := hrel
      by_cases hlt : k < n
      · obtain ⟨hn, hn', ⟨hx, hs⟩, ⟨hx', hs'⟩, hK⟩ := H.out
        have hkx : k < xs.length := by omega
        have hky : k < ys.length := by omega
        have hF := hT.out.2
        obtain ⟨g1, o1, rfl, hg1, a0, a1, a2⟩ := hx k hkx
        obtain ⟨g2, o2, rfl, hg2, b0, b1, b2⟩ := hx' k hky
        have sa := hs xs[k] (List.getElem_mem hkx)
        have sb := hs' ys[k] (List.getElem_mem hky)
        have h1 := map_take1 xs k hkx
        have h2 := map_take1 ys k hky
        obtain ⟨x, hxk⟩ : ∃ x, x = xs[k] := ⟨_, rfl⟩
        obtain ⟨y, hyk⟩ : ∃ y, y = ys[k] := ⟨_, rfl⟩
        rw [← hxk] at a0 a1 a2 sa h1
        rw [← hyk] at b0 b1 b2 sb h2
        obtain ⟨vx, r1, l1, q1⟩ := x
        obtain ⟨vy, r2, l2, q2⟩ := y
        obtain ⟨A5, n5, c5, e5, -⟩ := id sa
        obtain ⟨A6, n6, c6, e6, -⟩ := id sb
        dsimp only at *
        subst e5 e6
        replace a0 := hF.cell a0 id
        replace a1 := hF.cell a1 id
        replace a2 := hF.cell a2 id
        replace b0 := hF.cell b0 id
        replace b1 := hF.cell b1 id
        replace b2 := hF.cell b2 id
        have hsame := one_any K A5 n5 c5 r1 q1 l1 A6 n6 c6 r2 q2 l2 wr.drew (sa.kept fun q hq => hF.block q (hK q hq) id) (sb.kept fun q hq => hF.block q (hK q hq) id) (fun q hq => Nat.lt_of_lt_of_le (hK q hq) hF.size)
        have hk0 : 0 ≤ (k : Int) := by omega
        have H2 := Lib.hid (And.intro h1 (And.intro h2 hF))
        have HS := Lib.hid hsame
        obtain ⟨r, hr⟩ : ∃ r : Bool, r = decide ((⟨r1, l1, q1⟩ : Pi) = ⟨r2, l2, q2⟩) := ⟨_, rfl⟩
        unfold PiSame at HS
        rw [← hr] at HS
        have HR := Lib.hid hr
        clear hsame h1 h2 hxk hyk hr sa sb hkx hky hx hx' hn hn' hs hs' hK hg1 hg2 hF
        go_upto_region 6 with fail
        go_region_held3 (fun w' => w'.cell? ⟨g1, o1 + k * 3, none⟩ = some (.int .i64 r1) ∧ w'.cell? ⟨g1, o1 + k * 3 + 1, none⟩ = some (.slice A5 n5 c5) ∧ w'.cell? ⟨g1, o1 + k * 3 + 2, none⟩ = some (.bool q1) ∧
            w'.cell? ⟨g2, o2 + k * 3, none⟩ = some (.int .i64 r2) ∧ w'.cell? ⟨g2, o2 + k * 3 + 1, none⟩ = some (.slice A6 n6 c6) ∧ w'.cell? ⟨g2, o2 + k * 3 + 2, none⟩ = some (.bool q2))
          (first | exact ⟨a0, a1, a2, b0, b1, b2⟩ | exact ⟨d0, d1, d2, d3, d4, d5⟩)
          ((go_at_call 61; refine HS.out.mono ?_; rintro e w7 ⟨rfl, hF7⟩; have d0 := hF7.cell a0 id; have d1 := hF7.cell a1 id; have d2 := hF7.cell a2 id; have d3 := hF7.cell b0 id; have d4 := hF7.cell b1 id; have d5 := hF7.cell b2 id))
        have HF7 := Lib.hid ((H2.out.2.2.drew).trans hF7 fun _ h => h.elim)
        clear hF7 a0 a1 a2 b0 b1 b2 d0 d1 d2 d3 d4 d5
        cases r with
        | true =>
          go_wp2_with fail
          go_roundw
          case rel => exact ⟨k + 1, by omega, by go_num, Lib.hid ⟨by rw [H2.out.1, H2.out.2.1, hT.out.1, of_decide_eq_true HR.out.symm], HF7.out⟩⟩
          case measure => simp [intOf]; omega
        | false =>
          go_wp2_with fail
          go_ret
          refine ⟨ret_b (Eq.symm ?_), HF7.out⟩
          rw [decide_eq_false_iff_not]
          intro he
          have h3 := H2.out.1.symm.trans ((congrArg (List.take (k + 1)) he).trans H2.out.2.1)
          have h4 := List.append_inj_right' h3 rfl
          exact of_decide_eq_false HR.out.symm (by simpa using h4)
      · obtain rfl : k = n := by omega
        go_wp2_with fail
        go_ret
        refine ⟨ret_b (Eq.symm ?_), hT.out.2⟩
        rw [decide_eq_true_iff]
        have h1 := hT.out.1
        obtain ⟨hm, hm', -⟩ := H.out
        rwa [List.take_of_length_le (by simp; omega), List.take_of_length_le (by simp; omega)] at h1
  · have hne : ((n : Int) != (n' : Int)) = true := by simp; omega
    have hno : Hid (decide (xs.map (·.p) = ys.map (·.p)) = false) := Lib.hid (by
      rw [decide_eq_false_iff_not]
      intro he
      have := congrArg List.length he
      obtain ⟨hm, hm', -⟩ := H.out
      simp at this
      omega)
    clear hnn
    go_enter Try.func41, Try.ntmps41
    go_wp2_with fail
    go_ret
    exact ⟨ret_b hno.out.symm, Frm.refl _ _⟩
end Go.Proofs.Ytnibllkcacalhaa
