/- The walk of ChoreTells. -/
import Derived.Test.YtbfcpapehfdphaaWait
namespace Go.Proofs.Ytbfcpapehfdphaa
open Go.RowKit
theorem Frm.tr {w w1 w2 : World} (h : Frm (fun _ => False) w w1) (h' : Frm (fun _ => False) w1 w2) : Frm (fun _ => False) w w2 := h.trans h' fun _ h => h.elim
def B4 (w : World) (g : Nat) (v : Value) (a s r : Int) : Prop := w.cell? ⟨g, 0, none⟩ = some v ∧ w.cell? ⟨g, 1, none⟩ = some (.int .i64 a) ∧ w.cell? ⟨g, 2, none⟩ = some (.int .u32 s) ∧ w.cell? ⟨g, 3, none⟩ = some (.int .i64 r)
theorem B4.of {w W : World} {g : Nat} {v : Value} {a s r : Int} (h : Blk w g 25 #[v, .int .i64 a, .int .u32 s, .int .i64 r]) (hF : Frm (fun _ => False) w W) : B4 W g v a s r := by
  have hk := h.kept hF id
  exact ⟨hk.cell 0, hk.cell 1, hk.cell 2, hk.cell 3⟩
def RetB (b : Bool) (w : World) (e : Ending) (w' : World) : Prop := e = .returned (.bool b) ∧ Frm (fun _ => False) w w'
theorem retB {P : Program} {f : FuncId} {args : Array Value} {w : World} {b b' : Bool} (h : Calls P f args w fun e w' => e = .returned (.bool b) ∧ Frm (fun _ => False) w w') (hb : b = b') : Calls P f args w (RetB b' w) := by
  subst hb
  exact h
theorem made_same {A A' : Option Addr} {n c n' c' : Nat} {es : List Er} {w0 w : World} (h : RAt w (fun q => w0.heap.size ≤ q ∧ q < w.heap.size) (.slice A n c) es) (h' : RAt w (fun q => q < w.heap.size) (.slice A' n' c') es) : ∀ W, Frm (fun _ => False) w W → Calls Try.prog 10 #[.agg #[.slice A n c, .int .i64 0, .int .u32 0, .int .i64 0], .agg #[.slice A' n' c', .int .i64 0, .int .u32 0, .int .i64 0]] W (RetB true W) := fun W hW =>
  retB (b' := true) (rsame_any (fun q => q < W.heap.size) A n c 0 0 0 es A' n' c' 0 0 0 es W (h.keptTo fun q hq => ⟨hW.block q hq.2 id, Nat.lt_of_lt_of_le hq.2 hW.size⟩) (h'.keptTo fun q hq => ⟨hW.block q hq id, Nat.lt_of_lt_of_le hq hW.size⟩) fun _ h => h) (decide_eq_true rfl)
set_option maxRecDepth 100000 in
set_option maxHeartbeats 6400000 in
theorem tells_law (A : Option Addr) (n c : Nat) (a s r : Int) (es : List Er) (A2 : Option Addr) (n2 k2 : Nat) (a2 s2 r2 : Int) (fs : List Er) (A1 : Option Addr) (n1 c1 : Nat) (ps : List Pk) (A3 : Option Addr) (n3 k3 : Nat) (qs : List Pk) (m : Int) (w : World)
    (h : RAt w (fun q => q < w.heap.size) (.slice A n c) es) (h2 : RAt w (fun q => q < w.heap.size) (.slice A2 n2 k2) fs) (h1 : PAt w (fun q => q < w.heap.size) (.slice A1 n1 c1) ps) (h3 : PAt w (fun q => q < w.heap.size) (.slice A3 n3 k3) qs) :
    Calls Try.prog 3 #[.agg #[.slice A n c, .int .i64 a, .int .u32 s, .int .i64 r], .agg #[.slice A2 n2 k2, .int .i64 a2, .int .u32 s2, .int .i64 r2], .slice A1 n1 c1, .slice A3 n3 k3, .int .i64 m] w (TrueF w) := by
  obtain ⟨gc, hgc⟩ : ∃ g, g = w.heap.size := ⟨_, rfl⟩
  obtain ⟨W0, hW0⟩ : ∃ W, W = (w.alloc (.cells #[.slice A n c, .int .i64 a, .int .u32 s, .int .i64 r] 25)).alloc (.cells #[.slice A2 n2 k2, .int .i64 a2, .int .u32 s2, .int .i64 r2] 25) := ⟨_, rfl⟩
  obtain ⟨hF0, hk0, hk1⟩ := two_boxes w W0 gc _ _ _ _ hgc hW0
  have hK : ∀ W, Frm (fun _ => False) W0 W → ∀ q, q < w.heap.size → W.heap[q]? = w.heap[q]? ∧ q < W.heap.size := fun W hW q hq => ⟨(hF0.tr hW).block q hq id, Nat.lt_of_lt_of_le hq (hF0.tr hW).size⟩
  have hes := h.cells.1
  have hps := h1.cells.1
  have H := Lib.hid (And.intro (fun W hW => h.keptTo (hK W hW)) (And.intro (fun W hW => h2.keptTo (hK W hW)) (And.intro (fun W hW => h1.keptTo (hK W hW)) (And.intro (fun W hW => h3.keptTo (hK W hW)) (And.intro (fun W (hW : Frm (fun _ => False) W0 W) => And.intro (B4.of hk0 hW) (B4.of hk1 hW)) (And.intro hF0 (And.intro hes hps)))))))
  clear h h2 h1 h3 hF0 hk0 hk1 hK hes hps
  go_enter Try.func3, Try.ntmps3
  go_upto_region 1 with fail
  rw [← hgc, ← hW0]
  clear hgc hW0
  obtain ⟨⟨x0, x1, x2, x3⟩, -⟩ := H.out.2.2.2.2.1 W0 (Frm.refl _ _)
  go_wp2_with fail
  refine (great_any A n c a s r A1 n1 c1 ps W0 (H.out.2.2.1 W0 (Frm.refl _ _))).mono ?_
  rintro e w1 ⟨g, rfl, hF1, hgr⟩
  cases g with
  | true =>
    have HF := Lib.hid hF1
    clear hF1 x0 x1 x2 x3 hgr
    go_wp2_with fail
    refine (wakes_any w1).mono ?_
    rintro e w2 ⟨rfl, hF2⟩
    have HF2 := Lib.hid (H.out.2.2.2.2.2.1.tr (HF.out.tr hF2))
    clear hF2
    go_wp2_with fail
    go_ret
    exact ⟨by rfl, HF2.out⟩
  | false =>
    obtain ⟨g80, g12, g30⟩ := hgr rfl
    have HG := Lib.hid (And.intro hF1 (And.intro g80 (And.intro g12 g30)))
    clear hF1 hgr g80 g12 g30 x0 x1 x2 x3
    obtain ⟨-, ⟨x0, x1, x2, x3⟩⟩ := H.out.2.2.2.2.1 w1 HG.out.1
    go_wp2_with fail
    refine (great_any A2 n2 k2 a2 s2 r2 A3 n3 k3 qs w1 (H.out.2.2.2.1 w1 HG.out.1)).mono ?_
    rintro e w2 ⟨g, rfl, hF2, hgr⟩
    have HF2 := Lib.hid (And.intro (HG.out.1.tr hF2) hgr)
    clear hF2 hgr x0 x1 x2 x3
    cases g with
    | true =>
      go_wp2_with fail
      refine (wakes_any w2).mono ?_
      rintro e w3 ⟨rfl, hF3⟩
      have HF3 := Lib.hid (H.out.2.2.2.2.2.1.tr (HF2.out.1.tr hF3))
      clear hF3
      go_wp2_with fail
      go_ret
      exact ⟨by rfl, HF3.out⟩
    | false =>
      have hb12 := (HF2.out.2 rfl).2.1
      have hn80 : n ≤ 1000000 := by have := HG.out.2.1; omega
      have hn12 : n1 ≤ 1000 := by have := HG.out.2.2.1; have := H.out.2.2.2.2.2.2.2; omega
      have hin : ∀ p ∈ ps, p.p.ins.length ≤ 1000000 := fun p hp => by have := HG.out.2.2.2 p hp; omega
      have HB := Lib.hid (And.intro hn80 (And.intro hn12 (And.intro hin (show n3 ≤ 1000000 by have := (H.out.2.2.2.1 w2 HF2.out.1).cells.1; omega))))
      clear hb12 hn80 hn12 hin
      obtain ⟨⟨x0, x1, x2, x3⟩, -⟩ := H.out.2.2.2.2.1 w2 HF2.out.1
      go_wp2_with fail
      refine (step_any A n c a s r es A1 n1 c1 ps w2 (H.out.1 w2 HF2.out.1) (H.out.2.2.1 w2 HF2.out.1) HB.out.1 HB.out.2.1 HB.out.2.2.1).mono ?_
      rintro e w3 ⟨Ar, nr, cr, Ap, np, cp, ps', c', b, rfl, ⟨hb, hst⟩, hR3, hP3, hF3⟩
      have H3 := Lib.hid (And.intro hb (And.intro hst (And.intro hR3 (And.intro hP3 (HF2.out.1.tr hF3)))))
      clear hb hst hR3 hP3 hF3 x0 x1 x2 x3
      go_upto_region 4 with fail
      obtain ⟨gA, hgA⟩ : ∃ g, g = w3.heap.size := ⟨_, rfl⟩
      have hFa : Frm (fun _ => False) w3 (w3.alloc (.cells #[.slice Ar nr cr, .int .i64 c'.at_, .int .u32 c'.sum, .int .i64 c'.wrong] 25)) := (Frm.refl _ w3).alloc _
      have hba := Blk.new w3 25 #[.slice Ar nr cr, .int .i64 c'.at_, .int .u32 c'.sum, .int .i64 c'.wrong]
      rw [← hgA] at hba ⊢
      have H4 := Lib.hid (And.intro hFa (And.intro hba (H3.out.2.2.2.2.tr hFa)))
      clear hFa hba hgA
      generalize w3.alloc (.cells #[.slice Ar nr cr, .int .i64 c'.at_, .int .u32 c'.sum, .int .i64 c'.wrong] 25) = w4 at *
      obtain ⟨⟨x0, x1, x2, x3⟩, -⟩ := H.out.2.2.2.2.1 w4 H4.out.2.2
      go_wp2_with fail
      refine (rstep_any A n c a s r es A1 n1 c1 ps w4 (H.out.1 w4 H4.out.2.2) (H.out.2.2.1 w4 H4.out.2.2) HB.out.1 HB.out.2.1 HB.out.2.2.1).mono ?_
      rintro e w5 ⟨As, ns, cs, Aq, nq, cq, ps'', c'', b', rfl, ⟨hb, hst⟩, hR5, hP5, hF5⟩
      obtain rfl : b = b' := by rw [hb, H3.out.1]
      have hcc := H3.out.2.1.trans hst.symm
      obtain ⟨rfl, hpp⟩ : c' = c'' ∧ ps'.map (·.p) = ps''.map (·.p) := by
        injection hcc with e1 e2
        exact ⟨e1, e2⟩
      have H5 := Lib.hid (And.intro hpp (And.intro hR5 (And.intro hP5 (And.intro hF5 (H4.out.2.2.tr hF5)))))
      clear hb hst hR5 hP5 hF5 hcc hpp x0 x1 x2 x3
      go_upto_region 5 with fail
      obtain ⟨gB, hgB⟩ : ∃ g, g = w5.heap.size := ⟨_, rfl⟩
      have hFa : Frm (fun _ => False) w5 (w5.alloc (.cells #[.slice As ns cs, .int .i64 c'.at_, .int .u32 c'.sum, .int .i64 c'.wrong] 25)) := (Frm.refl _ w5).alloc _
      have hba := Blk.new w5 25 #[.slice As ns cs, .int .i64 c'.at_, .int .u32 c'.sum, .int .i64 c'.wrong]
      rw [← hgB] at hba ⊢
      have H6 := Lib.hid (And.intro hba (And.intro (H5.out.2.2.2.1.tr hFa) (H5.out.2.2.2.2.tr hFa)))
      have HW5 := Lib.hid hFa
      clear hFa hba hgB
      generalize w5.alloc (.cells #[.slice As ns cs, .int .i64 c'.at_, .int .u32 c'.sum, .int .i64 c'.wrong] 25) = w6 at *
      have hK6 : ∀ W, Frm (fun _ => False) w6 W → ∀ wx, Frm (fun _ => False) wx w6 → ∀ q, q < wx.heap.size → W.heap[q]? = wx.heap[q]? ∧ q < W.heap.size := fun W hW wx hx q hq => ⟨(hx.tr hW).block q hq id, Nat.lt_of_lt_of_le hq (hx.tr hW).size⟩
      have hF36 : Frm (fun _ => False) w3 w6 := H4.out.1.tr H6.out.2.1
      have hF56 : Frm (fun _ => False) w5 w6 := HW5.out
      have rA : ∀ W, Frm (fun _ => False) w6 W → RAt W (fun q => q < W.heap.size) (.slice Ar nr cr) c'.row := fun W hW => H3.out.2.2.1.keptTo fun q hq => hK6 W hW w3 hF36 q hq.2
      have rB : ∀ W, Frm (fun _ => False) w6 W → RAt W (fun q => q < W.heap.size) (.slice As ns cs) c'.row := fun W hW => H5.out.2.1.keptTo fun q hq => hK6 W hW w5 hF56 q hq.2
      have pA : ∀ W, Frm (fun _ => False) w6 W → PAt W (fun q => q < W.heap.size) (.slice Ap np cp) ps' := fun W hW => H3.out.2.2.2.1.keptTo fun q hq => hK6 W hW w3 hF36 q hq.2
      have pB : ∀ W, Frm (fun _ => False) w6 W → PAt W (fun q => q < W.heap.size) (.slice Aq nq cq) ps'' := fun W hW => H5.out.2.2.1.keptTo fun q hq => hK6 W hW w5 hF56 q hq.2
      obtain ⟨R, hR⟩ : ∃ R, R = rightB m ⟨es, a, s, r⟩ := ⟨_, rfl⟩
      obtain ⟨P, hP⟩ : ∃ P, P = pipesB (ps.map (·.p)) := ⟨_, rfl⟩
      obtain ⟨O, hO⟩ : ∃ O, O = decide (a = (n : Int)) := ⟨_, rfl⟩
      obtain ⟨D, hD⟩ : ∃ D, D = decide ((⟨es, a, s, r⟩ : Ch) = ⟨fs, a2, s2, r2⟩) := ⟨_, rfl⟩
      obtain ⟨E, hE⟩ : ∃ E, E = decide (ps.map (·.p) = qs.map (·.p)) := ⟨_, rfl⟩
      have f0 : ∀ W, Frm (fun _ => False) w6 W → Frm (fun _ => False) W0 W := fun W hW => H6.out.2.2.tr hW
      have HC := Lib.hid (And.intro (fun W (hW : Frm (fun _ => False) w6 W) => retB (b' := true) (rsame_any _ Ar nr cr c'.at_ c'.sum c'.wrong c'.row As ns cs c'.at_ c'.sum c'.wrong c'.row W (rA W hW) (rB W hW) fun _ h => h) (decide_eq_true rfl))
        (And.intro (fun W (hW : Frm (fun _ => False) w6 W) => retB (b' := true) (ralike_any _ Ap np cp Aq nq cq ps' ps'' W (pA W hW) (pB W hW) fun _ h => h) (decide_eq_true H5.out.1))
        (And.intro (fun W (hW : Frm (fun _ => False) w6 W) => retB (b' := b) (ready_any A n c a s r es A1 n1 c1 ps W (H.out.1 W (f0 W hW)) (H.out.2.2.1 W (f0 W hW))) H3.out.1.symm)
        (fun W (hW : Frm (fun _ => False) w6 W) => retB (b' := b) (rready_any A n c a s r es A1 n1 c1 ps W (H.out.1 W (f0 W hW)) (H.out.2.2.1 W (f0 W hW)) (by have := HB.out.2.1; omega)) H3.out.1.symm))))
      have HC2 := Lib.hid (And.intro (fun W (hW : Frm (fun _ => False) w6 W) => retB (b' := R) (right_any A n c a s r m es W (H.out.1 W (f0 W hW))) hR.symm)
        (And.intro (fun W (hW : Frm (fun _ => False) w6 W) => retB (b' := R) (rright_any A n c a s r m es W (H.out.1 W (f0 W hW))) hR.symm)
        (And.intro (fun W (hW : Frm (fun _ => False) w6 W) => retB (b' := P) (pipes_any A1 n1 c1 ps W (H.out.2.2.1 W (f0 W hW))) hP.symm)
        (And.intro (fun W (hW : Frm (fun _ => False) w6 W) => retB (b' := P) (rpipes_any A1 n1 c1 ps W (H.out.2.2.1 W (f0 W hW)) (by have := HB.out.2.1; omega)) hP.symm)
        (And.intro (fun W (_ : Frm (fun _ => False) w6 W) => retB (b' := O) (over_any A n c a s r W) hO.symm)
        (fun W (_ : Frm (fun _ => False) w6 W) => retB (b' := O) (rover_any A n c a s r W) hO.symm))))))
      have HC3 := Lib.hid (And.intro (fun W (hW : Frm (fun _ => False) w6 W) => retB (b' := D) (csame_any _ A n c a s r es A2 n2 k2 a2 s2 r2 fs W (H.out.1 W (f0 W hW)) (H.out.2.1 W (f0 W hW)) fun _ h => h) hD.symm)
        (And.intro (fun W (hW : Frm (fun _ => False) w6 W) => retB (b' := D) (rsame_any _ A n c a s r es A2 n2 k2 a2 s2 r2 fs W (H.out.1 W (f0 W hW)) (H.out.2.1 W (f0 W hW)) fun _ h => h) hD.symm)
        (And.intro (fun W (hW : Frm (fun _ => False) w6 W) => retB (b' := E) (calike_any _ A1 n1 c1 A3 n3 k3 ps qs W (H.out.2.2.1 W (f0 W hW)) (H.out.2.2.2.1 W (f0 W hW)) fun _ h => h) hE.symm)
        (And.intro (fun W (hW : Frm (fun _ => False) w6 W) => retB (b' := E) (ralike_any _ A1 n1 c1 A3 n3 k3 ps qs W (H.out.2.2.1 W (f0 W hW)) (H.out.2.2.2.1 W (f0 W hW)) fun _ h => h) hE.symm)
        (fun W (hW : Frm (fun _ => False) w6 W) => make_any A n c es W (H.out.1 W (f0 W hW)) HB.out.1)))))
      have HK : Hid (∀ W, Frm (fun _ => False) w6 W → B4 W gA (.slice Ar nr cr) c'.at_ c'.sum c'.wrong ∧ B4 W gB (.slice As ns cs) c'.at_ c'.sum c'.wrong ∧ B4 W gc (.slice A n c) a s r ∧ B4 W (gc + 1) (.slice A2 n2 k2) a2 s2 r2) := Lib.hid fun W hW =>
        ⟨B4.of H4.out.2.1 (H6.out.2.1.tr hW), B4.of H6.out.1 hW, (H.out.2.2.2.2.1 W (f0 W hW)).1, (H.out.2.2.2.2.1 W (f0 W hW)).2⟩
      have HK5 : Hid (∀ W, Frm (fun _ => False) w6 W → B4 W gA (.slice Ar nr cr) c'.at_ c'.sum c'.wrong ∧ B4 W gB (.slice As ns cs) c'.at_ c'.sum c'.wrong ∧ B4 W gc (.slice A n c) a s r) := Lib.hid fun W hW => ⟨(HK.out W hW).1, (HK.out W hW).2.1, (HK.out W hW).2.2.1⟩
      have HK9 : Hid (∀ W, Frm (fun _ => False) w6 W → B4 W gc (.slice A n c) a s r ∧ B4 W (gc + 1) (.slice A2 n2 k2) a2 s2 r2) := Lib.hid fun W hW => (HK.out W hW).2.2
      have HK7 : Hid (∀ W, Frm (fun _ => False) w6 W → B4 W gc (.slice A n c) a s r) := Lib.hid fun W hW => (HK.out W hW).2.2.1
      have HFw := Lib.hid (And.intro (H.out.2.2.2.2.2.1.tr H6.out.2.2) (And.intro H.out.1 f0))
      clear hR hP hO hD hE rA rB pA pB hK6 hF36 hF56 f0 H3 H4 H5 H6 HW5 HF2 HG H
      have nb : (b != b) = false := by simp
      have nR : (R != R) = false := by simp
      have nP : (P != P) = false := by simp
      have nO : (O != O) = false := by simp
      have eD : (D == D) = true := by simp
      have eE : (E == E) = true := by simp
      have h0 : Frm (fun _ => False) w6 w6.drew := (Frm.refl _ w6).drew
      go_cut [63] (fun t wc => t = .bool false ∧ Hid (Frm (fun _ => False) w6 wc))
      case first => as_aux_lemma =>
        go_region_held3 (fun w' => (w'.cell? ⟨gA, 0, none⟩ = some (.slice Ar nr cr) ∧ w'.cell? ⟨gA, 1, none⟩ = some (.int .i64 c'.at_) ∧ w'.cell? ⟨gA, 2, none⟩ = some (.int .u32 c'.sum) ∧ w'.cell? ⟨gA, 3, none⟩ = some (.int .i64 c'.wrong)) ∧ (w'.cell? ⟨gB, 0, none⟩ = some (.slice As ns cs) ∧ w'.cell? ⟨gB, 1, none⟩ = some (.int .i64 c'.at_) ∧ w'.cell? ⟨gB, 2, none⟩ = some (.int .u32 c'.sum) ∧ w'.cell? ⟨gB, 3, none⟩ = some (.int .i64 c'.wrong)) ∧ w'.cell? ⟨gc, 0, none⟩ = some (.slice A n c) ∧ w'.cell? ⟨gc, 1, none⟩ = some (.int .i64 a) ∧ w'.cell? ⟨gc, 2, none⟩ = some (.int .u32 s) ∧ w'.cell? ⟨gc, 3, none⟩ = some (.int .i64 r))
          (first | exact HK5.out _ h0 | exact HK5.out _ ha | exact HK5.out _ hb | exact HK5.out _ hc | exact HK5.out _ hd)
          (first
          | (go_at_call 10; refine (HC.out.1 _ h0).mono ?_; rintro e wa ⟨rfl, hFa⟩; have ha := h0.tr hFa)
          | (go_at_call 11; refine (HC.out.2.1 _ ha).mono ?_; rintro e wb ⟨rfl, hFb⟩; have hb := ha.tr hFb)
          | (go_at_call 12; refine (HC.out.2.2.1 _ (by first | exact hb | exact hd)).mono ?_; rintro e wc ⟨rfl, hFc⟩; have hc : Frm (fun _ => False) w6 wc := by first | exact hb.tr hFc | exact hd.tr hFc)
          | (go_at_call 13; refine (HC.out.2.2.2 _ (by first | exact hb | exact hc)).mono ?_; rintro e wd ⟨rfl, hFd⟩; have hd : Frm (fun _ => False) w6 wd := by first | exact hb.tr hFd | exact hc.tr hFd))
        all_goals
          go_wp2_with fail
          go_meet
          case rel => exact ⟨rfl, Lib.hid (by first | exact hd | exact hc)⟩
      case rest =>
        obtain ⟨rfl, hB⟩ := hcut
        clear h0
        go_upto_region 7 with fail
        have h0 : Frm (fun _ => False) w6 wc.drew := hB.out.drew
        go_cut [84] (fun t wz => t = .bool false ∧ Hid (Frm (fun _ => False) w6 wz))
        case first => as_aux_lemma =>
          go_region_held3 (fun w' => w'.cell? ⟨gc, 0, none⟩ = some (.slice A n c) ∧ w'.cell? ⟨gc, 1, none⟩ = some (.int .i64 a) ∧ w'.cell? ⟨gc, 2, none⟩ = some (.int .u32 s) ∧ w'.cell? ⟨gc, 3, none⟩ = some (.int .i64 r))
            (first | exact HK7.out _ h0 | exact HK7.out _ ha | exact HK7.out _ hb | exact HK7.out _ hc | exact HK7.out _ hd | exact HK7.out _ hx | exact HK7.out _ hy)
            (first
            | (go_at_call 14; refine (HC2.out.1 _ (by first | exact h0 | exact hb)).mono ?_; rintro e wa ⟨rfl, hFa⟩; have ha : Frm (fun _ => False) w6 wa := by first | exact h0.tr hFa | exact hb.tr hFa)
            | (go_at_call 15; refine (HC2.out.2.1 _ (by first | exact h0 | exact ha)).mono ?_; rintro e wb ⟨rfl, hFb⟩; have hb : Frm (fun _ => False) w6 wb := by first | exact h0.tr hFb | exact ha.tr hFb)
            | (go_at_call 16; refine (HC2.out.2.2.1 _ (by first | exact ha | exact hb | exact hd)).mono ?_; rintro e wc ⟨rfl, hFc⟩; have hc : Frm (fun _ => False) w6 wc := by first | exact ha.tr hFc | exact hb.tr hFc | exact hd.tr hFc)
            | (go_at_call 17; refine (HC2.out.2.2.2.1 _ (by first | exact ha | exact hb | exact hc)).mono ?_; rintro e wd ⟨rfl, hFd⟩; have hd : Frm (fun _ => False) w6 wd := by first | exact ha.tr hFd | exact hb.tr hFd | exact hc.tr hFd)
            | (go_at_call 18; refine (HC2.out.2.2.2.2.1 _ (by first | exact hc | exact hd | exact hy)).mono ?_; rintro e wx ⟨rfl, hFx⟩; have hx : Frm (fun _ => False) w6 wx := by first | exact hc.tr hFx | exact hd.tr hFx | exact hy.tr hFx)
            | (go_at_call 19; refine (HC2.out.2.2.2.2.2 _ (by first | exact hc | exact hd | exact hx)).mono ?_; rintro e wy ⟨rfl, hFy⟩; have hy : Frm (fun _ => False) w6 wy := by first | exact hc.tr hFy | exact hd.tr hFy | exact hx.tr hFy))
          all_goals
            go_wp2_with fail
            go_meet
            case rel => exact ⟨rfl, Lib.hid (by first | exact hx | exact hy)⟩
        case rest =>
          obtain ⟨rfl, hB2⟩ := hcut
          clear h0 hB
          go_upto_region 9 with fail
          have h0 : Frm (fun _ => False) w6 wc.drew := hB2.out.drew
          go_region_held3 (fun w' => (w'.cell? ⟨gc, 0, none⟩ = some (.slice A n c) ∧ w'.cell? ⟨gc, 1, none⟩ = some (.int .i64 a) ∧ w'.cell? ⟨gc, 2, none⟩ = some (.int .u32 s) ∧ w'.cell? ⟨gc, 3, none⟩ = some (.int .i64 r)) ∧ w'.cell? ⟨gc + 1, 0, none⟩ = some (.slice A2 n2 k2) ∧ w'.cell? ⟨gc + 1, 1, none⟩ = some (.int .i64 a2) ∧ w'.cell? ⟨gc + 1, 2, none⟩ = some (.int .u32 s2) ∧ w'.cell? ⟨gc + 1, 3, none⟩ = some (.int .i64 r2))
            (first | exact HK9.out _ h0 | exact HK9.out _ ha | exact HK9.out _ hb | exact HK9.out _ hc | exact HK9.out _ hd | exact HK9.out _ hm | exact HK9.out _ hs | exact HK9.out _ hk)
            (first
            | (go_at_call 20; refine (HC3.out.1 _ (by first | exact h0)).mono ?_; rintro e wa ⟨rfl, hFa⟩; have ha : Frm (fun _ => False) w6 wa := by first | exact h0.tr hFa)
            | (go_at_call 10; (have _hx := hm); refine (HM.out _ (Frm.refl _ _)).mono ?_; rintro e ws ⟨rfl, hFs⟩; have hs : Frm (fun _ => False) w6 ws := hm.tr hFs)
            | (go_at_call 10; refine (HC3.out.2.1 _ (by first | exact ha)).mono ?_; rintro e wb ⟨rfl, hFb⟩; have hb : Frm (fun _ => False) w6 wb := by first | exact ha.tr hFb)
            | (go_at_call 21; refine (HC3.out.2.2.1 _ (by first | exact hb)).mono ?_; rintro e wc ⟨rfl, hFc⟩; have hc : Frm (fun _ => False) w6 wc := by first | exact hb.tr hFc)
            | (go_at_call 11; refine (HC3.out.2.2.2.1 _ (by first | exact hc)).mono ?_; rintro e wd ⟨rfl, hFd⟩; have hd : Frm (fun _ => False) w6 wd := by first | exact hc.tr hFd)
            | (go_at_call 22; refine (HC3.out.2.2.2.2 _ hd).mono ?_; rintro e wm ⟨Am, km, rfl, hRm, hFm⟩; have hm : Frm (fun _ => False) w6 wm := hd.tr hFm; have HM := Lib.hid (made_same hRm (HFw.out.2.1 _ (HFw.out.2.2 _ hm))); unfold cVal)
            | (go_at_call 7; refine (wakes_any _).mono ?_; rintro e wk ⟨rfl, hFk⟩; have hk : Frm (fun _ => False) w6 wk := hs.tr hFk))
          all_goals
            have HZ := Lib.hid hk
            go_wp2_with fail
            go_ret
            exact ⟨by rfl, HFw.out.1.tr HZ.out⟩
end Go.Proofs.Ytbfcpapehfdphaa
