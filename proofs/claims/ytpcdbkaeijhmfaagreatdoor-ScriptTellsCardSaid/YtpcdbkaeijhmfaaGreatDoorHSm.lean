/- script: Same. -/
import Derived.Test.YtpcdbkaeijhmfaaGreatDoorGG
import Derived.Test.YtpcdbkaeijhmfaaGreatDoorGA
namespace Go.Proofs.YtpcdbkaeijhmfaaGreatDoor
set_option maxRecDepth 100000
set_option linter.unusedVariables false
set_option linter.unusedSimpArgs false
open Go.RowKit
attribute [local go_sem] Oper.semAt_some
def runCells (a0 a1 a2 a3 a4 a5 a6 : Int) (st : St) (rv av pv : Value) : List Value := [.int .i64 a0, .int .i64 a1, .int .i64 a2, .int .i64 a3, .int .i64 a4, .int .i64 a5, .int .i64 a6, .bool st.broken, rv, av, pv, .int .u8 st.kind, .int .u32 st.seed, .int .i64 st.last, .int .i64 st.cancel, .int .i64 st.most]
theorem st_eq (s t : St) : s = t ↔ s.fold = t.fold ∧ s.words = t.words ∧ s.conf = t.conf ∧ s.broken = t.broken ∧ s.reads = t.reads ∧ s.answers = t.answers ∧ s.picks = t.picks ∧ (s.kind = t.kind ∧ s.seed = t.seed ∧ s.last = t.last) ∧ s.cancel = t.cancel ∧ s.most = t.most := by
  cases s; cases t
  simp only [St.mk.injEq]
  constructor
  · rintro ⟨h1, h2, h3, h4, h5, h6, h7, h8, h9, h10, h11, h12⟩; exact ⟨h1, h2, h3, h4, h5, h6, h7, ⟨h8, h9, h10⟩, h11, h12⟩
  · rintro ⟨h1, h2, h3, h4, h5, h6, h7, ⟨h8, h9, h10⟩, h11, h12⟩; exact ⟨h1, h2, h3, h4, h5, h6, h7, h8, h9, h10, h11, h12⟩
theorem conf_eql (a0 a1 a2 a3 a4 a5 a6 b0 b1 b2 b3 b4 b5 b6 : Int) (w : World) : (binOp .eql 24 (.agg #[.int .i64 a0, .int .i64 a1, .int .i64 a2, .int .i64 a3, .int .i64 a4, .int .i64 a5, .int .i64 a6]) (.agg #[.int .i64 b0, .int .i64 b1, .int .i64 b2, .int .i64 b3, .int .i64 b4, .int .i64 b5, .int .i64 b6])).run Tryz.prog w = .ok (.bool (decide ([a0, a1, a2, a3, a4, a5, a6] = [b0, b1, b2, b3, b4, b5, b6]))) w := by
  by_cases h0 : a0 = b0
  · by_cases h1 : a1 = b1
    · by_cases h2 : a2 = b2
      · by_cases h3 : a3 = b3
        · by_cases h4 : a4 = b4
          · by_cases h5 : a5 = b5
            · by_cases h6 : a6 = b6 <;> simp [go_sem, h0, h1, h2, h3, h4, h5, h6]
            · simp [go_sem, h0, h1, h2, h3, h4, h5]
          · simp [go_sem, h0, h1, h2, h3, h4]
        · simp [go_sem, h0, h1, h2, h3]
      · simp [go_sem, h0, h1, h2]
    · simp [go_sem, h0, h1]
  · simp [go_sem, h0]
theorem plan_eql (k s k' s' : Nat) (l l' : Int) (w : World) : (binOp .eql 29 (.agg #[.int .u8 (k : Int), .int .u32 (s : Int), .int .i64 l]) (.agg #[.int .u8 (k' : Int), .int .u32 (s' : Int), .int .i64 l'])).run Tryz.prog w = .ok (.bool (decide (k = k' ∧ s = s' ∧ l = l'))) w := by
  by_cases h1 : k = k'
  · by_cases h2 : s = s'
    · by_cases h3 : l = l' <;> simp [go_sem, h1, h2, h3]
    · have h2' : ¬ (s : Int) = (s' : Int) := by omega
      simp [go_sem, h1, h2, h2']
  · have h1' : ¬ (k : Int) = (k' : Int) := by omega
    simp [go_sem, h1, h1']
theorem run_info : (Tryz.prog.info? 31).map (·.size) = some 16 := by kernel_rfl
theorem LsR.one {w : World} {K : Nat → Prop} {st : St} {wv rv av pv : Value} (h : LsR w K st wv rv av pv) (a0 a1 a2 a3 a4 a5 a6 : Int) : (runCells a0 a1 a2 a3 a4 a5 a6 st rv av pv).toArray.all (·.oneCell') = true := by
  obtain ⟨A1, n1, c1, e1, -⟩ := h.picks
  obtain ⟨A2, n2, c2, e2, -⟩ := h.answers
  obtain ⟨A3, c3, e3, -⟩ := h.reads.form
  rw [e1, e2, e3]
  simp only [runCells, List.all_toArray, List.all_cons, List.all_nil]
  rfl
set_option maxHeartbeats 8000000 in
theorem same_any (st st' : St) (wv rv av pv wv' rv' av' pv' : Value) (w : World) (hL : LsR w (InW w) st wv rv av pv) (hL' : LsR w (InW w) st' wv' rv' av' pv') (hok : st.conf.length = 7) (hok' : st'.conf.length = 7) :
    Calls Tryz.prog 13 #[.agg (stCells st wv rv av pv), .agg (stCells st' wv' rv' av' pv')] w fun e w' => e = .returned (.bool (decide (st = st'))) ∧ Frm (fun _ => False) w w' := by
  obtain ⟨a0, a1, a2, a3, a4, a5, a6, hcf⟩ := list7 st.conf hok
  obtain ⟨b0, b1, b2, b3, b4, b5, b6, hcf'⟩ := list7 st'.conf hok'
  obtain ⟨C, hC⟩ : ∃ C, C = stCells st wv rv av pv := ⟨_, rfl⟩
  obtain ⟨C', hC'⟩ : ∃ C, C = stCells st' wv' rv' av' pv' := ⟨_, rfl⟩
  obtain ⟨D, hD⟩ : ∃ D, D = runCells a0 a1 a2 a3 a4 a5 a6 st rv av pv := ⟨_, rfl⟩
  obtain ⟨D', hD'⟩ : ∃ D, D = runCells b0 b1 b2 b3 b4 b5 b6 st' rv' av' pv' := ⟨_, rfl⟩
  rw [← hC, ← hC']
  have HD := Lib.hid (And.intro (show C = (.bool st.fold :: wv :: D).toArray by rw [hC, hD]; unfold stCells; rw [hcf]; rfl) (And.intro (show C' = (.bool st'.fold :: wv' :: D').toArray by rw [hC', hD']; unfold stCells; rw [hcf']; rfl) (And.intro hD hD')))
  have Hcf := Lib.hid (And.intro hcf hcf')
  have H := Lib.hid (And.intro hL hL')
  have hdec : Hid (decide (st = st') = decide (st.fold = st'.fold ∧ st.words = st'.words ∧ st.conf = st'.conf ∧ st.broken = st'.broken ∧ st.reads = st'.reads ∧ st.answers = st'.answers ∧ st.picks = st'.picks ∧ (st.kind = st'.kind ∧ st.seed = st'.seed ∧ st.last = st'.last) ∧ st.cancel = st'.cancel ∧ st.most = st'.most)) := Lib.hid (decide_eq_decide.2 (st_eq st st'))
  clear hcf hcf' hC hC' hD hD' hL hL' hok hok'
  go_enter Tryz.func13, Tryz.ntmps13
  go_upto_region 1 with fail
  have hB := (Blk.new w 33 C).alloc (.cells C' 33)
  have hB' := Blk.new (w.alloc (.cells C 33)) 33 C'
  have hF : Frm (fun _ => False) w ((w.alloc (.cells C 33)).alloc (.cells C' 33)) := ((Frm.refl _ w).alloc _).alloc _
  rw [World.size_alloc] at hB'
  obtain ⟨g0, hg0⟩ : ∃ g, g = w.heap.size := ⟨_, rfl⟩
  rw [← hg0] at hB hB' ⊢
  generalize (w.alloc (.cells C 33)).alloc (.cells C' 33) = W0 at *
  refine plan_begin (by kernel_rfl) 8 (by kernel_rfl) ?_
  obtain ⟨W, hW⟩ : ∃ W, W = W0.drew := ⟨_, rfl⟩
  have HW := Lib.hid (show Blk W g0 33 C ∧ Blk W (g0 + 1) 33 C' ∧ Frm (fun _ => False) w W from hW ▸ ⟨hB.drew, hB'.drew, hF.drew⟩)
  rw [← hW]
  clear hW hB hB' hF hg0
  have Hr := Lib.hid (show ∀ w1, Frm (fun _ => False) W w1 → w1.rangeAt g0 2 D ∧ w1.rangeAt (g0 + 1) 2 D' from fun w1 h => ⟨fun j v hv => by
    rw [(HW.out.1.kept h id).cell, HD.out.1, List.getElem?_toArray, Nat.add_comm]; exact hv, fun j v hv => by
    rw [(HW.out.2.1.kept h id).cell, HD.out.2.1, List.getElem?_toArray, Nat.add_comm]; exact hv⟩)
  obtain ⟨Z, hZ⟩ : ∃ Z : Array Value, Z = #[.int .i64 0, .int .i64 0, .int .i64 0, .int .i64 0, .int .i64 0, .int .i64 0, .int .i64 0, .bool false, .slice none 0 0, .slice none 0 0, .slice none 0 0, .int .u8 0, .int .u32 0, .int .i64 0, .int .i64 0, .int .i64 0] := ⟨_, rfl⟩
  have HZ := Lib.hid hZ
  have HI := Lib.hid (show ((Tryz.prog.info? 31).map (·.size) = some D.length ∧ D.toArray.all (·.oneCell') = true ∧ Z.size = D.toArray.size) ∧ (Tryz.prog.info? 31).map (·.size) = some D'.length ∧ D'.toArray.all (·.oneCell') = true ∧ Z.size = D'.toArray.size from by
    rw [HD.out.2.2.1, HD.out.2.2.2, hZ]
    exact ⟨⟨run_info, H.out.1.one _ _ _ _ _ _ _, rfl⟩, run_info, H.out.2.one _ _ _ _ _ _ _, rfl⟩)
  clear hZ
  refine plan_fxg [0, 1, 2, 3, 4, 5, 6, 7] (fun j v _ => (match j with | 0 => v = .pointer (some ⟨g0, 2, none⟩) | 1 => v = .agg D.toArray | 2 => v = .pointer (some ⟨g0 + 1, 2, none⟩) | 3 => v = .agg D'.toArray | _ => True : Prop)) (TwoG W 31 D.toArray D'.toArray Z) (fun w w' => Frm (fun q => W.heap.size ≤ q) w w') #[true, true, true, true, true, true, true, true] 0 (by kernel_rfl) (by kernel_rfl) (by kernel_rfl) (by kernel_rfl) (by kernel_rfl) (by kernel_rfl) (by kernel_rfl) (by kernel_rfl) (fun f => TwoG.start f fun j => ?hl0) (fun j v w1 w2 h _ => h) ?steps ?fin
  case hl0 =>
    rw [upTo_at]
    split
    · simp
    · rfl
  case steps =>
    refine steps_cons 0 rfl ?_ ?_
    · intro f L w1 A ρ hρ hG hL hLd hd hu hA K hK
      have e1 : ρ (.tmp 2) = .pointer (some ⟨g0, 0, none⟩) := (hA 2).trans (by kernel_rfl)
      refine fx_val hρ rfl (v := .pointer (some ⟨g0, 2, none⟩)) (w' := w1) (by simp [execOp, go_sem, e1]) (hK _ _ rfl (Frm.refl _ _) (hG.keep (by omega) _))
    refine steps_cons 1 rfl ?_ ?_
    · intro f L w1 A ρ hρ hG hL hLd hd hu hA K hK
      have e1 : ρ (.tmp 7) = .pointer (some ⟨g0, 2, none⟩) := (hA 7).trans ((show (puts _ f _ _).eval (.tmp 7) = f 0 from by kernel_rfl).trans (hd 0 (by kernel_rfl)))
      refine fx_val hρ rfl (v := .agg D.toArray) (w' := w1) (exec_load rfl e1 (run_loadAt_mid w1 g0 2 31 D _ (Hr.out w1 hG.fr).1 Tryz.underlying31 rfl HI.out.1.1)) (hK _ _ rfl (Frm.refl _ _) (hG.keep (by omega) _))
    refine steps_cons 2 rfl ?_ ?_
    · intro f L w1 A ρ hρ hG hL hLd hd hu hA K hK
      have e1 : ρ (.tmp 3) = .pointer (some ⟨g0 + 1, 0, none⟩) := (hA 3).trans (by kernel_rfl)
      refine fx_val hρ rfl (v := .pointer (some ⟨g0 + 1, 2, none⟩)) (w' := w1) (by simp [execOp, go_sem, e1]) (hK _ _ rfl (Frm.refl _ _) (hG.keep (by omega) _))
    refine steps_cons 3 rfl ?_ ?_
    · intro f L w1 A ρ hρ hG hL hLd hd hu hA K hK
      have e1 : ρ (.tmp 9) = .pointer (some ⟨g0 + 1, 2, none⟩) := (hA 9).trans ((show (puts _ f _ _).eval (.tmp 9) = f 2 from by kernel_rfl).trans (hd 2 (by kernel_rfl)))
      refine fx_val hρ rfl (v := .agg D'.toArray) (w' := w1) (exec_load rfl e1 (run_loadAt_mid w1 (g0 + 1) 2 31 D' _ (Hr.out w1 hG.fr).2 Tryz.underlying31 rfl HI.out.2.1)) (hK _ _ rfl (Frm.refl _ _) (hG.keep (by omega) _))
    refine steps_cons 4 rfl ?_ ?_
    · intro f L w1 A ρ hρ hG hL hLd hd hu hA K hK
      refine fx_val hρ rfl (v := .pointer (some ⟨w1.heap.size, 0, none⟩)) (w' := w1.alloc (.cells Z 31)) (by simp [execOp, go_sem, HZ.out]) (hK _ _ trivial ((Frm.refl _ _).alloc _) (hG.new4 hL))
    refine steps_cons 5 rfl ?_ ?_
    · intro f L w1 A ρ hρ hG hL hLd hd hu hA K hK
      refine fx_val hρ rfl (v := .pointer (some ⟨w1.heap.size, 0, none⟩)) (w' := w1.alloc (.cells Z 31)) (by simp [execOp, go_sem, HZ.out]) (hK _ _ trivial ((Frm.refl _ _).alloc _) (hG.new5 hL))
    refine steps_cons 6 rfl ?_ ?_
    · intro f L w1 A ρ hρ hG hL hLd hd hu hA K hK
      have h4 := hLd 4 (by kernel_rfl)
      obtain ⟨g, e4, hge, hb⟩ := hG.one h4
      rw [hL, if_neg (by simp)] at hb
      have e0 : ρ (.tmp 5) = f 4 := (hA 5).trans (show (puts _ f _ _).eval (.tmp 5) = f 4 from by kernel_rfl)
      rw [e4] at e0
      have e1 : ρ (.tmp 8) = .agg D.toArray := (hA 8).trans ((show (puts _ f _ _).eval (.tmp 8) = f 1 from by kernel_rfl).trans (hd 1 (by kernel_rfl)))
      refine fx_skp hρ rfl (w' := w1.setRow g D.toArray) (exec_store rfl e0 e1 (by simp only [Instr.storeAt, Instr.sureAddr, Sem.run_bind, Sem.run_pure, Result.andThen_ok, run_storeVar_row w1 g 31 31 Z D.toArray hb HI.out.1.1 HI.out.1.2.2 HI.out.1.2.1])) (hK _ _ trivial ((Frm.refl (fun q => W.heap.size ≤ q) w1).setRow (.inl hge) _) (hG.put6 h4 _ e4))
    refine steps_cons 7 rfl ?_ ?_
    · intro f L w1 A ρ hρ hG hL hLd hd hu hA K hK
      have h5 := hLd 5 (by kernel_rfl)
      obtain ⟨g, e4, hge, hb⟩ := hG.two h5
      rw [hL, if_neg (by simp)] at hb
      have e0 : ρ (.tmp 6) = f 5 := (hA 6).trans (show (puts _ f _ _).eval (.tmp 6) = f 5 from by kernel_rfl)
      rw [e4] at e0
      have e1 : ρ (.tmp 10) = .agg D'.toArray := (hA 10).trans ((show (puts _ f _ _).eval (.tmp 10) = f 3 from by kernel_rfl).trans (hd 3 (by kernel_rfl)))
      refine fx_skp hρ rfl (w' := w1.setRow g D'.toArray) (exec_store rfl e0 e1 (by simp only [Instr.storeAt, Instr.sureAddr, Sem.run_bind, Sem.run_pure, Result.andThen_ok, run_storeVar_row w1 g 31 31 Z D'.toArray hb HI.out.2.1 HI.out.2.2.2 HI.out.2.2.1])) (hK _ _ trivial ((Frm.refl (fun q => W.heap.size ≤ q) w1).setRow (.inl hge) _) (hG.put7 h5 _ e4))
    exact steps_nil
  case fin =>
    intro f L w1 hG hl hV
    obtain ⟨g, g', e4, e5, hb, hb', hF1⟩ := hG.done (hl 4 rfl) (hl 5 rfl) (hl 6 rfl) (hl 7 rfl)
    simp only [puts, dstOf, List.getElem?_cons_succ, List.getElem?_cons_zero, Option.bind_some, Act.put, List.setIfInBounds_toArray, List.set_cons_succ, List.set_cons_zero, e4, e5]
    refine plan_done (by kernel_rfl) ?_
    have H1 := Lib.hid (And.intro hb (And.intro hb' (And.intro hF1 (HW.out.2.2.trans' hF1))))
    have HS := Lib.hid (And.intro (HW.out.1.kept hF1 id) (HW.out.2.1.kept hF1 id))
    clear hG hl hV e4 e5 hb hb' hF1
    clear HI HZ Hr HW
    have d0 : w1.cell? ⟨g0, 0, none⟩ = some (.bool st.fold) := by rw [HS.out.1.cell, HD.out.1]; rfl
    have d0' : w1.cell? ⟨g0 + 1, 0, none⟩ = some (.bool st'.fold) := by rw [HS.out.2.cell, HD.out.2.1]; rfl
    have d1 : w1.cell? ⟨g0, 1, none⟩ = some (wv) := by rw [HS.out.1.cell, HD.out.1]; rfl
    have d1' : w1.cell? ⟨g0 + 1, 1, none⟩ = some (wv') := by rw [HS.out.2.cell, HD.out.2.1]; rfl
    have c0 : w1.cell? ⟨g, 0, none⟩ = some (.int .i64 a0) := by rw [H1.out.1.cell, HD.out.2.2.1]; rfl
    have c0' : w1.cell? ⟨g', 0, none⟩ = some (.int .i64 b0) := by rw [H1.out.2.1.cell, HD.out.2.2.2]; rfl
    have c1 : w1.cell? ⟨g, 1, none⟩ = some (.int .i64 a1) := by rw [H1.out.1.cell, HD.out.2.2.1]; rfl
    have c1' : w1.cell? ⟨g', 1, none⟩ = some (.int .i64 b1) := by rw [H1.out.2.1.cell, HD.out.2.2.2]; rfl
    have c2 : w1.cell? ⟨g, 2, none⟩ = some (.int .i64 a2) := by rw [H1.out.1.cell, HD.out.2.2.1]; rfl
    have c2' : w1.cell? ⟨g', 2, none⟩ = some (.int .i64 b2) := by rw [H1.out.2.1.cell, HD.out.2.2.2]; rfl
    have c3 : w1.cell? ⟨g, 3, none⟩ = some (.int .i64 a3) := by rw [H1.out.1.cell, HD.out.2.2.1]; rfl
    have c3' : w1.cell? ⟨g', 3, none⟩ = some (.int .i64 b3) := by rw [H1.out.2.1.cell, HD.out.2.2.2]; rfl
    have c4 : w1.cell? ⟨g, 4, none⟩ = some (.int .i64 a4) := by rw [H1.out.1.cell, HD.out.2.2.1]; rfl
    have c4' : w1.cell? ⟨g', 4, none⟩ = some (.int .i64 b4) := by rw [H1.out.2.1.cell, HD.out.2.2.2]; rfl
    have c5 : w1.cell? ⟨g, 5, none⟩ = some (.int .i64 a5) := by rw [H1.out.1.cell, HD.out.2.2.1]; rfl
    have c5' : w1.cell? ⟨g', 5, none⟩ = some (.int .i64 b5) := by rw [H1.out.2.1.cell, HD.out.2.2.2]; rfl
    have c6 : w1.cell? ⟨g, 6, none⟩ = some (.int .i64 a6) := by rw [H1.out.1.cell, HD.out.2.2.1]; rfl
    have c6' : w1.cell? ⟨g', 6, none⟩ = some (.int .i64 b6) := by rw [H1.out.2.1.cell, HD.out.2.2.2]; rfl
    have cbr : w1.cell? ⟨g, 7, none⟩ = some (.bool st.broken) := by rw [H1.out.1.cell, HD.out.2.2.1]; rfl
    have cbr' : w1.cell? ⟨g', 7, none⟩ = some (.bool st'.broken) := by rw [H1.out.2.1.cell, HD.out.2.2.2]; rfl
    have crd : w1.cell? ⟨g, 8, none⟩ = some (rv) := by rw [H1.out.1.cell, HD.out.2.2.1]; rfl
    have crd' : w1.cell? ⟨g', 8, none⟩ = some (rv') := by rw [H1.out.2.1.cell, HD.out.2.2.2]; rfl
    have can : w1.cell? ⟨g, 9, none⟩ = some (av) := by rw [H1.out.1.cell, HD.out.2.2.1]; rfl
    have can' : w1.cell? ⟨g', 9, none⟩ = some (av') := by rw [H1.out.2.1.cell, HD.out.2.2.2]; rfl
    have cpk : w1.cell? ⟨g, 10, none⟩ = some (pv) := by rw [H1.out.1.cell, HD.out.2.2.1]; rfl
    have cpk' : w1.cell? ⟨g', 10, none⟩ = some (pv') := by rw [H1.out.2.1.cell, HD.out.2.2.2]; rfl
    have ckd : w1.cell? ⟨g, 11, none⟩ = some (.int .u8 (st.kind : Nat)) := by rw [H1.out.1.cell, HD.out.2.2.1]; rfl
    have ckd' : w1.cell? ⟨g', 11, none⟩ = some (.int .u8 (st'.kind : Nat)) := by rw [H1.out.2.1.cell, HD.out.2.2.2]; rfl
    have csd : w1.cell? ⟨g, 12, none⟩ = some (.int .u32 (st.seed : Nat)) := by rw [H1.out.1.cell, HD.out.2.2.1]; rfl
    have csd' : w1.cell? ⟨g', 12, none⟩ = some (.int .u32 (st'.seed : Nat)) := by rw [H1.out.2.1.cell, HD.out.2.2.2]; rfl
    have cls : w1.cell? ⟨g, 13, none⟩ = some (.int .i64 st.last) := by rw [H1.out.1.cell, HD.out.2.2.1]; rfl
    have cls' : w1.cell? ⟨g', 13, none⟩ = some (.int .i64 st'.last) := by rw [H1.out.2.1.cell, HD.out.2.2.2]; rfl
    have ccn : w1.cell? ⟨g, 14, none⟩ = some (.int .i64 st.cancel) := by rw [H1.out.1.cell, HD.out.2.2.1]; rfl
    have ccn' : w1.cell? ⟨g', 14, none⟩ = some (.int .i64 st'.cancel) := by rw [H1.out.2.1.cell, HD.out.2.2.2]; rfl
    have cms : w1.cell? ⟨g, 15, none⟩ = some (.int .i64 st.most) := by rw [H1.out.1.cell, HD.out.2.2.1]; rfl
    have cms' : w1.cell? ⟨g', 15, none⟩ = some (.int .i64 st'.most) := by rw [H1.out.2.1.cell, HD.out.2.2.2]; rfl
    have hLw := H.out.1.kept H1.out.2.2.2
    have hLw' := H.out.2.kept H1.out.2.2.2
    have hw := eqT_any (InW w1) wv wv' st.words st'.words w1 hLw.words hLw'.words
    have hr := eqT_any (InW w1) rv rv' st.reads st'.reads w1 hLw.reads hLw'.reads
    have ha := eqBo_any (InW w1) av av' st.answers st'.answers w1 hLw.answers hLw'.answers
    have hp := fun q => eqI_any (InW w1) pv pv' st.picks st'.picks (w1.drewN q) (hLw.picks.kept fun _ _ => rfl) (hLw'.picks.kept fun _ _ => rfl)
    have HA := Lib.hid (And.intro ha hp)
    have hcq := conf_eql a0 a1 a2 a3 a4 a5 a6 b0 b1 b2 b3 b4 b5 b6
    rw [← Hcf.out.1, ← Hcf.out.2] at hcq
    have hpq := plan_eql st.kind st.seed st'.kind st'.seed st.last st'.last
    clear hLw hLw' ha hp
    cases hz : (st.fold == st'.fold) with
    | false =>
      have HN := Lib.hid (show ¬ (st.fold = st'.fold) from by simpa using hz)
      go_wp2_with fail
      go_ret
      exact ⟨by rw [show decide (st = st') = false from hdec.out.trans (decide_eq_false fun h => HN.out h.1)]; rfl, H1.out.2.2.2⟩
    | true =>
      have Hp0 := Lib.hid (show st.fold = st'.fold from by simpa using hz)
      obtain ⟨z, hz⟩ : ∃ z, z = decide (st.words = st'.words) := ⟨_, rfl⟩
      rw [← hz] at hw
      have Hz := Lib.hid hz
      clear hz
      go_wp2_with fail
      refine hw.mono ?_
      rintro e w2 ⟨rfl, rfl⟩
      clear hw
      cases z with
      | false =>
        have HN := Lib.hid (show ¬ (st.words = st'.words) from of_decide_eq_false Hz.out.symm)
        go_wp2_with fail
        go_ret
        exact ⟨by rw [show decide (st = st') = false from hdec.out.trans (decide_eq_false fun h => HN.out h.2.1)]; rfl, H1.out.2.2.2⟩
      | true =>
        have Hp1 := Lib.hid (show st.words = st'.words from of_decide_eq_true Hz.out.symm)
        obtain ⟨z, hz⟩ : ∃ z, z = decide (st.conf = st'.conf) := ⟨_, rfl⟩
        simp only [← hz] at hcq
        have Hz := Lib.hid hz
        clear hz
        cases z with
        | false =>
          have HN := Lib.hid (show ¬ (st.conf = st'.conf) from of_decide_eq_false Hz.out.symm)
          go_wp2_with fail
          go_ret
          exact ⟨by rw [show decide (st = st') = false from hdec.out.trans (decide_eq_false fun h => HN.out h.2.2.1)]; rfl, H1.out.2.2.2⟩
        | true =>
          have Hp2 := Lib.hid (show st.conf = st'.conf from of_decide_eq_true Hz.out.symm)
          cases hz : (st.broken == st'.broken) with
          | false =>
            have HN := Lib.hid (show ¬ (st.broken = st'.broken) from by simpa using hz)
            go_wp2_with fail
            go_ret
            exact ⟨by rw [show decide (st = st') = false from hdec.out.trans (decide_eq_false fun h => HN.out h.2.2.2.1)]; rfl, H1.out.2.2.2⟩
          | true =>
            have Hp3 := Lib.hid (show st.broken = st'.broken from by simpa using hz)
            obtain ⟨z, hz⟩ : ∃ z, z = decide (st.reads = st'.reads) := ⟨_, rfl⟩
            rw [← hz] at hr
            have Hz := Lib.hid hz
            clear hz
            go_wp2_with fail
            refine hr.mono ?_
            rintro e w2 ⟨rfl, rfl⟩
            clear hr
            cases z with
            | false =>
              have HN := Lib.hid (show ¬ (st.reads = st'.reads) from of_decide_eq_false Hz.out.symm)
              go_wp2_with fail
              go_ret
              exact ⟨by rw [show decide (st = st') = false from hdec.out.trans (decide_eq_false fun h => HN.out h.2.2.2.2.1)]; rfl, H1.out.2.2.2⟩
            | true =>
              have Hp4 := Lib.hid (show st.reads = st'.reads from of_decide_eq_true Hz.out.symm)
              obtain ⟨z, hz⟩ : ∃ z, z = decide (st.answers = st'.answers) := ⟨_, rfl⟩
              have hh := HA.out.1
              rw [← hz] at hh
              have Hz := Lib.hid hz
              clear hz
              go_wp2_with fail
              refine hh.mono ?_
              rintro e w2 ⟨rfl, q, rfl⟩
              clear hh
              cases z with
              | false =>
                have HN := Lib.hid (show ¬ (st.answers = st'.answers) from of_decide_eq_false Hz.out.symm)
                go_wp2_with fail
                go_ret
                exact ⟨by rw [show decide (st = st') = false from hdec.out.trans (decide_eq_false fun h => HN.out h.2.2.2.2.2.1)]; rfl, H1.out.2.2.2.drewN _⟩
              | true =>
                have Hp5 := Lib.hid (show st.answers = st'.answers from of_decide_eq_true Hz.out.symm)
                obtain ⟨z, hz⟩ : ∃ z, z = decide (st.picks = st'.picks) := ⟨_, rfl⟩
                have hh := HA.out.2 q
                rw [← hz] at hh
                have Hz := Lib.hid hz
                clear hz
                go_wp2_with fail
                refine hh.mono ?_
                rintro e w2 ⟨rfl, q2, rfl⟩
                rw [World.drewN_drewN]
                clear hh
                cases z with
                | false =>
                  have HN := Lib.hid (show ¬ (st.picks = st'.picks) from of_decide_eq_false Hz.out.symm)
                  go_wp2_with fail
                  go_ret
                  exact ⟨by rw [show decide (st = st') = false from hdec.out.trans (decide_eq_false fun h => HN.out h.2.2.2.2.2.2.1)]; rfl, H1.out.2.2.2.drewN _⟩
                | true =>
                  have Hp6 := Lib.hid (show st.picks = st'.picks from of_decide_eq_true Hz.out.symm)
                  obtain ⟨z, hz⟩ : ∃ z, z = decide (st.kind = st'.kind ∧ st.seed = st'.seed ∧ st.last = st'.last) := ⟨_, rfl⟩
                  simp only [← hz] at hpq
                  have Hz := Lib.hid hz
                  clear hz
                  cases z with
                  | false =>
                    have HN := Lib.hid (show ¬ (st.kind = st'.kind ∧ st.seed = st'.seed ∧ st.last = st'.last) from of_decide_eq_false Hz.out.symm)
                    go_wp2_with fail
                    go_ret
                    exact ⟨by rw [show decide (st = st') = false from hdec.out.trans (decide_eq_false fun h => HN.out h.2.2.2.2.2.2.2.1)]; rfl, H1.out.2.2.2.drewN _⟩
                  | true =>
                    have Hp7 := Lib.hid (show st.kind = st'.kind ∧ st.seed = st'.seed ∧ st.last = st'.last from of_decide_eq_true Hz.out.symm)
                    cases hz : (st.cancel == st'.cancel) with
                    | false =>
                      have HN := Lib.hid (show ¬ (st.cancel = st'.cancel) from by simpa using hz)
                      go_wp2_with fail
                      go_ret
                      exact ⟨by rw [show decide (st = st') = false from hdec.out.trans (decide_eq_false fun h => HN.out h.2.2.2.2.2.2.2.2.1)]; rfl, H1.out.2.2.2.drewN _⟩
                    | true =>
                      have Hp8 := Lib.hid (show st.cancel = st'.cancel from by simpa using hz)
                      cases hz : (st.most == st'.most) with
                      | false =>
                        have HN := Lib.hid (show ¬ (st.most = st'.most) from by simpa using hz)
                        go_wp2_with fail
                        go_ret
                        exact ⟨by rw [show decide (st = st') = false from hdec.out.trans (decide_eq_false fun h => HN.out h.2.2.2.2.2.2.2.2.2)]; rfl, H1.out.2.2.2.drewN _⟩
                      | true =>
                        have Hp9 := Lib.hid (show st.most = st'.most from by simpa using hz)
                        go_wp2_with fail
                        go_ret
                        exact ⟨by rw [show decide (st = st') = true from hdec.out.trans (decide_eq_true ⟨Hp0.out, Hp1.out, Hp2.out, Hp3.out, Hp4.out, Hp5.out, Hp6.out, Hp7.out, Hp8.out, Hp9.out⟩)]; rfl, H1.out.2.2.2.drewN _⟩
end Go.Proofs.YtpcdbkaeijhmfaaGreatDoor
