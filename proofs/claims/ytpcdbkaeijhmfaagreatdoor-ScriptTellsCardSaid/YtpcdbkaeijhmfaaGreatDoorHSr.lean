/- teaselref30.Same. -/
import Derived.Test.YtpcdbkaeijhmfaaGreatDoorHSm
import Derived.Test.YtpcdbkaeijhmfaaGreatDoorGH
namespace Go.Proofs.YtpcdbkaeijhmfaaGreatDoor
set_option maxRecDepth 100000
set_option linter.unusedVariables false
set_option linter.unusedSimpArgs false
open Go.RowKit
attribute [local go_sem] Oper.semAt_some
theorem conf_neq (a0 a1 a2 a3 a4 a5 a6 b0 b1 b2 b3 b4 b5 b6 : Int) (w : World) : (binOp .neq 24 (.agg #[.int .i64 a0, .int .i64 a1, .int .i64 a2, .int .i64 a3, .int .i64 a4, .int .i64 a5, .int .i64 a6]) (.agg #[.int .i64 b0, .int .i64 b1, .int .i64 b2, .int .i64 b3, .int .i64 b4, .int .i64 b5, .int .i64 b6])).run Tryz.prog w = .ok (.bool (!decide ([a0, a1, a2, a3, a4, a5, a6] = [b0, b1, b2, b3, b4, b5, b6]))) w := by
  by_cases h0 : a0 = b0
  · by_cases h1 : a1 = b1
    · by_cases h2 : a2 = b2
      · by_cases h3 : a3 = b3
        · by_cases h4 : a4 = b4
          · by_cases h5 : a5 = b5
            · by_cases h6 : a6 = b6 <;> simp [go_sem, h0, h1, h2, h3, h4, h5, h6]
            · simp [go_sem, h0, h1, h2, h3, h4, h5]
          · simp [go_sem, h0, h1, h2, h3, h4]
        · simp [go_sem, h0, h1, h2, h3]
      · simp [go_sem, h0, h1, h2]
    · simp [go_sem, h0, h1]
  · simp [go_sem, h0]
theorem plan_neq (k s k' s' : Nat) (l l' : Int) (w : World) : (binOp .neq 29 (.agg #[.int .u8 (k : Int), .int .u32 (s : Int), .int .i64 l]) (.agg #[.int .u8 (k' : Int), .int .u32 (s' : Int), .int .i64 l'])).run Tryz.prog w = .ok (.bool (!decide (k = k' ∧ s = s' ∧ l = l'))) w := by
  by_cases h1 : k = k'
  · by_cases h2 : s = s'
    · by_cases h3 : l = l' <;> simp [go_sem, h1, h2, h3]
    · have h2' : ¬ (s : Int) = (s' : Int) := by omega
      simp [go_sem, h1, h2, h2']
  · have h1' : ¬ (k : Int) = (k' : Int) := by omega
    simp [go_sem, h1, h1']
set_option maxHeartbeats 8000000 in
theorem sameR_any (st st' : St) (wv rv av pv wv' rv' av' pv' : Value) (w : World) (hL : LsR w (InW w) st wv rv av pv) (hL' : LsR w (InW w) st' wv' rv' av' pv') (hok : st.conf.length = 7) (hok' : st'.conf.length = 7) (hm : st.words.length ≤ 1000000 ∧ st.reads.length ≤ 1000000) :
    Calls Tryz.prog 8 #[.agg (stCells st wv rv av pv), .agg (stCells st' wv' rv' av' pv')] w fun e w' => e = .returned (.bool (decide (st = st'))) ∧ Frm (fun _ => False) w w' := by
  obtain ⟨a0, a1, a2, a3, a4, a5, a6, hcf⟩ := list7 st.conf hok
  obtain ⟨b0, b1, b2, b3, b4, b5, b6, hcf'⟩ := list7 st'.conf hok'
  obtain ⟨C, hC⟩ : ∃ C, C = stCells st wv rv av pv := ⟨_, rfl⟩
  obtain ⟨C', hC'⟩ : ∃ C, C = stCells st' wv' rv' av' pv' := ⟨_, rfl⟩
  obtain ⟨D, hD⟩ : ∃ D, D = runCells a0 a1 a2 a3 a4 a5 a6 st rv av pv := ⟨_, rfl⟩
  obtain ⟨D', hD'⟩ : ∃ D, D = runCells b0 b1 b2 b3 b4 b5 b6 st' rv' av' pv' := ⟨_, rfl⟩
  rw [← hC, ← hC']
  have HD := Lib.hid (And.intro (show C = (.bool st.fold :: wv :: D).toArray by rw [hC, hD]; unfold stCells; rw [hcf]; rfl) (And.intro (show C' = (.bool st'.fold :: wv' :: D').toArray by rw [hC', hD']; unfold stCells; rw [hcf']; rfl) (And.intro hD hD')))
  have Hcf := Lib.hid (And.intro hcf hcf')
  have H := Lib.hid (And.intro hL hL')
  have hdec : Hid (decide (st = st') = decide (st.fold = st'.fold ∧ st.words = st'.words ∧ st.conf = st'.conf ∧ st.broken = st'.broken ∧ st.reads = st'.reads ∧ st.answers = st'.answers ∧ st.picks = st'.picks ∧ (st.kind = st'.kind ∧ st.seed = st'.seed ∧ st.last = st'.last) ∧ st.cancel = st'.cancel ∧ st.most = st'.most)) := Lib.hid (decide_eq_decide.2 (st_eq st st'))
  obtain ⟨Aa, na, ca, rfl, hna, hnca, hna1, hna2⟩ := id hL.answers
  obtain ⟨Ab, nb, cb, rfl, hnb, hncb, hnb1, hnb2⟩ := id hL'.answers
  rw [bvs, List.length_map] at hna hnb
  have Hm := Lib.hid (And.intro hm (And.intro hna (And.intro hna2 (And.intro hnb hnb2))))
  have hna9 : na ≤ 9223372036854775807 := by omega
  have hnb9 : nb ≤ 9223372036854775807 := by omega
  clear hcf hcf' hC hC' hD hD' hL hL' hok hok' hm hna hna1 hna2 hnb hnb1 hnb2 hnca hncb
  go_enter Tryz.func8, Tryz.ntmps8
  go_upto_region 1 with fail
  have hB := (Blk.new w 33 C).alloc (.cells C' 33)
  have hB' := Blk.new (w.alloc (.cells C 33)) 33 C'
  have hF : Frm (fun _ => False) w ((w.alloc (.cells C 33)).alloc (.cells C' 33)) := ((Frm.refl _ w).alloc _).alloc _
  rw [World.size_alloc] at hB'
  obtain ⟨g0, hg0⟩ : ∃ g, g = w.heap.size := ⟨_, rfl⟩
  rw [← hg0] at hB hB' ⊢
  generalize (w.alloc (.cells C 33)).alloc (.cells C' 33) = W0 at *
  refine plan_begin (by kernel_rfl) 8 (by kernel_rfl) ?_
  obtain ⟨W, hW⟩ : ∃ W, W = W0.drew := ⟨_, rfl⟩
  have HW := Lib.hid (show Blk W g0 33 C ∧ Blk W (g0 + 1) 33 C' ∧ Frm (fun _ => False) w W from hW ▸ ⟨hB.drew, hB'.drew, hF.drew⟩)
  rw [← hW]
  clear hW hB hB' hF hg0
  have Hr := Lib.hid (show ∀ w1, Frm (fun _ => False) W w1 → w1.rangeAt g0 2 D ∧ w1.rangeAt (g0 + 1) 2 D' from fun w1 h => ⟨fun j v hv => by
    rw [(HW.out.1.kept h id).cell, HD.out.1, List.getElem?_toArray, Nat.add_comm]; exact hv, fun j v hv => by
    rw [(HW.out.2.1.kept h id).cell, HD.out.2.1, List.getElem?_toArray, Nat.add_comm]; exact hv⟩)
  obtain ⟨Z, hZ⟩ : ∃ Z : Array Value, Z = #[.int .i64 0, .int .i64 0, .int .i64 0, .int .i64 0, .int .i64 0, .int .i64 0, .int .i64 0, .bool false, .slice none 0 0, .slice none 0 0, .slice none 0 0, .int .u8 0, .int .u32 0, .int .i64 0, .int .i64 0, .int .i64 0] := ⟨_, rfl⟩
  have HZ := Lib.hid hZ
  have HI := Lib.hid (show ((Tryz.prog.info? 31).map (·.size) = some D.length ∧ D.toArray.all (·.oneCell') = true ∧ Z.size = D.toArray.size) ∧ (Tryz.prog.info? 31).map (·.size) = some D'.length ∧ D'.toArray.all (·.oneCell') = true ∧ Z.size = D'.toArray.size from by
    rw [HD.out.2.2.1, HD.out.2.2.2, hZ]
    exact ⟨⟨run_info, H.out.1.one _ _ _ _ _ _ _, rfl⟩, run_info, H.out.2.one _ _ _ _ _ _ _, rfl⟩)
  clear hZ
  refine plan_fxg [0, 1, 2, 3, 4, 5, 6, 7] (fun j v _ => (match j with | 0 => v = .pointer (some ⟨g0, 2, none⟩) | 1 => v = .agg D.toArray | 2 => v = .pointer (some ⟨g0 + 1, 2, none⟩) | 3 => v = .agg D'.toArray | _ => True : Prop)) (TwoG W 31 D.toArray D'.toArray Z) (fun w w' => Frm (fun q => W.heap.size ≤ q) w w') #[true, true, true, true, true, true, true, true] 0 (by kernel_rfl) (by kernel_rfl) (by kernel_rfl) (by kernel_rfl) (by kernel_rfl) (by kernel_rfl) (by kernel_rfl) (by kernel_rfl) (fun f => TwoG.start f fun j => ?hl0) (fun j v w1 w2 h _ => h) ?steps ?fin
  case hl0 =>
    rw [upTo_at]
    split
    · simp
    · rfl
  case steps =>
    refine steps_cons 0 rfl ?_ ?_
    · intro f L w1 A ρ hρ hG hL hLd hd hu hA K hK
      have e1 : ρ (.tmp 2) = .pointer (some ⟨g0, 0, none⟩) := (hA 2).trans (by kernel_rfl)
      refine fx_val hρ rfl (v := .pointer (some ⟨g0, 2, none⟩)) (w' := w1) (by simp [execOp, go_sem, e1]) (hK _ _ rfl (Frm.refl _ _) (hG.keep (by omega) _))
    refine steps_cons 1 rfl ?_ ?_
    · intro f L w1 A ρ hρ hG hL hLd hd hu hA K hK
      have e1 : ρ (.tmp 8) = .pointer (some ⟨g0, 2, none⟩) := (hA 8).trans ((show (puts _ f _ _).eval (.tmp 8) = f 0 from by kernel_rfl).trans (hd 0 (by kernel_rfl)))
      refine fx_val hρ rfl (v := .agg D.toArray) (w' := w1) (exec_load rfl e1 (run_loadAt_mid w1 g0 2 31 D _ (Hr.out w1 hG.fr).1 Tryz.underlying31 rfl HI.out.1.1)) (hK _ _ rfl (Frm.refl _ _) (hG.keep (by omega) _))
    refine steps_cons 2 rfl ?_ ?_
    · intro f L w1 A ρ hρ hG hL hLd hd hu hA K hK
      have e1 : ρ (.tmp 3) = .pointer (some ⟨g0 + 1, 0, none⟩) := (hA 3).trans (by kernel_rfl)
      refine fx_val hρ rfl (v := .pointer (some ⟨g0 + 1, 2, none⟩)) (w' := w1) (by simp [execOp, go_sem, e1]) (hK _ _ rfl (Frm.refl _ _) (hG.keep (by omega) _))
    refine steps_cons 3 rfl ?_ ?_
    · intro f L w1 A ρ hρ hG hL hLd hd hu hA K hK
      have e1 : ρ (.tmp 10) = .pointer (some ⟨g0 + 1, 2, none⟩) := (hA 10).trans ((show (puts _ f _ _).eval (.tmp 10) = f 2 from by kernel_rfl).trans (hd 2 (by kernel_rfl)))
      refine fx_val hρ rfl (v := .agg D'.toArray) (w' := w1) (exec_load rfl e1 (run_loadAt_mid w1 (g0 + 1) 2 31 D' _ (Hr.out w1 hG.fr).2 Tryz.underlying31 rfl HI.out.2.1)) (hK _ _ rfl (Frm.refl _ _) (hG.keep (by omega) _))
    refine steps_cons 4 rfl ?_ ?_
    · intro f L w1 A ρ hρ hG hL hLd hd hu hA K hK
      refine fx_val hρ rfl (v := .pointer (some ⟨w1.heap.size, 0, none⟩)) (w' := w1.alloc (.cells Z 31)) (by simp [execOp, go_sem, HZ.out]) (hK _ _ trivial ((Frm.refl _ _).alloc _) (hG.new4 hL))
    refine steps_cons 5 rfl ?_ ?_
    · intro f L w1 A ρ hρ hG hL hLd hd hu hA K hK
      refine fx_val hρ rfl (v := .pointer (some ⟨w1.heap.size, 0, none⟩)) (w' := w1.alloc (.cells Z 31)) (by simp [execOp, go_sem, HZ.out]) (hK _ _ trivial ((Frm.refl _ _).alloc _) (hG.new5 hL))
    refine steps_cons 6 rfl ?_ ?_
    · intro f L w1 A ρ hρ hG hL hLd hd hu hA K hK
      have h4 := hLd 4 (by kernel_rfl)
      obtain ⟨g, e4, hge, hb⟩ := hG.one h4
      rw [hL, if_neg (by simp)] at hb
      have e0 : ρ (.tmp 5) = f 4 := (hA 5).trans (show (puts _ f _ _).eval (.tmp 5) = f 4 from by kernel_rfl)
      rw [e4] at e0
      have e1 : ρ (.tmp 9) = .agg D.toArray := (hA 9).trans ((show (puts _ f _ _).eval (.tmp 9) = f 1 from by kernel_rfl).trans (hd 1 (by kernel_rfl)))
      refine fx_skp hρ rfl (w' := w1.setRow g D.toArray) (exec_store rfl e0 e1 (by simp only [Instr.storeAt, Instr.sureAddr, Sem.run_bind, Sem.run_pure, Result.andThen_ok, run_storeVar_row w1 g 31 31 Z D.toArray hb HI.out.1.1 HI.out.1.2.2 HI.out.1.2.1])) (hK _ _ trivial ((Frm.refl (fun q => W.heap.size ≤ q) w1).setRow (.inl hge) _) (hG.put6 h4 _ e4))
    refine steps_cons 7 rfl ?_ ?_
    · intro f L w1 A ρ hρ hG hL hLd hd hu hA K hK
      have h5 := hLd 5 (by kernel_rfl)
      obtain ⟨g, e4, hge, hb⟩ := hG.two h5
      rw [hL, if_neg (by simp)] at hb
      have e0 : ρ (.tmp 6) = f 5 := (hA 6).trans (show (puts _ f _ _).eval (.tmp 6) = f 5 from by kernel_rfl)
      rw [e4] at e0
      have e1 : ρ (.tmp 11) = .agg D'.toArray := (hA 11).trans ((show (puts _ f _ _).eval (.tmp 11) = f 3 from by kernel_rfl).trans (hd 3 (by kernel_rfl)))
      refine fx_skp hρ rfl (w' := w1.setRow g D'.toArray) (exec_store rfl e0 e1 (by simp only [Instr.storeAt, Instr.sureAddr, Sem.run_bind, Sem.run_pure, Result.andThen_ok, run_storeVar_row w1 g 31 31 Z D'.toArray hb HI.out.2.1 HI.out.2.2.2 HI.out.2.2.1])) (hK _ _ trivial ((Frm.refl (fun q => W.heap.size ≤ q) w1).setRow (.inl hge) _) (hG.put7 h5 _ e4))
    exact steps_nil
  case fin =>
    intro f L w1 hG hl hV
    obtain ⟨g, g', e4, e5, hb, hb', hF1⟩ := hG.done (hl 4 rfl) (hl 5 rfl) (hl 6 rfl) (hl 7 rfl)
    simp only [puts, dstOf, List.getElem?_cons_succ, List.getElem?_cons_zero, Option.bind_some, Act.put, List.setIfInBounds_toArray, List.set_cons_succ, List.set_cons_zero, e4, e5]
    refine plan_done (by kernel_rfl) ?_
    have H1 := Lib.hid (And.intro hb (And.intro hb' (And.intro hF1 (HW.out.2.2.trans' hF1))))
    have HS := Lib.hid (And.intro (HW.out.1.kept hF1 id) (HW.out.2.1.kept hF1 id))
    clear hG hl hV e4 e5 hb hb' hF1
    clear HI HZ Hr HW
    have d0 : w1.cell? ⟨g0, 0, none⟩ = some (.bool st.fold) := by rw [HS.out.1.cell, HD.out.1]; rfl
    have d0' : w1.cell? ⟨g0 + 1, 0, none⟩ = some (.bool st'.fold) := by rw [HS.out.2.cell, HD.out.2.1]; rfl
    have d1 : w1.cell? ⟨g0, 1, none⟩ = some (wv) := by rw [HS.out.1.cell, HD.out.1]; rfl
    have d1' : w1.cell? ⟨g0 + 1, 1, none⟩ = some (wv') := by rw [HS.out.2.cell, HD.out.2.1]; rfl
    have c0 : w1.cell? ⟨g, 0, none⟩ = some (.int .i64 a0) := by rw [H1.out.1.cell, HD.out.2.2.1]; rfl
    have c0' : w1.cell? ⟨g', 0, none⟩ = some (.int .i64 b0) := by rw [H1.out.2.1.cell, HD.out.2.2.2]; rfl
    have c1 : w1.cell? ⟨g, 1, none⟩ = some (.int .i64 a1) := by rw [H1.out.1.cell, HD.out.2.2.1]; rfl
    have c1' : w1.cell? ⟨g', 1, none⟩ = some (.int .i64 b1) := by rw [H1.out.2.1.cell, HD.out.2.2.2]; rfl
    have c2 : w1.cell? ⟨g, 2, none⟩ = some (.int .i64 a2) := by rw [H1.out.1.cell, HD.out.2.2.1]; rfl
    have c2' : w1.cell? ⟨g', 2, none⟩ = some (.int .i64 b2) := by rw [H1.out.2.1.cell, HD.out.2.2.2]; rfl
    have c3 : w1.cell? ⟨g, 3, none⟩ = some (.int .i64 a3) := by rw [H1.out.1.cell, HD.out.2.2.1]; rfl
    have c3' : w1.cell? ⟨g', 3, none⟩ = some (.int .i64 b3) := by rw [H1.out.2.1.cell, HD.out.2.2.2]; rfl
    have c4 : w1.cell? ⟨g, 4, none⟩ = some (.int .i64 a4) := by rw [H1.out.1.cell, HD.out.2.2.1]; rfl
    have c4' : w1.cell? ⟨g', 4, none⟩ = some (.int .i64 b4) := by rw [H1.out.2.1.cell, HD.out.2.2.2]; rfl
    have c5 : w1.cell? ⟨g, 5, none⟩ = some (.int .i64 a5) := by rw [H1.out.1.cell, HD.out.2.2.1]; rfl
    have c5' : w1.cell? ⟨g', 5, none⟩ = some (.int .i64 b5) := by rw [H1.out.2.1.cell, HD.out.2.2.2]; rfl
    have c6 : w1.cell? ⟨g, 6, none⟩ = some (.int .i64 a6) := by rw [H1.out.1.cell, HD.out.2.2.1]; rfl
    have c6' : w1.cell? ⟨g', 6, none⟩ = some (.int .i64 b6) := by rw [H1.out.2.1.cell, HD.out.2.2.2]; rfl
    have cbr : w1.cell? ⟨g, 7, none⟩ = some (.bool st.broken) := by rw [H1.out.1.cell, HD.out.2.2.1]; rfl
    have cbr' : w1.cell? ⟨g', 7, none⟩ = some (.bool st'.broken) := by rw [H1.out.2.1.cell, HD.out.2.2.2]; rfl
    have crd : w1.cell? ⟨g, 8, none⟩ = some (rv) := by rw [H1.out.1.cell, HD.out.2.2.1]; rfl
    have crd' : w1.cell? ⟨g', 8, none⟩ = some (rv') := by rw [H1.out.2.1.cell, HD.out.2.2.2]; rfl
    have can : w1.cell? ⟨g, 9, none⟩ = some (.slice Aa na ca) := by rw [H1.out.1.cell, HD.out.2.2.1]; rfl
    have can' : w1.cell? ⟨g', 9, none⟩ = some (.slice Ab nb cb) := by rw [H1.out.2.1.cell, HD.out.2.2.2]; rfl
    have cpk : w1.cell? ⟨g, 10, none⟩ = some (pv) := by rw [H1.out.1.cell, HD.out.2.2.1]; rfl
    have cpk' : w1.cell? ⟨g', 10, none⟩ = some (pv') := by rw [H1.out.2.1.cell, HD.out.2.2.2]; rfl
    have ckd : w1.cell? ⟨g, 11, none⟩ = some (.int .u8 (st.kind : Nat)) := by rw [H1.out.1.cell, HD.out.2.2.1]; rfl
    have ckd' : w1.cell? ⟨g', 11, none⟩ = some (.int .u8 (st'.kind : Nat)) := by rw [H1.out.2.1.cell, HD.out.2.2.2]; rfl
    have csd : w1.cell? ⟨g, 12, none⟩ = some (.int .u32 (st.seed : Nat)) := by rw [H1.out.1.cell, HD.out.2.2.1]; rfl
    have csd' : w1.cell? ⟨g', 12, none⟩ = some (.int .u32 (st'.seed : Nat)) := by rw [H1.out.2.1.cell, HD.out.2.2.2]; rfl
    have cls : w1.cell? ⟨g, 13, none⟩ = some (.int .i64 st.last) := by rw [H1.out.1.cell, HD.out.2.2.1]; rfl
    have cls' : w1.cell? ⟨g', 13, none⟩ = some (.int .i64 st'.last) := by rw [H1.out.2.1.cell, HD.out.2.2.2]; rfl
    have ccn : w1.cell? ⟨g, 14, none⟩ = some (.int .i64 st.cancel) := by rw [H1.out.1.cell, HD.out.2.2.1]; rfl
    have ccn' : w1.cell? ⟨g', 14, none⟩ = some (.int .i64 st'.cancel) := by rw [H1.out.2.1.cell, HD.out.2.2.2]; rfl
    have cms : w1.cell? ⟨g, 15, none⟩ = some (.int .i64 st.most) := by rw [H1.out.1.cell, HD.out.2.2.1]; rfl
    have cms' : w1.cell? ⟨g', 15, none⟩ = some (.int .i64 st'.most) := by rw [H1.out.2.1.cell, HD.out.2.2.2]; rfl
    have hLw := H.out.1.kept H1.out.2.2.2
    have hLw' := H.out.2.kept H1.out.2.2.2
    have hw := fun q => sameT_any (InW w1) wv wv' st.words st'.words (w1.drewN q) (hLw.words.keptTo fun _ h => ⟨rfl, h⟩) (hLw'.words.keptTo fun _ h => ⟨rfl, h⟩) Hm.out.1.1
    have hr := fun q => sameT_any (InW w1) rv rv' st.reads st'.reads (w1.drewN q) (hLw.reads.keptTo fun _ h => ⟨rfl, h⟩) (hLw'.reads.keptTo fun _ h => ⟨rfl, h⟩) Hm.out.1.2
    have hp := fun q => ints_any pv pv' (InW w1) (InW w1) st.picks st'.picks (w1.drewN q) (hLw.picks.kept fun _ _ => rfl) (hLw'.picks.kept fun _ _ => rfl)
    have HA := Lib.hid (And.intro hw (And.intro hr hp))
    have hFw := H1.out.2.2.2
    have hkey : ∀ (A : Option Addr) (l : List Bool) (n : Nat), (n = 0 ∨ ∃ g o, A = some ⟨g, o, none⟩ ∧ InW w g ∧ ∀ i (h : i < (bvs l).length), w.cell? ⟨g, o + i, none⟩ = some (bvs l)[i]) → (n = 0 ∨ ∃ g o, A = some ⟨g, o, none⟩ ∧ ∀ i (h : i < l.length), w1.cell? ⟨g, o + i, none⟩ = some (.bool l[i])) := by
      rintro A l n (h | ⟨g, o, e, -, hc⟩)
      · exact .inl h
      · refine .inr ⟨g, o, e, fun i hi => ?_⟩
        have := hFw.cell (hc i (by simpa [bvs] using hi)) id
        simpa [bvs] using this
    have hB4 := Lib.hid (And.intro (hkey _ _ _ Hm.out.2.2.1) (hkey _ _ _ Hm.out.2.2.2.2))
    have hcq := conf_neq a0 a1 a2 a3 a4 a5 a6 b0 b1 b2 b3 b4 b5 b6
    rw [← Hcf.out.1, ← Hcf.out.2] at hcq
    have hpq := plan_neq st.kind st.seed st'.kind st'.seed st.last st'.last
    clear hLw hLw' hw hr hp hFw hkey
    cases hz : (st.fold == st'.fold) with
    | false =>
      have HN := Lib.hid (show ¬ (st.fold = st'.fold) from by simpa using hz)
      have hz2 : (st.fold != st'.fold) = true := by rw [bne, hz]; rfl
      go_wp2_with fail
      go_ret
      exact ⟨by rw [show decide (st = st') = false from hdec.out.trans (decide_eq_false fun h => HN.out h.1)]; rfl, H1.out.2.2.2⟩
    | true =>
      have Hp0 := Lib.hid (show st.fold = st'.fold from by simpa using hz)
      have hz0 : (st.fold != st'.fold) = false := by rw [bne, hz]; rfl
      have hy0 := hz
      clear hz
      obtain ⟨z, hz⟩ : ∃ z, z = decide (st.conf = st'.conf) := ⟨_, rfl⟩
      simp only [← hz] at hcq
      have Hz := Lib.hid hz
      clear hz
      cases z with
      | false =>
        have HN := Lib.hid (show ¬ (st.conf = st'.conf) from of_decide_eq_false Hz.out.symm)
        simp only [Bool.not_false] at hcq
        go_wp2_with fail
        go_ret
        exact ⟨by rw [show decide (st = st') = false from hdec.out.trans (decide_eq_false fun h => HN.out h.2.2.1)]; rfl, H1.out.2.2.2⟩
      | true =>
        have Hp2 := Lib.hid (show st.conf = st'.conf from of_decide_eq_true Hz.out.symm)
        simp only [Bool.not_true] at hcq
        cases hz : (st.broken == st'.broken) with
        | false =>
          have HN := Lib.hid (show ¬ (st.broken = st'.broken) from by simpa using hz)
          have hz2 : (st.broken != st'.broken) = true := by rw [bne, hz]; rfl
          go_wp2_with fail
          go_ret
          exact ⟨by rw [show decide (st = st') = false from hdec.out.trans (decide_eq_false fun h => HN.out h.2.2.2.1)]; rfl, H1.out.2.2.2⟩
        | true =>
          have Hp3 := Lib.hid (show st.broken = st'.broken from by simpa using hz)
          have hz3 : (st.broken != st'.broken) = false := by rw [bne, hz]; rfl
          have hy3 := hz
          clear hz
          obtain ⟨z, hz⟩ : ∃ z, z = decide (st.kind = st'.kind ∧ st.seed = st'.seed ∧ st.last = st'.last) := ⟨_, rfl⟩
          simp only [← hz] at hpq
          have Hz := Lib.hid hz
          clear hz
          cases z with
          | false =>
            have HN := Lib.hid (show ¬ (st.kind = st'.kind ∧ st.seed = st'.seed ∧ st.last = st'.last) from of_decide_eq_false Hz.out.symm)
            simp only [Bool.not_false] at hpq
            go_wp2_with fail
            go_ret
            exact ⟨by rw [show decide (st = st') = false from hdec.out.trans (decide_eq_false fun h => HN.out h.2.2.2.2.2.2.2.1)]; rfl, H1.out.2.2.2⟩
          | true =>
            have Hp7 := Lib.hid (show st.kind = st'.kind ∧ st.seed = st'.seed ∧ st.last = st'.last from of_decide_eq_true Hz.out.symm)
            simp only [Bool.not_true] at hpq
            cases hz : (st.cancel == st'.cancel) with
            | false =>
              have HN := Lib.hid (show ¬ (st.cancel = st'.cancel) from by simpa using hz)
              have hz2 : (st.cancel != st'.cancel) = true := by rw [bne, hz]; rfl
              go_wp2_with fail
              go_ret
              exact ⟨by rw [show decide (st = st') = false from hdec.out.trans (decide_eq_false fun h => HN.out h.2.2.2.2.2.2.2.2.1)]; rfl, H1.out.2.2.2⟩
            | true =>
              have Hp8 := Lib.hid (show st.cancel = st'.cancel from by simpa using hz)
              have hz8 : (st.cancel != st'.cancel) = false := by rw [bne, hz]; rfl
              have hy8 := hz
              clear hz
              cases hz : (st.most == st'.most) with
              | false =>
                have HN := Lib.hid (show ¬ (st.most = st'.most) from by simpa using hz)
                have hz2 : (st.most != st'.most) = true := by rw [bne, hz]; rfl
                go_wp2_with fail
                go_ret
                exact ⟨by rw [show decide (st = st') = false from hdec.out.trans (decide_eq_false fun h => HN.out h.2.2.2.2.2.2.2.2.2)]; rfl, H1.out.2.2.2⟩
              | true =>
                have Hp9 := Lib.hid (show st.most = st'.most from by simpa using hz)
                have hz9 : (st.most != st'.most) = false := by rw [bne, hz]; rfl
                have hy9 := hz
                clear hz
                by_cases hnn : na = nb
                · subst hnn
                  have hne : ((na : Int) != (na : Int)) = false := by simp
                  go_wp2_with fail
                  go_loopw [7] (fun i wr => ∃ k : Nat, k ≤ na ∧ i = .int .i64 k ∧ (∃ q, wr = w1.drewN q) ∧ Hid (st.answers.take k = st'.answers.take k)) (fun i _ => na - (intOf i).toNat)
                  case atStart => exact ⟨0, Nat.zero_le _, rfl, ⟨0, rfl⟩, Lib.hid (by simp)⟩
                  case round =>
                    obtain ⟨k, hk, rfl, ⟨q0, rfl⟩, hT⟩ := hrel
                    by_cases hlt : k < na
                    · have hkx : k < st.answers.length := by have := Hm.out.2.1; omega
                      have hky : k < st'.answers.length := by have := Hm.out.2.2.2.1; omega
                      obtain ⟨ga, oa, rfl, hca⟩ := hB4.out.1.resolve_left (by omega)
                      obtain ⟨gb, ob, rfl, hcb⟩ := hB4.out.2.resolve_left (by omega)
                      have k1 := hca k hkx
                      have k2 := hcb k hky
                      obtain ⟨x, hxx⟩ : ∃ x, x = st.answers[k] := ⟨_, rfl⟩
                      obtain ⟨y, hyy⟩ : ∃ y, y = st'.answers[k] := ⟨_, rfl⟩
                      rw [← hxx] at k1
                      rw [← hyy] at k2
                      have H2 := Lib.hid (show ∃ (a : k < st.answers.length) (b : k < st'.answers.length), st.answers.take k = st'.answers.take k ∧ x = st.answers[k] ∧ y = st'.answers[k] ∧ k < na from ⟨hkx, hky, hT.out, hxx, hyy, hlt⟩)
                      clear hkx hky hca hcb hT hxx hyy
                      cases hz : (!(x == y)) with
                      | false =>
                        have Hz := Lib.hid hz
                        go_wp2_with fail
                        go_quiet (fail)
                        rename_i nq
                        obtain ⟨hkx, hky, hT, hxx, hyy, hlt⟩ := H2.out
                        have Ht := Lib.hid (take_same hkx hky hT (by rw [← hxx, ← hyy]; simpa using Hz.out))
                        clear hz k1 k2 hkx hky hT hxx hyy
                        go_wp2_with fail
                        go_roundw
                        case rel => exact ⟨k + 1, by omega, by go_num, ⟨q0 + nq, rfl⟩, Ht⟩
                        case measure => simp [intOf]; omega
                      | true =>
                        have Hz := Lib.hid hz
                        go_wp2_with fail
                        go_quiet (fail)
                        rename_i nq
                        obtain ⟨hkx, hky, hT, hxx, hyy, hlt⟩ := H2.out
                        have HN := Lib.hid (show ¬ st.answers = st'.answers from take_ne hkx hky (by rw [← hxx, ← hyy]; simpa using Hz.out))
                        clear hz k1 k2 hkx hky hT hxx hyy
                        go_wp2_with fail
                        go_ret
                        exact ⟨by rw [show decide (st = st') = false from hdec.out.trans (decide_eq_false fun h => HN.out h.2.2.2.2.2.1)]; rfl, (H1.out.2.2.2.drewN _).drewN _⟩
                    · obtain rfl : k = na := by omega
                      have Hp5 := Lib.hid (show st.answers = st'.answers from by
                        have := hT.out
                        have h1 := Hm.out.2.1
                        have h2 := Hm.out.2.2.2.1
                        rwa [List.take_of_length_le (by omega), List.take_of_length_le (by omega)] at this)
                      clear hT
                      obtain ⟨hw, hr, hp⟩ := HA.out
                      have hw := hw q0
                      obtain ⟨z1, hz1⟩ : ∃ z, z = decide (st.words = st'.words) := ⟨_, rfl⟩
                      rw [← hz1] at hw
                      have Hz1 := Lib.hid hz1
                      clear hz1 hr hp
                      go_wp2_with fail
                      refine hw.mono ?_
                      rintro e w2 ⟨rfl, q1, rfl⟩
                      rw [World.drewN_drewN]
                      clear hw
                      cases z1 with
                      | false =>
                        have HN := Lib.hid (show ¬ (st.words = st'.words) from of_decide_eq_false Hz1.out.symm)
                        go_wp2_with fail
                        go_ret
                        exact ⟨by rw [show decide (st = st') = false from hdec.out.trans (decide_eq_false fun h => HN.out h.2.1)]; rfl, H1.out.2.2.2.drewN _⟩
                      | true =>
                        have Hp1 := Lib.hid (show st.words = st'.words from of_decide_eq_true Hz1.out.symm)
                        have hr := HA.out.2.1 (q0 + q1)
                        obtain ⟨z2, hz2⟩ : ∃ z, z = decide (st.reads = st'.reads) := ⟨_, rfl⟩
                        rw [← hz2] at hr
                        have Hz2 := Lib.hid hz2
                        clear hz2
                        go_wp2_with fail
                        refine hr.mono ?_
                        rintro e w3 ⟨rfl, q2, rfl⟩
                        rw [World.drewN_drewN]
                        clear hr
                        cases z2 with
                        | false =>
                          have HN := Lib.hid (show ¬ (st.reads = st'.reads) from of_decide_eq_false Hz2.out.symm)
                          go_wp2_with fail
                          go_ret
                          exact ⟨by rw [show decide (st = st') = false from hdec.out.trans (decide_eq_false fun h => HN.out h.2.2.2.2.1)]; rfl, H1.out.2.2.2.drewN _⟩
                        | true =>
                          have Hp4 := Lib.hid (show st.reads = st'.reads from of_decide_eq_true Hz2.out.symm)
                          have hp := HA.out.2.2 (q0 + q1 + q2)
                          unfold IntsPost at hp
                          obtain ⟨z3, hz3⟩ : ∃ z, z = decide (st.picks = st'.picks) := ⟨_, rfl⟩
                          rw [← hz3] at hp
                          have Hz3 := Lib.hid hz3
                          clear hz3
                          go_wp2_with fail
                          refine hp.mono ?_
                          rintro e w4 ⟨rfl, q3, rfl⟩
                          rw [World.drewN_drewN]
                          clear hp
                          go_wp2_with fail
                          go_ret
                          cases z3 with
                          | false => exact ⟨by rw [show decide (st = st') = false from hdec.out.trans (decide_eq_false fun h => absurd h.2.2.2.2.2.2.1 (of_decide_eq_false Hz3.out.symm))]; rfl, H1.out.2.2.2.drewN _⟩
                          | true => exact ⟨by rw [show decide (st = st') = true from hdec.out.trans (decide_eq_true ⟨Hp0.out, Hp1.out, Hp2.out, Hp3.out, Hp4.out, Hp5.out, of_decide_eq_true Hz3.out.symm, Hp7.out, Hp8.out, Hp9.out⟩)]; rfl, H1.out.2.2.2.drewN _⟩
                · have HN := Lib.hid (show ¬ st.answers = st'.answers from fun e => hnn (by rw [Hm.out.2.1, Hm.out.2.2.2.1, e]))
                  have hne : ((na : Int) != (nb : Int)) = true := by simp; omega
                  clear hnn
                  go_wp2_with fail
                  go_ret
                  exact ⟨by rw [show decide (st = st') = false from hdec.out.trans (decide_eq_false fun h => HN.out h.2.2.2.2.2.1)]; rfl, H1.out.2.2.2⟩
end Go.Proofs.YtpcdbkaeijhmfaaGreatDoor
