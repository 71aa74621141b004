/- script: Parse. -/
import Derived.Test.YtpcdbkaeijhmfaaDoorPi
import Derived.RangeFuncCalls
namespace Go.Proofs.YtpcdbkaeijhmfaaDoor
set_option maxRecDepth 100000
set_option linter.unusedVariables false
set_option linter.unusedSimpArgs false
open Go.RowKit
attribute [local go_sem] Oper.semAt_some
theorem stCells_one {st : St} {wv rv av pv : Value} (h : wv.oneCell' = true ∧ rv.oneCell' = true ∧ av.oneCell' = true ∧ pv.oneCell' = true) : (stCells st wv rv av pv).all (·.oneCell') = true := by
  obtain ⟨h1, h2, h3, h4⟩ := h
  simp only [stCells, List.all_toArray, List.all_cons, List.all_nil, h1, h2, h3, h4]
  rfl
theorem st_info : (Tryd.prog.info? 33).map (·.size) = some 18 := by kernel_rfl
theorem zeroC_built : Tryd.prog.built 33 [] = some zeroC := by kernel_rfl
theorem results_p {fn : Func} (h : fn.results = #[.cell 2 33, .cell 3 3, .cell 4 36]) (tmps : Array Value) (w : World) (n : Nat) (cs : Array Value) (t : TypeId) (k e : Int)
    (h2 : tmps.getD 2 undef = .pointer (some ⟨n, 0, none⟩)) (h3 : tmps.getD 3 undef = .pointer (some ⟨n + 1, 0, none⟩)) (h4 : tmps.getD 4 undef = .pointer (some ⟨n + 1 + 1, 0, none⟩))
    (hb : Blk w n t cs) (hs : cs.size = 18) (hc : w.cell? ⟨n + 1, 0, none⟩ = some (.int .i64 k)) (hd : w.cell? ⟨n + 1 + 1, 0, none⟩ = some (.int .i64 e)) : (results fn tmps).run Tryd.prog w = .ok (.tuple #[.agg cs, .int .i64 k, .int .i64 e]) w := by
  have h2' : tmps[2]?.getD undef = .pointer (some ⟨n, 0, none⟩) := by simpa using h2
  have h3' : tmps[3]?.getD undef = .pointer (some ⟨n + 1, 0, none⟩) := by simpa using h3
  have h4' : tmps[4]?.getD undef = .pointer (some ⟨n + 1 + 1, 0, none⟩) := by simpa using h4
  have e1 : (loadVar 33 ⟨n, 0, none⟩).run Tryd.prog w = .ok (.agg cs) w := run_loadVar_row w n _ _ cs (0, 0) _ hb Tryd.underlying33 rfl (by rw [hs]; exact st_info)
  have e2 : (loadVar 3 ⟨n + 1, 0, none⟩).run Tryd.prog w = .ok (.int .i64 k) w := by simp [go_sem, hc]
  have e3 : (loadVar 36 ⟨n + 1 + 1, 0, none⟩).run Tryd.prog w = .ok (.int .i64 e) w := by simp [go_sem, hd]
  simp [results, h, h2', h3', h4', asAddr, e1, e2, e3]
/-- What Parse answers. -/
def ParsePost (t : By) (w : World) (e : Ending) (w' : World) : Prop :=
  Frm (fun _ => False) w w' ∧ match parseB t with
  | .great => e = .returned (.tuple #[.agg zeroC, .int .i64 0, .int .i64 301])
  | .line k => e = .returned (.tuple #[.agg zeroC, .int .i64 k, .int .i64 300])
  | .ok st => ∃ wv rv av pv, e = .returned (.tuple #[.agg (stCells st wv rv av pv), .int .i64 0, .int .i64 0]) ∧ Lsts w' w.heap.size st wv rv av pv
set_option maxRecDepth 100000 in
set_option maxHeartbeats 8000000 in
theorem parse_any (sl : Value) (t : By) (w : World) (m : Int) (hm : w.cell? ⟨0, 0, none⟩ = some (.int .i64 m)) (ht : t.length ≤ 9000000000000000000)
    (hJ : ∀ W, Frm (fun _ => False) w W → Calls Tryd.prog 23 #[sl, .string ⟨#[]⟩] W fun e W' => e = .returned (.string (ba t)) ∧ Frm (fun _ => False) W W') :
    Calls Tryd.prog 10 #[sl] w (ParsePost t w) := by
  have HJ := Lib.hid hJ
  have hb0 : 0 < w.heap.size := by
    by_cases h : 0 < w.heap.size
    · exact h
    · exfalso
      have h' : w.heap.size = 0 := by omega
      simp [World.cell?, h', Array.getElem?_eq_none] at hm
  clear hJ
  refine (callsIn_wide (n := 8)).1 ?_
  refine callsIn_of_wp_marks Tryd.func10 rfl trivial ?_ rfl
  simp only [Tryd.ntmps10, List.size_toArray, List.length_cons, List.length_nil, Nat.reduceAdd, Nat.reduceSub, Array.replicate_succ, Array.replicate_zero, List.push_toArray, List.append_toArray, List.nil_append, List.cons_append]
  gi_wp2_with fail
  refine ⟨trivial, ?_⟩
  obtain ⟨n, hn⟩ : ∃ n, n = w.heap.size := ⟨_, rfl⟩
  have hB0 := Blk.new w 33 (stCells zeroSt (.slice none 0 0) (.slice none 0 0) (.slice none 0 0) (.slice none 0 0))
  have hF0 : Frm (fun _ => False) w (w.alloc (.cells (stCells zeroSt (.slice none 0 0) (.slice none 0 0) (.slice none 0 0) (.slice none 0 0)) 33)) := (Frm.refl _ w).alloc _
  have hS0 : (w.alloc (.cells (stCells zeroSt (.slice none 0 0) (.slice none 0 0) (.slice none 0 0) (.slice none 0 0)) 33)).heap.size = n + 1 := by rw [World.size_alloc, hn]
  simp only [stCells, zeroSt, List.getD_cons_zero, List.getD_cons_succ] at hB0 hF0 hS0
  rw [← hn] at hB0 ⊢
  generalize w.alloc _ = w1 at hB0 hF0 hS0 ⊢
  have hB1 := Blk.new w1 3 #[.int .i64 0]
  have hF1 : Frm (fun _ => False) w1 (w1.alloc (.cells #[.int .i64 0] 3)) := (Frm.refl _ w1).alloc _
  have hS1 : (w1.alloc (.cells #[.int .i64 0] 3)).heap.size = n + 2 := by rw [World.size_alloc, hS0]
  rw [hS0] at hB1
  generalize w1.alloc (.cells #[.int .i64 0] 3) = w2 at hB1 hF1 hS1 ⊢
  have hB2 := Blk.new w2 36 #[.int .i64 0]
  have hF2 : Frm (fun _ => False) w2 (w2.alloc (.cells #[.int .i64 0] 36)) := (Frm.refl _ w2).alloc _
  have hS2 : (w2.alloc (.cells #[.int .i64 0] 36)).heap.size = n + 3 := by rw [World.size_alloc, hS1]
  rw [hS1] at hB2
  generalize w2.alloc (.cells #[.int .i64 0] 36) = w3 at hB2 hF2 hS2 ⊢
  refine (callsIn_wide.2 (HJ.out w3 (hF0.trans' (hF1.trans' hF2)))).mono ?_
  rintro e w4 ⟨rfl, hF3⟩
  have hB0 := ((hB0.kept hF1 id).kept hF2 id).kept hF3 id
  have hB1 := (hB1.kept hF2 id).kept hF3 id
  have hB2 := hB2.kept hF3 id
  have hF4 := hF0.trans' (hF1.trans' (hF2.trans' hF3))
  have HA := Lib.hid (And.intro hB0 (And.intro hB1 (And.intro hB2 (And.intro hF4 (And.intro hn (show n + 3 ≤ w4.heap.size by rw [← hS2]; exact hF3.size))))))
  have Hm := Lib.hid (And.intro hm hb0)
  clear hF0 hF1 hF2 hF3 hS0 hS1 hS2 hn hF4 hm hb0
  have hg := great_any t w4 ht
  obtain ⟨g, hgr⟩ : ∃ g, g = greatB t := ⟨_, rfl⟩
  rw [← hgr] at hg
  have Hgr := Lib.hid hgr
  clear hgr
  obtain ⟨S, hS⟩ : ∃ S, S = ba t := ⟨_, rfl⟩
  rw [← hS] at hg ⊢
  have HS := Lib.hid hS
  clear hS
  gi_wp2_with fail
  refine ⟨trivial, (callsIn_wide.2 hg).mono ?_⟩
  rintro e w5 ⟨rfl, rfl⟩
  cases g with
  | true =>
    gi_upto_region 3 with fail
    refine wpIn_region_lit ?_
    refine wpListIn_buildTo rfl 33 #[] rfl (some 13) rfl zeroC (by simp only [List.map_toArray, List.map_nil]; exact zeroC_built) ?_
    refine wpListIn_store_rowTo rfl 33 (.tmp 2) (.tmp 13) rfl rfl n zeroC rfl rfl _ _ HA.out.1 st_info rfl (stCells_one ⟨rfl, rfl, rfl, rfl⟩) ?_
    have hF5 : Frm (fun q => q = n) w4 (w4.setRow n zeroC) := (Frm.refl (fun q => q = n) w4).setRow (.inl rfl) _
    have hC0 : Blk (w4.setRow n zeroC) n 33 zeroC := HA.out.1.setRow _
    have hC1 := HA.out.2.1.kept hF5 (show ¬ n + 1 = n by omega)
    have hC2 := HA.out.2.2.1.kept hF5 (show ¬ n + 2 = n by omega)
    generalize w4.setRow n zeroC = w6 at *
    have c1 : w6.cell? ⟨n + 1, 0, none⟩ = some (.int .i64 0) := hC1.cell 0
    have f1 := hC1.frozen 0
    have c2 : w6.cell? ⟨n + 1 + 1, 0, none⟩ = some (.int .i64 0) := hC2.cell 0
    have f2 : w6.frozen? ⟨n + 1 + 1, 0, none⟩ = false := hC2.frozen 0
    simp only [Act.put, List.setIfInBounds_toArray, List.set_cons_succ, List.set_cons_zero]
    gi_wp2_with fail
    have hF6 := ((hF5.mono (K' := fun q => n ≤ q) fun q hq => .inl (by omega)).setCell ⟨n + 1, 0, none⟩ (.inl (by show n ≤ n + 1; omega)) (.int .i64 0)).setCell ⟨n + 1 + 1, 0, none⟩ (.inl (by show n ≤ n + 1 + 1; omega)) (.int .i64 301)
    have hC3 := (hC0.far (p := ⟨n + 1, 0, none⟩) (show n ≠ n + 1 by omega) (.int .i64 0)).far (p := ⟨n + 1 + 1, 0, none⟩) (show n ≠ n + 1 + 1 by omega) (.int .i64 301)
    have hC4 := ((hC1.set_ 0 (.int .i64 0)).far (p := ⟨n + 1 + 1, 0, none⟩) (show n + 1 ≠ n + 1 + 1 by omega) (.int .i64 301)).cell 0
    have hC5 := ((Blk.far hC2 (p := ⟨n + 1, 0, none⟩) (show n + 2 ≠ n + 1 by omega) (.int .i64 0)).set_ 0 (.int .i64 301)).cell 0
    refine ⟨_, results_p rfl _ _ n zeroC _ 0 301 rfl rfl rfl hC3 rfl hC4 hC5, ?_⟩
    refine ⟨HA.out.2.2.2.1.trans hF6 fun q hq => .inr (by have := HA.out.2.2.2.2.1; omega), ?_⟩
    rw [show parseB t = .great by unfold parseB; exact if_pos (of_decide_eq_true Hgr.out.symm)]
  | false =>
    gi_upto_region 5 with fail
    obtain ⟨b, hb⟩ : ∃ b, b = w4.heap.size := ⟨_, rfl⟩
    have hBs := Blk.new w4 60 zeroC
    have hFs : Frm (fun _ => False) w4 (w4.alloc (.cells zeroC 60)) := (Frm.refl _ w4).alloc _
    simp only [zeroC, stCells, zeroSt, List.getD_cons_zero, List.getD_cons_succ] at hBs hFs
    rw [← hb] at hBs ⊢
    generalize w4.alloc _ = w6 at hBs hFs ⊢
    have hlb : w4.heap.size ≤ b := by omega
    have Hb := Lib.hid hb
    clear hb
    have c16 : w6.cell? ⟨b, 16, none⟩ = some (.int .i64 0) := hBs.cell 16
    have f16 := hBs.frozen 16
    gi_upto_region 6 with fail
    have hB7 : Blk (w6.setCell ⟨b, 16, none⟩ (.int .i64 (-1))) b 60 (stCells newSt (.slice none 0 0) (.slice none 0 0) (.slice none 0 0) (.slice none 0 0)) := hBs.set_ 16 (.int .i64 (-1))
    have hF7 : Frm (fun _ => False) w4 (w6.setCell ⟨b, 16, none⟩ (.int .i64 (-1))) := hFs.setCell ⟨b, 16, none⟩ (.inr hlb) _
    generalize w6.setCell ⟨b, 16, none⟩ (.int .i64 (-1)) = w7 at *
    have hO7 : StO w7 b newSt := ⟨_, _, _, _, hB7, TxR.nil _ _, TxR.nil _ _, World.ownsRow_nil _ _ _ _, World.ownsRow_nil _ _ _ _, fun q hq => by cases hq⟩
    have hln := lines_any t w7
    rw [← HS.out] at hln
    have HB := Lib.hid (And.intro hO7 (And.intro hF7 Hb.out))
    clear hBs hFs c16 f16 hB7 hF7 hO7 hlb
    gi_wp2_with fail
    refine ⟨trivial, (callsIn_wide.2 hln).mono ?_⟩
    rintro e w8 ⟨rfl, rfl⟩
    obtain ⟨d, hd⟩ : ∃ d, d = w7.heap.size := ⟨_, rfl⟩
    have hBd := Blk.new w7 9 #[.string S]
    have hFd : Frm (fun _ => False) w7 (w7.alloc (.cells #[.string S] 9)) := (Frm.refl _ w7).alloc _
    rw [← hd] at hBd ⊢
    generalize w7.alloc (.cells #[.string S] 9) = w8 at hBd hFd ⊢
    have HD := Lib.hid (And.intro hBd (And.intro hFd hd))
    clear hln hBd hFd hd
    gi_wp2_with fail
    have hlenT : t.length ≤ 65536 := by
      have := of_decide_eq_false Hgr.out.symm
      unfold maxText at this
      omega
    have hm8 : w8.cell? ⟨0, 0, none⟩ = some (.int .i64 m) := HD.out.2.1.cell (HB.out.2.1.cell (HA.out.2.2.2.1.cell Hm.out.1 id) id) id
    have hgeo : n = w.heap.size ∧ (n + 2 < b ∧ b < d) ∧ d < w8.heap.size ∧ 0 < d := by
      have h1 := HA.out.2.2.2.2
      have h2 := HB.out.1.lt
      have h3 := HB.out.2.2
      have h4 := HD.out.2.2
      have h5 := HD.out.1.lt
      omega
    have hseq := lines_seq 7 d (by omega) t w8 m (by omega) hm8 hgeo.2.2.2 (by have := HD.out.1; rw [HS.out] at this; exact this)
    have hF8 : Frm (fun _ => False) w4 w8 := HB.out.2.1.trans' HD.out.2.1
    have hI0 : PI w n b d [] w8 := ⟨⟨newSt, rfl, HB.out.1.keptF HD.out.2.1, Nat.le_refl _⟩, ⟨_, _, HD.out.1⟩, HA.out.1.kept hF8 id, HA.out.2.1.kept hF8 id, HA.out.2.2.1.kept hF8 id, HA.out.2.2.2.1.trans' hF8⟩
    have Hgeo := Lib.hid hgeo
    refine wpIn_range_ws rfl (by omega) (gf := 41) (lb := #[.pointer (some ⟨d, 0, none⟩)]) rfl trivial (enters_of Tryd.func41 (by kernel_rfl) rfl) hseq (Frm.refl _ _) (fun _ => rfl)
      (fun X Y hr => ⟨hr.1.size, fun k o hk ho _ => (hr.1.block k (lt_heap ho) (by show ¬ k = d; omega)).trans ho⟩) (fun h k => h.trans' k) (fun W o => (Frm.refl _ W).putObj (.inl (by show w8.heap.size + 1 ≠ d ∧ w8.heap.size + 1 ≠ 0; omega)) o)
      (PI w n b d) (PX w n) (fun s X Y h hr => h.step hgeo.1 (by omega) hr.1 hr.2) (fun s X Y h hr => h.step hgeo.1 (d := d) (by omega) hr.1) (PI.own hgeo.1 (by omega)) (PX.own hgeo.1 (by omega)) hI0
      (fun x => { tmps := #[sl, undef, .pointer (some ⟨n, 0, none⟩), .pointer (some ⟨n + 1, 0, none⟩), .pointer (some ⟨n + 1 + 1, 0, none⟩), .string S, .pointer (some ⟨b, 0, none⟩), .int .i64 x.1, .string (ba x.2), sl, .string S, .string S, .bool false, undef, .pointer (some ⟨b, 0, none⟩), .pointer (some ⟨b, 2, none⟩), .pointer (some ⟨b, 16, none⟩), .string S, .func (.func 41) #[] #[.pointer (some ⟨d, 0, none⟩)], .int .i64 x.1, .string (ba x.2), undef, undef, undef, undef, undef, undef, undef], defers := [] })
      ?assign ?body ?done ?stop
    case assign =>
      intro l x W K hK
      obtain ⟨k, y⟩ := x
      simp only [nEnc] at hK ⊢
      clear hseq hI0 hgeo hF8 hm8
      gi_wp2
      exact hK
    case body =>
      rintro l pre ⟨k, y⟩ W hI hSp
      obtain ⟨st, h1, h2, h3⟩ := hI.st
      have hsum := linesB_sum t (pre ++ [(k, y)]) hSp.choose hSp.choose_spec
      rw [sumL_app] at hsum
      simp only [sumL, List.map_cons, List.map_nil, List.sum_cons, List.sum_nil] at hsum h3
      have hln := line_any b st y W h2 (by omega) (by omega)
      obtain ⟨o, ho⟩ : ∃ o, o = sayB st y := ⟨_, rfl⟩
      rw [← ho] at hln
      have HI := Lib.hid (And.intro hI (And.intro h1 (And.intro h2 (And.intro (show totS st ≤ sumL pre from h3) ho.symm))))
      clear hI h1 h2 h3 hsum ho hseq hI0 hgeo hF8 hm8 hSp
      simp only
      gi_wp2_with fail
      refine ⟨trivial, (CallsIn.inRound l (callsIn_wide.2 hln)).mono ?_⟩
      rintro e W2 ⟨rfl, hT, hO⟩
      cases o with
      | some st' =>
        have HT := Lib.hid (And.intro hT (hO st' rfl))
        clear hT hO hln
        simp only [Option.isSome_some]
        gi_wp2_with fail
        obtain ⟨hI, h1, h2, h3, ho⟩ := HI.out
        have hL := hI.line (x := (k, y)) Hgeo.out.1 Hgeo.out.2.1 h1 h2 h3 ho HT.out.1 HT.out.2
        exact ⟨StT.keeps h2 HT.out.1, hL.2, hL.1⟩
      | none =>
        have HT := Lib.hid hT
        clear hT hO hln
        simp only [Option.isSome_none]
        gi_upto_region 10 with fail
        obtain ⟨hI, h1, h2, h3, ho⟩ := HI.out
        obtain ⟨hC0, hC1, hC2, hF⟩ := hI.stop (x := (k, y)) Hgeo.out.1 Hgeo.out.2.1 h1 h2 ho HT.out
        refine wpIn_region_lit ?_
        refine wpListIn_buildTo rfl 33 #[] rfl (some 24) rfl zeroC (by simp only [List.map_toArray, List.map_nil]; exact zeroC_built) ?_
        refine wpListIn_val rfl (fun c hc => by cases hc) rfl (some 25) rfl (v := .int .i64 k) (by simp [go_sem, execOp]) ?_
        refine wpListIn_store_rowTo rfl 33 (.tmp 2) (.tmp 24) rfl rfl n zeroC rfl rfl _ _ hC0 st_info rfl (stCells_one ⟨rfl, rfl, rfl, rfl⟩) ?_
        have hF5 : Frm (fun q => q = n) W2 (W2.setRow n zeroC) := (Frm.refl (fun q => q = n) W2).setRow (.inl rfl) _
        have hD0 : Blk (W2.setRow n zeroC) n 33 zeroC := hC0.setRow _
        have hD1 := hC1.kept hF5 (show ¬ n + 1 = n by omega)
        have hD2 := hC2.kept hF5 (show ¬ n + 2 = n by omega)
        generalize W2.setRow n zeroC = w9 at *
        have d1 : w9.cell? ⟨n + 1, 0, none⟩ = some (.int .i64 0) := hD1.cell 0
        have f1 := hD1.frozen 0
        have d2 : w9.cell? ⟨n + 1 + 1, 0, none⟩ = some (.int .i64 0) := hD2.cell 0
        have f2 : w9.frozen? ⟨n + 1 + 1, 0, none⟩ = false := hD2.frozen 0
        have HC := Lib.hid (And.intro hF5 (And.intro hD0 (And.intro hD1 (And.intro hD2 (And.intro hF (And.intro hC0 (And.intro hC1 hC2)))))))
        clear hF5 hD0 hD1 hD2 hC0 hC1 hC2 hF hI h1 h2 h3 ho
        simp only [Act.put, List.setIfInBounds_toArray, List.set_cons_succ, List.set_cons_zero]
        gi_wp2_with fail
        obtain ⟨hI, h1, h2, h3, ho⟩ := HI.out
        obtain ⟨hF5, hD0, hD1, hD2, hF, hC0, hC1, hC2⟩ := HC.out
        have hF6 : Frm (fun q => q = n ∨ q = n + 1 ∨ q = n + 2) W2 ((w9.setCell ⟨n + 1, 0, none⟩ (.int .i64 k)).setCell ⟨n + 1 + 1, 0, none⟩ (.int .i64 300)) :=
          ((hF5.mono (K' := fun q => q = n ∨ q = n + 1 ∨ q = n + 2) fun q hq => .inl (.inl hq)).setCell ⟨n + 1, 0, none⟩ (.inl (.inr (.inl rfl))) (.int .i64 k)).setCell ⟨n + 1 + 1, 0, none⟩ (.inl (.inr (.inr rfl))) (.int .i64 300)
        have g := Hgeo.out
        refine ⟨(StT.keeps h2 HT.out).trans ⟨hF6.size, fun q o _ hq hc => (hF6.block q (lt_heap hq) ?_).trans hq⟩, ⟨pre, (k, y), st, rfl, h1, ho, ?_⟩, ?_, ?_, hF.trans hF6 fun q hq => .inr (by omega)⟩
        · unfold Blk at hC0 hC1 hC2
          rintro (rfl | rfl | rfl)
          · rw [hC0] at hq; cases hq; cases hc
          · rw [hC1] at hq; cases hq; cases hc
          · rw [hC2] at hq; cases hq; cases hc
        · exact (hD1.set_ 0 (.int .i64 k)).far (p := ⟨n + 1 + 1, 0, none⟩) (show n + 1 ≠ n + 1 + 1 by omega) (.int .i64 300)
        · exact (hD0.far (p := ⟨n + 1, 0, none⟩) (show n ≠ n + 1 by omega) (.int .i64 k)).far (p := ⟨n + 1 + 1, 0, none⟩) (show n ≠ n + 1 + 1 by omega) (.int .i64 300)
        · exact (Blk.far hD2 (p := ⟨n + 1, 0, none⟩) (show n + 2 ≠ n + 1 by omega) (.int .i64 k)).set_ 0 (.int .i64 300)
    case done =>
      intro D xs W hD hS hI hK
      have HI := Lib.hid (And.intro hD (And.intro hS (And.intro hI hK)))
      clear hD hS hI hK hseq hI0 hgeo hF8 hm8
      gi_upto_region 11 with fail
      obtain ⟨hD, hS, hI, hK⟩ := HI.out
      obtain ⟨st, h1, ⟨wv, rv, av, pv, hb, hl⟩, -⟩ := hI.st
      have g := Hgeo.out
      obtain ⟨A1, c1, e1⟩ := hl.words.form
      obtain ⟨A2, c2, e2⟩ := hl.reads.form
      obtain ⟨A3, c3, e3, -, -⟩ := own_form hl.answers
      obtain ⟨A4, c4, e4, -, -⟩ := own_form hl.picks
      have hone := stCells_one (st := st) (wv := wv) (rv := rv) (av := av) (pv := pv) ⟨by rw [e1]; rfl, by rw [e2]; rfl, by rw [e3]; rfl, by rw [e4]; rfl⟩
      refine wpIn_region_lit ?_
      refine wpListIn_val rfl (fun c hc => by cases hc) rfl (some 26) rfl (v := .pointer (some ⟨b, 0, none⟩)) (by simp [go_sem, execOp]) ?_
      refine wpListIn_load_row rfl 33 (.tmp 26) rfl b rfl _ (stCells st wv rv av pv) _ _ hb Tryd.underlying33 rfl st_info ?_
      refine wpListIn_store_rowTo rfl 33 (.tmp 2) (.tmp 27) rfl rfl n (stCells st wv rv av pv) rfl rfl _ _ hI.b0 st_info rfl hone ?_
      have hF5 : Frm (fun q => q = n) W (W.setRow n (stCells st wv rv av pv)) := (Frm.refl (fun q => q = n) W).setRow (.inl rfl) _
      have hC0 : Blk (W.setRow n (stCells st wv rv av pv)) n 33 (stCells st wv rv av pv) := hI.b0.setRow _
      have hC1 := hI.b1.kept hF5 (show ¬ n + 1 = n by omega)
      have hC2 := hI.b2.kept hF5 (show ¬ n + 2 = n by omega)
      generalize W.setRow n (stCells st wv rv av pv) = w9 at *
      have d1 : w9.cell? ⟨n + 1, 0, none⟩ = some (.int .i64 0) := hC1.cell 0
      have f1 := hC1.frozen 0
      have d2 : w9.cell? ⟨n + 1 + 1, 0, none⟩ = some (.int .i64 0) := hC2.cell 0
      have f2 : w9.frozen? ⟨n + 1 + 1, 0, none⟩ = false := hC2.frozen 0
      have HC := Lib.hid (And.intro hF5 (And.intro hC0 (And.intro hC1 hC2)))
      have HL := Lib.hid (And.intro hl (And.intro h1 (And.intro hS (And.intro hD hK))))
      have HFr := Lib.hid hI.fr
      clear hF5 hC0 hC1 hC2 hl h1 hS hD hK hI hb e1 e2 e3 e4 hone g
      generalize hCe : stCells st wv rv av pv = C at *
      have HCe := Lib.hid hCe
      clear hCe
      simp only [Act.put, List.setIfInBounds_toArray, List.set_cons_succ, List.set_cons_zero]
      gi_wp2_with fail
      have hF6 : Frm (fun q => q = n ∨ q = n + 1 ∨ q = n + 2) W ((w9.setCell ⟨n + 1, 0, none⟩ (.int .i64 0)).setCell ⟨n + 1 + 1, 0, none⟩ (.int .i64 0)) :=
        ((HC.out.1.mono (K' := fun q => q = n ∨ q = n + 1 ∨ q = n + 2) fun q hq => .inl (.inl hq)).setCell ⟨n + 1, 0, none⟩ (.inl (.inr (.inl rfl))) (.int .i64 0)).setCell ⟨n + 1 + 1, 0, none⟩ (.inl (.inr (.inr rfl))) (.int .i64 0)
      obtain ⟨hl, h1, hS, hD, hK⟩ := HL.out
      obtain ⟨-, hC0, hC1, hC2⟩ := HC.out
      have hC3 := (hC0.far (p := ⟨n + 1, 0, none⟩) (show n ≠ n + 1 by omega) (.int .i64 0)).far (p := ⟨n + 1 + 1, 0, none⟩) (show n ≠ n + 1 + 1 by omega) (.int .i64 0)
      have hC4 := (hC1.set_ 0 (.int .i64 0)).far (p := ⟨n + 1 + 1, 0, none⟩) (show n + 1 ≠ n + 1 + 1 by omega) (.int .i64 0)
      have hC5 := (Blk.far hC2 (p := ⟨n + 1, 0, none⟩) (show n + 2 ≠ n + 1 by omega) (.int .i64 0)).set_ 0 (.int .i64 0)
      generalize (w9.setCell ⟨n + 1, 0, none⟩ (.int .i64 0)).setCell ⟨n + 1 + 1, 0, none⟩ (.int .i64 0) = wz at *
      have g := Hgeo.out
      have hKz : wz.heap[D]? = some (.deferred (some [])) := (hF6.block D (lt_heap hK) (by show ¬ (D = n ∨ D = n + 1 ∨ D = n + 2); omega)).trans hK
      refine ⟨by simp, .inl ⟨_, _, rfl, run_takeDeferred hKz, ?_⟩⟩
      have hF7 : Frm (fun q => (q = n ∨ q = n + 1 ∨ q = n + 2) ∨ q = D) W (wz.putObj D (.deferred none)) := (hF6.mono (K' := fun q => (q = n ∨ q = n + 1 ∨ q = n + 2) ∨ q = D) fun q hq => .inl (.inl hq)).putObj (.inl (.inr rfl)) _
      have hFD : Frm (fun q => q = D) wz (wz.putObj D (.deferred none)) := (Frm.refl (fun q => q = D) wz).putObj (.inl rfl) _
      have hIo := HI.out.2.2.1
      have hl7 := hl.keptK hF7 (fun q hq => by
          rcases hq with hq | rfl
          · exact .inl (by omega)
          · exact .inr fun t cs hb => by unfold Blk at hb; rw [hK] at hb; cases hb)
        (fun q cs hb hq => by
          rcases hq with (rfl | rfl | rfl) | rfl
          · exact absurd (hIo.b0.ne_ hb (by decide)) (fun h => h rfl)
          · exact absurd (hIo.b1.ne_ hb (by decide)) (fun h => h rfl)
          · exact absurd (hIo.b2.ne_ hb (by decide)) (fun h => h rfl)
          · unfold Blk at hb; rw [hK] at hb; cases hb)
      have k0 := hC3.kept hFD (by show ¬ n = D; omega)
      have k1 := (hC4.kept hFD (by show ¬ n + 1 = D; omega)).cell 0
      have k2 := (hC5.kept hFD (by show ¬ n + 2 = D; omega)).cell 0
      refine ⟨_, results_p rfl _ _ n C _ 0 0 rfl rfl rfl k0 (by rw [← HCe.out]; rfl) k1 k2, HFr.out.trans hF7 fun q hq => .inr (by have := HI.out.1; omega), ?_⟩
      have hp : parseB t = .ok st := by
        unfold parseB
        rw [if_neg (of_decide_eq_false Hgr.out.symm), saysB_all (linesB t) newSt st 1 (by rw [← hS]; exact h1)]
      rw [hp]
      exact ⟨wv, rv, av, pv, by rw [HCe.out], hl7.mono (by omega)⟩
    case stop =>
      intro D pre W hD hSp hI hK
      have HI := Lib.hid (And.intro hD (And.intro hSp (And.intro hI hK)))
      clear hD hSp hI hK hseq hI0 hgeo hF8 hm8
      gi_wp2_with fail
      obtain ⟨hD, ⟨r, hr⟩, hI, hK⟩ := HI.out
      obtain ⟨pre0, x, st, rfl, h1, h2, h4⟩ := hI.st
      have hF : Frm (fun q => q = D) W _ := (Frm.refl (fun q => q = D) W).putObj (.inl rfl) (.deferred none)
      refine ⟨by simp, .inl ⟨_, _, rfl, run_takeDeferred hK, ?_⟩⟩
      have g := Hgeo.out
      have k0 := hI.b0.kept hF (by show ¬ n = D; omega)
      have k1 := (h4.kept hF (by show ¬ n + 1 = D; omega)).cell 0
      have k2 := (hI.b2.kept hF (by show ¬ n + 2 = D; omega)).cell 0
      refine ⟨_, results_p rfl _ _ n zeroC _ x.1 300 rfl rfl rfl k0 rfl k1 k2, hI.fr.trans hF fun q hq => .inr (by omega), ?_⟩
      have hp : parseB t = .line x.1 := by
        unfold parseB
        rw [if_neg (of_decide_eq_false Hgr.out.symm), saysB_stop pre0 (linesB t) newSt st 1 x r hr h1 h2]
      rw [hp]
end Go.Proofs.YtpcdbkaeijhmfaaDoor
