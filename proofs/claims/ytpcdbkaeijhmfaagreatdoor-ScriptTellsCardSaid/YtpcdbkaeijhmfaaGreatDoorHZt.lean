/- The walk of ScriptTells. -/
import Derived.Test.YtpcdbkaeijhmfaaGreatDoorHQp
import Derived.Test.YtpcdbkaeijhmfaaGreatDoorHQq
import Derived.Test.YtpcdbkaeijhmfaaGreatDoorHQr
import Derived.Test.YtpcdbkaeijhmfaaGreatDoorHSr
import Derived.Test.YtpcdbkaeijhmfaaGreatDoorHSm
import Derived.Test.YtpcdbkaeijhmfaaGreatDoorHGs
import Derived.Test.YtpcdbkaeijhmfaaGreatDoorHWk
import Derived.Test.YtpcdbkaeijhmfaaGreatDoorGJ
import Derived.Test.YtpcdbkaeijhmfaaGreatDoorGA
namespace Go.Proofs.YtpcdbkaeijhmfaaGreatDoor
set_option maxRecDepth 100000
set_option linter.unusedVariables false
set_option linter.unusedSimpArgs false
open Go.RowKit
attribute [local go_sem] Oper.semAt_some
theorem wanted_yes {l : List Oper} {o : Oper} {A : Act} {ρ : Operand → Value} (hρ : RhoOf A ρ) {j d : Nat} {b : Bool} (hg : o.guard = some (j, b)) (hd : ((l.toArray[j]?).bind (·.dst)) = some d) (he : ρ (.tmp d) = .bool b) : Region.wanted o (yielded l.toArray A.tmps) = true := by
  have h : A.tmps.getD d undef = .bool b := by rw [← he, ← hρ.ev]; rfl
  have h2 : A.tmps[d]? = some (.bool b) := by
    rw [Array.getD_eq_getD_getElem?] at h
    cases hx : A.tmps[d]? with
    | none => rw [hx] at h; cases h
    | some v => rw [hx] at h; exact congrArg some h
  unfold Region.wanted yielded
  rw [hg]
  simp only [hd, Option.bind_some, h2, beq_self_eq_true]
/-- A story that is not too great may be printed. -/
theorem cap_each (l : List By) (h : capS l ≤ 3000) : ∀ x ∈ l, x.length ≤ 3000 := by
  induction l with
  | nil => intro x hx; cases hx
  | cons y r ih =>
    have e : capS (y :: r) = min y.length 9000 + capS r := by simp [capS]
    rw [e] at h
    intro x hx
    rcases List.mem_cons.1 hx with rfl | hx
    · omega
    · exact ih (by omega) x hx
theorem okay_of (st : St) (hc : st.conf.length = 7) (hk : st.kind ≤ 255) (hs : st.seed ≤ 4294967295) (hg : greatS st = false) : Okay st := by
  unfold greatS greatN at hg
  rw [Bool.or_eq_false_iff, Bool.or_eq_false_iff, Bool.or_eq_false_iff, Bool.or_eq_false_iff] at hg
  obtain ⟨⟨⟨⟨h1, h2⟩, h3⟩, h4⟩, h5⟩ := hg
  have h1 := of_decide_eq_false h1
  have h2 := of_decide_eq_false h2
  have h3 := of_decide_eq_false h3
  have h4 := of_decide_eq_false h4
  have h5 := of_decide_eq_false h5
  rw [List.take_of_length_le (by omega), List.take_of_length_le (by omega)] at h1
  exact ⟨hc, ⟨by omega, fun x hx => by have := cap_each st.words (by omega) x hx; omega⟩, ⟨by omega, fun x hx => by have := cap_each st.reads (by omega) x hx; omega⟩, by omega, by omega, hs, hk⟩
theorem okay_many (st : St) (hg : greatS st = false) : st.words.length ≤ 1000000 ∧ st.reads.length ≤ 1000000 := by
  unfold greatS greatN at hg
  rw [Bool.or_eq_false_iff, Bool.or_eq_false_iff, Bool.or_eq_false_iff, Bool.or_eq_false_iff] at hg
  obtain ⟨⟨⟨⟨h1, h2⟩, h3⟩, h4⟩, h5⟩ := hg
  have h2 := of_decide_eq_false h2
  have h3 := of_decide_eq_false h3
  omega
/-- What the document's Parse answers, beside what the program's does. -/
theorem parseR_res {t : By} {w w' : World} {e : Ending} (hP : ParseRPost t w e w') {n : Nat} {er : Int} {st : St} (hm : match parseB t with | .ok s => st = s ∧ n = 0 ∧ er = 0 | .line k => st = zeroSt ∧ n = k ∧ er = 300 | .great => st = zeroSt ∧ n = 0 ∧ er = 301) :
    ∃ C, e = .returned (.tuple #[.agg C, .int .i64 n, .int .i64 er]) ∧ Ans w.heap.size st C w' ∧ Frm (fun _ => False) w w' := by
  obtain ⟨hF, st', C, hA, hP⟩ := hP
  cases h : parseB t with
  | great =>
    rw [h] at hP hm
    obtain ⟨rfl, rfl⟩ := hP
    obtain ⟨rfl, rfl, rfl⟩ := hm
    exact ⟨C, rfl, hA, hF⟩
  | line k =>
    rw [h] at hP hm
    obtain ⟨rfl, rfl⟩ := hP
    obtain ⟨rfl, rfl, rfl⟩ := hm
    exact ⟨C, rfl, hA, hF⟩
  | ok s =>
    rw [h] at hP hm
    obtain ⟨rfl, rfl⟩ := hP
    obtain ⟨rfl, rfl, rfl⟩ := hm
    exact ⟨C, rfl, hA, hF⟩
/-- A story's script or an error, whichever. -/
theorem print_res {st : St} {w w' : World} {e : Ending} (hP : PrintPost st w e w') : e = .returned (.tuple #[.string (ba ((printB st).getD [])), .int .i64 (match printB st with | some _ => 0 | none => 2)]) ∧ Frm (fun _ => False) w w' := by
  obtain ⟨hF, hP⟩ := hP
  cases h : printB st with
  | none => rw [h] at hP; exact ⟨hP, hF⟩
  | some t => rw [h] at hP; exact ⟨hP, hF⟩
set_option maxHeartbeats 16000000 in
theorem tells_law (x y : By) (st so : St) (wv rv av pv wv' rv' av' pv' vb : Value) (b : By) (w : World) (hL : LsR w (InW w) st wv rv av pv) (hc : st.conf.length = 7) (hk : st.kind ≤ 255) (hs : st.seed ≤ 4294967295) (hL' : LsR w (InW w) so wv' rv' av' pv') (hc' : so.conf.length = 7) (hb : Sl w (InW w) vb (bv b)) (hg : Gl w) :
    Calls Tryz.prog 3 #[.string (ba x), .string (ba y), .agg (stCells st wv rv av pv), .agg (stCells so wv' rv' av' pv'), vb] w fun e w' => e = .returned (.bool true) ∧ Frm (fun _ => False) w w' := by
  obtain ⟨A, nb, c, rfl, hnb, hcb, hcb2, -⟩ := id hb
  obtain ⟨C, hC⟩ : ∃ C, C = stCells st wv rv av pv := ⟨_, rfl⟩
  obtain ⟨C', hC'⟩ : ∃ C, C = stCells so wv' rv' av' pv' := ⟨_, rfl⟩
  rw [← hC, ← hC']
  obtain ⟨nx, hnx⟩ : ∃ n, n = x.length := ⟨_, rfl⟩
  obtain ⟨ny, hny⟩ : ∃ n, n = y.length := ⟨_, rfl⟩
  have hsx : (ba x).size = nx := by rw [hnx]; rfl
  have hsy : (ba y).size = ny := by rw [hny]; rfl
  have HN := Lib.hid (And.intro hnx (And.intro hny (show nb = b.length by simpa using hnb)))
  have HC := Lib.hid (And.intro hC hC')
  have HI := Lib.hid (show (Tryz.prog.info? 33).map (·.size) = some C.size ∧ (Tryz.prog.info? 33).map (·.size) = some C'.size from ⟨by rw [hC]; exact st_info, by rw [hC']; exact st_info⟩)
  have H := Lib.hid (And.intro hL (And.intro hc (And.intro hk (And.intro hs (And.intro hL' (And.intro hc' (And.intro hb hg)))))))
  have HB0 := Lib.hid (show Blk ((w.alloc (.cells C 33)).alloc (.cells C' 33)) w.heap.size 33 C ∧ Blk ((w.alloc (.cells C 33)).alloc (.cells C' 33)) (w.heap.size + 1) 33 C' ∧ Frm (fun _ => False) w ((w.alloc (.cells C 33)).alloc (.cells C' 33)) from
    ⟨(Blk.new w 33 C).alloc _, by have h := Blk.new (w.alloc (.cells C 33)) 33 C'; rw [World.size_alloc] at h; exact h, ((Frm.refl _ w).alloc _).alloc _⟩)
  clear hL hc hk hs hL' hc' hb hg hnx hny hC hC' hnb hcb hcb2
  go_enter Tryz.func3, Tryz.ntmps3
  go_upto_region 1 with fail
  obtain ⟨g, hgg⟩ : ∃ g, g = w.heap.size := ⟨_, rfl⟩
  have HB := HB0
  rw [← hgg] at HB ⊢
  clear HB0
  have Hg := Lib.hid hgg
  clear hgg
  generalize (w.alloc (.cells C 33)).alloc (.cells C' 33) = w0 at *
  have HF0 := Lib.hid HB.out.2.2
  by_cases hx : 10000 < nx
  · have d1 : decide ((nx : Int) > 10000) = true := decide_eq_true (by omega)
    clear hx
    have hw := wakes_any w0 (H.out.2.2.2.2.2.2.2.frm HF0.out)
    go_wp2_with fail
    refine hw.mono ?_
    rintro e v9 ⟨rfl, hF9⟩
    have HF9 := Lib.hid (HF0.out.trans' hF9)
    clear hw hF9
    go_wp2_with fail
    go_ret
    exact ⟨rfl, HF9.out⟩
  have d1 : decide ((nx : Int) > 10000) = false := decide_eq_false (by omega)
  by_cases hy : 10000 < ny
  · have d2 : decide ((ny : Int) > 10000) = true := decide_eq_true (by omega)
    clear hx hy
    have hw := wakes_any w0 (H.out.2.2.2.2.2.2.2.frm HF0.out)
    go_wp2_with fail
    refine hw.mono ?_
    rintro e v9 ⟨rfl, hF9⟩
    have HF9 := Lib.hid (HF0.out.trans' hF9)
    clear hw hF9
    go_wp2_with fail
    go_ret
    exact ⟨rfl, HF9.out⟩
  have d2 : decide ((ny : Int) > 10000) = false := decide_eq_false (by omega)
  have HS := Lib.hid (show nx ≤ 10000 ∧ ny ≤ 10000 by omega)
  clear hx hy
  have HD0 := Lib.hid (And.intro HB.out.1 HB.out.2.1)
  go_wp2_with (first | (refine wpList_loadT (by rfl) 33 (.tmp 7) (by rfl) g (by rfl) C _ _ HD0.out.1 Tryz.underlying33 (by rfl) HI.out.1 ?_) | (refine wpList_loadT (by rfl) 33 (.tmp 8) (by rfl) (g + 1) (by rfl) C' _ _ HD0.out.2 Tryz.underlying33 (by rfl) HI.out.2 ?_))
  rw [HC.out.1]
  refine (greatS_any st wv rv av pv w0 (H.out.1.kept HF0.out)).mono ?_
  rintro e w1 ⟨rfl, hF1⟩
  have HF1 := Lib.hid (HF0.out.trans' hF1)
  have HD1 := Lib.hid (And.intro (HD0.out.1.kept hF1 id) (HD0.out.2.kept hF1 id))
  clear hF1 HD0 HB
  cases hgt : greatS st with
  | true =>
    have hw := wakes_any w1 (H.out.2.2.2.2.2.2.2.frm HF1.out)
    go_wp2_with fail
    refine hw.mono ?_
    rintro e v9 ⟨rfl, hF9⟩
    have HF9 := Lib.hid (HF1.out.trans' hF9)
    clear hw hF9
    go_wp2_with fail
    go_ret
    exact ⟨rfl, HF9.out⟩
  | false =>
    have HO := Lib.hid (And.intro (okay_of st H.out.2.1 H.out.2.2.1 H.out.2.2.2.1 hgt) (okay_many st hgt))
    clear hgt
    go_wp2_with (first | (refine wpList_loadT (by rfl) 33 (.tmp 7) (by rfl) g (by rfl) C _ _ HD1.out.1 Tryz.underlying33 (by rfl) HI.out.1 ?_) | (refine wpList_loadT (by rfl) 33 (.tmp 8) (by rfl) (g + 1) (by rfl) C' _ _ HD1.out.2 Tryz.underlying33 (by rfl) HI.out.2 ?_))
    rw [HC.out.2]
    refine (greatS_any so wv' rv' av' pv' w1 (H.out.2.2.2.2.1.kept HF1.out)).mono ?_
    rintro e w2 ⟨rfl, hF2⟩
    have HF2 := Lib.hid (HF1.out.trans' hF2)
    have HD2 := Lib.hid (And.intro (HD1.out.1.kept hF2 id) (HD1.out.2.kept hF2 id))
    clear hF2 HD1
    cases hgt : greatS so with
    | true =>
      have hw := wakes_any w2 (H.out.2.2.2.2.2.2.2.frm HF2.out)
      go_wp2_with fail
      refine hw.mono ?_
      rintro e v9 ⟨rfl, hF9⟩
      have HF9 := Lib.hid (HF2.out.trans' hF9)
      clear hw hF9
      go_wp2_with fail
      go_ret
      exact ⟨rfl, HF9.out⟩
    | false =>
      clear hgt
      by_cases hb3 : 300 < nb
      · have d3 : decide ((nb : Int) > 300) = true := decide_eq_true (by omega)
        clear hb3
        have hw := wakes_any w2 (H.out.2.2.2.2.2.2.2.frm HF2.out)
        go_wp2_with fail
        refine hw.mono ?_
        rintro e v9 ⟨rfl, hF9⟩
        have HF9 := Lib.hid (HF2.out.trans' hF9)
        clear hw hF9
        go_wp2_with fail
        go_ret
        exact ⟨rfl, HF9.out⟩
      have d3 : decide ((nb : Int) > 300) = false := decide_eq_false (by omega)
      have HS3 := Lib.hid (show nb ≤ 300 by omega)
      clear hb3
      go_upto_region 3 with fail
      have hsl : Sl (w2.alloc (.cells #[.string (ba x), .string (ba y)] 9)) (fun k => k = w2.heap.size) (.slice (some ⟨w2.heap.size, 0, none⟩) 2 2) (svb [x, y]) := Sl.blk w2 _ _ rfl ⟨rfl, by decide⟩
      have h1 := parseL_any [x, y] (some ⟨w2.heap.size, 0, none⟩) 2 2 _ (hsl.mono fun q hq => by rw [hq]; unfold InW; rw [World.size_alloc]; omega) (by simp) (by have := HS.out; have := HN.out; simp; omega) (H.out.2.2.2.2.2.2.2.frm (HF2.out.alloc _))
      have hA1 : Frm (fun _ => False) w2 (w2.alloc (.cells #[.string (ba x), .string (ba y)] 9)) := (Frm.refl (fun _ => False) w2).alloc _
      clear hsl
      rw [show ([x, y] : List By).flatten = x ++ y from by simp] at h1
      go_wp2_with fail
      refine h1.mono ?_
      rintro e V1 hP
      obtain ⟨C1, n1, er1, st1, rfl, hAns, hF, hc7, htt, hm⟩ := parse_res hP
      have hV := hA1.trans' hF
      clear hA1 hF h1 hP
      rename_i K hK
      refine hK _ _ ?_
      clear hK
      refine wpList_valT rfl (some 43) rfl (v := .tuple #[.agg C1, .int .i64 n1, .int .i64 er1]) (w' := V1) (by simp [go_sem, execOp]) ?_
      refine wpList_valT rfl (some 48) rfl (v := .agg C1) (w' := V1) (by simp [go_sem, execOp]) ?_
      refine wpList_valT rfl (some 49) rfl (v := .int .i64 n1) (w' := V1) (by simp [go_sem, execOp]) ?_
      refine wpList_valT rfl (some 50) rfl (v := .int .i64 er1) (w' := V1) (by simp [go_sem, execOp]) ?_
      refine wpList_valT rfl (some 11) rfl (v := .pointer (some ⟨V1.heap.size, 0, none⟩)) (w' := V1.alloc (.cells zeroC 33)) (by simp [go_sem, execOp, zeroC, stCells, zeroSt]) ?_
      have hB := Blk.new V1 33 zeroC
      have hX : Frm (fun _ => False) V1 (V1.alloc (.cells zeroC 33)) := (Frm.refl _ V1).alloc _
      obtain ⟨g1, hg1⟩ : ∃ g, g = V1.heap.size := ⟨_, rfl⟩
      rw [← hg1] at hB ⊢
      have hAns2 := hAns.kept hX
      generalize V1.alloc (.cells zeroC 33) = U at *
      simp only [Act.put, List.setIfInBounds_toArray, List.set_cons_succ, List.set_cons_zero]
      refine wpList_store_rowT rfl 33 (.tmp 11) (.tmp 48) rfl rfl g1 C1 rfl rfl _ _ hB (by rw [hAns.size]; exact st_info) (by rw [hAns.size]; rfl) hAns.one ?_
      have hY : Frm (fun _ => False) V1 (U.setRow g1 C1) := hX.trans (K' := fun q => q = g1) ((Frm.refl (fun q => q = g1) U).setRow (.inl rfl) _) fun q hq => .inr (by omega)
      have hD : Blk (U.setRow g1 C1) g1 33 C1 := hB.setRow _
      have hAn := hAns2.lay (D := C1) hB
      generalize U.setRow g1 C1 = W1 at *
      have HF3 := Lib.hid (HF2.out.trans' (hV.trans' hY))
      have HB3 := Lib.hid hD
      have HA3 := Lib.hid (And.intro hAn (And.intro hc7 (And.intro htt hm)))
      have HI3 := Lib.hid (show (Tryz.prog.info? 33).map (·.size) = some C1.size by rw [hAns.size]; exact st_info)
      have HD3 := Lib.hid (And.intro (HD2.out.1.kept (hV.trans' hY) id) (HD2.out.2.kept (hV.trans' hY) id))
      clear hV hX hB hAns hAns2 hY hD hAn hc7 hm hg1 htt HD2
      have hcat : ba x ++ ba y = ba (x ++ y) := ba_app x y
      have hlen : ¬ 9223372036854775807 < nx + ny := by have := HS.out; omega
      have h1 := parseR_any (x ++ y) W1 (by have := HS.out; have := HN.out; simp; omega)
      go_upto_region 4 with fail
      go_wp2_with fail
      refine h1.mono ?_
      rintro e V2 hP
      obtain ⟨C2, rfl, hAns, hV⟩ := parseR_res hP HA3.out.2.2.2
      clear h1 hP hcat hlen
      rename_i K hK
      refine hK _ _ ?_
      clear hK
      refine wpList_valT rfl (some 51) rfl (v := .tuple #[.agg C2, .int .i64 n1, .int .i64 er1]) (w' := V2) (by simp [go_sem, execOp]) ?_
      refine wpList_valT rfl (some 56) rfl (v := .agg C2) (w' := V2) (by simp [go_sem, execOp]) ?_
      refine wpList_valT rfl (some 57) rfl (v := .int .i64 n1) (w' := V2) (by simp [go_sem, execOp]) ?_
      refine wpList_valT rfl (some 58) rfl (v := .int .i64 er1) (w' := V2) (by simp [go_sem, execOp]) ?_
      refine wpList_valT rfl (some 14) rfl (v := .pointer (some ⟨V2.heap.size, 0, none⟩)) (w' := V2.alloc (.cells zeroC 33)) (by simp [go_sem, execOp, zeroC, stCells, zeroSt]) ?_
      have hB := Blk.new V2 33 zeroC
      have hX : Frm (fun _ => False) V2 (V2.alloc (.cells zeroC 33)) := (Frm.refl _ V2).alloc _
      obtain ⟨g2, hg2⟩ : ∃ g, g = V2.heap.size := ⟨_, rfl⟩
      rw [← hg2] at hB ⊢
      have hAns2 := hAns.kept hX
      generalize V2.alloc (.cells zeroC 33) = U at *
      simp only [Act.put, List.setIfInBounds_toArray, List.set_cons_succ, List.set_cons_zero]
      refine wpList_store_rowT rfl 33 (.tmp 14) (.tmp 56) rfl rfl g2 C2 rfl rfl _ _ hB (by rw [hAns.size]; exact st_info) (by rw [hAns.size]; rfl) hAns.one ?_
      have hY : Frm (fun _ => False) V2 (U.setRow g2 C2) := hX.trans (K' := fun q => q = g2) ((Frm.refl (fun q => q = g2) U).setRow (.inl rfl) _) fun q hq => .inr (by omega)
      have hD : Blk (U.setRow g2 C2) g2 33 C2 := hB.setRow _
      have hAn := hAns2.lay (D := C2) hB
      generalize U.setRow g2 C2 = W2 at *
      have HF4 := Lib.hid (HF3.out.trans' (hV.trans' hY))
      have HB4 := Lib.hid (And.intro (HB3.out.kept (hV.trans' hY) id) hD)
      have HA4 := Lib.hid (And.intro (HA3.out.1.kept (hV.trans' hY)) hAn)
      have HI4 := Lib.hid (show (Tryz.prog.info? 33).map (·.size) = some C2.size by rw [hAns.size]; exact st_info)
      have HD4 := Lib.hid (And.intro (HD3.out.1.kept (hV.trans' hY) id) (HD3.out.2.kept (hV.trans' hY) id))
      clear hV hX hB hAns hAns2 hY hD hAn hg2 HB3 HD3
      obtain ⟨wv1, rv1, av1, pv1, hC1, hL1⟩ := HA4.out.1.read
      obtain ⟨wv2, rv2, av2, pv2, hC2, hL2⟩ := HA4.out.2.read
      have HL := Lib.hid (And.intro hC1 (And.intro hC2 (And.intro hL1 hL2)))
      have HT := Lib.hid (show st1.words.length ≤ 1000000 ∧ st1.reads.length ≤ 1000000 from by
        have h := HA3.out.2.2.1
        rw [List.length_append] at h
        unfold totS at h
        have := HS.out
        have := HN.out
        omega)
      clear hC1 hC2 hL1 hL2
      go_wp2_with (first | (refine wpList_loadT (by rfl) 33 (.tmp 11) (by rfl) g1 (by rfl) C1 _ _ HB4.out.1 Tryz.underlying33 (by rfl) HI3.out ?_) | (refine wpList_loadT (by rfl) 33 (.tmp 14) (by rfl) g2 (by rfl) C2 _ _ HB4.out.2 Tryz.underlying33 (by rfl) HI4.out ?_))
      rw [HL.out.1, HL.out.2.1]
      refine (sameR_any st1 st1 wv1 rv1 av1 pv1 wv2 rv2 av2 pv2 W2 HL.out.2.2.1 HL.out.2.2.2 HA3.out.2.1 HA3.out.2.1 HT.out).mono ?_
      rintro e W3 ⟨rfl, hF⟩
      rw [decide_eq_true rfl]
      have HF5 := Lib.hid (HF4.out.trans' hF)
      have HD5 := Lib.hid (And.intro (HD4.out.1.kept hF id) (HD4.out.2.kept hF id))
      clear hF
      have HQ := Lib.hid (show ∀ W, Frm (fun _ => False) w W → Sl W (InW W) (.slice A nb c) (bv b) from fun W hF => (H.out.2.2.2.2.2.2.1).keptTo fun q hq => ⟨hF.block q hq id, Nat.lt_of_lt_of_le hq hF.size⟩)
      have hq1 := quote_any A nb c (InW W3) b W3 (HQ.out W3 HF5.out) (by have := HS3.out; have := HN.out; omega) (fun _ h => h)
      go_wp2_with fail
      refine hq1.mono ?_
      rintro e W4 ⟨rfl, hF⟩
      have HF6 := Lib.hid (HF5.out.trans' hF)
      have HD6 := Lib.hid (And.intro (HD5.out.1.kept hF id) (HD5.out.2.kept hF id))
      clear hF hq1
      have hq2 := quoteR_any A nb c (InW W4) b W4 (HQ.out W4 HF6.out) (by have := HS3.out; have := HN.out; omega) (fun _ h => h)
      go_wp2_with fail
      refine hq2.mono ?_
      rintro e W5 ⟨rfl, hF⟩
      have HF7 := Lib.hid (HF6.out.trans' hF)
      have HD7 := Lib.hid (And.intro (HD6.out.1.kept hF id) (HD6.out.2.kept hF id))
      clear hF hq2 HD4 HD5 HD6
      go_wp2_with (first | (refine wpList_loadT (by rfl) 33 (.tmp 7) (by rfl) g (by rfl) C _ _ HD7.out.1 Tryz.underlying33 (by rfl) HI.out.1 ?_) | (refine wpList_loadT (by rfl) 33 (.tmp 8) (by rfl) (g + 1) (by rfl) C' _ _ HD7.out.2 Tryz.underlying33 (by rfl) HI.out.2 ?_))
      rw [HC.out.1]
      refine (print_any st wv rv av pv W5 (H.out.1.kept HF7.out) HO.out.1 (H.out.2.2.2.2.2.2.2.frm HF7.out)).mono ?_
      rintro e W6 hP
      obtain ⟨rfl, hF⟩ := print_res hP
      clear hP
      obtain ⟨T, hT⟩ : ∃ T, T = ba ((printB st).getD []) := ⟨_, rfl⟩
      obtain ⟨E, hE⟩ : ∃ E : Int, E = (match printB st with | some _ => 0 | none => 2) := ⟨_, rfl⟩
      rw [← hT, ← hE]
      have HTE := Lib.hid (And.intro hT hE)
      clear hT hE
      have HF8 := Lib.hid (HF7.out.trans' hF)
      have HD8 := Lib.hid (And.intro (HD7.out.1.kept hF id) (HD7.out.2.kept hF id))
      clear hF HD7
      go_wp2_with (first | (refine wpList_loadT (by rfl) 33 (.tmp 7) (by rfl) g (by rfl) C _ _ HD8.out.1 Tryz.underlying33 (by rfl) HI.out.1 ?_) | (refine wpList_loadT (by rfl) 33 (.tmp 8) (by rfl) (g + 1) (by rfl) C' _ _ HD8.out.2 Tryz.underlying33 (by rfl) HI.out.2 ?_))
      rw [HC.out.1]
      refine (printR_any st wv rv av pv W6 (H.out.1.kept HF8.out) HO.out.1).mono ?_
      rintro e W7 hP
      obtain ⟨rfl, hF⟩ := print_res hP
      clear hP
      rw [← HTE.out.1, ← HTE.out.2]
      have HF9 := Lib.hid (HF8.out.trans' hF)
      have HD9 := Lib.hid (And.intro (HD8.out.1.kept hF id) (HD8.out.2.kept hF id))
      clear hF HD8
      go_upto_region 9 with fail
      refine plan_begin (by kernel_rfl) 21 (by kernel_rfl) ?_
      obtain ⟨W, hW⟩ : ∃ W, W = W7.drew := ⟨_, rfl⟩
      have HFW := Lib.hid (show Frm (fun _ => False) w W from hW ▸ HF9.out.drew)
      have HDW := Lib.hid (show Blk W g 33 C ∧ Blk W (g + 1) 33 C' from hW ▸ ⟨HD9.out.1.drew, HD9.out.2.drew⟩)
      rw [← hW]
      clear hW HD9
      refine plan_fx [0, 1, 2, 3, 4, 5, 6, 7, 8, 9, 10, 11, 12, 13, 14, 15, 16, 17, 18, 19, 20] (fun (j : Nat) (v : Value) (w : World) => (match j with | 0 => v = .string T | 1 => v = .string T | 2 => v = .bool true | 3 => v = .bool true | 4 => v = .int .i64 E | 5 => v = .int .i64 E | 6 => v = .bool true | 7 => v = .bool true | 8 => v = .bool true | 9 => v = .agg C | 10 => v = .agg C' | 11 => v = .bool (decide (st = so)) | 12 => v = .agg C | 13 => v = .agg C' | 14 => v = .bool (decide (st = so)) | 15 => v = .bool true | 16 => v = .bool true | 17 => v = .bool true | 18 => v = .bool true | 19 => v = .bool true | 20 => v = .bool true | _ => True : Prop)) (fun w => Frm (fun _ => False) W w) (fun w w' => Frm (fun _ => False) w w') #[true, true, true, true, true, true, true, true, true, true, true, true, true, true, true, true, true, true, true, true, true] 0 (by kernel_rfl) (by kernel_rfl) (by kernel_rfl) (by kernel_rfl) (by kernel_rfl) (by kernel_rfl) (by kernel_rfl) (by kernel_rfl) (Frm.refl _ _) ?hV (fun _ _ h k => h.trans' k) ?steps ?fin
      case hV =>
        intro j v w1 w2 h hF
        match j, h with
        | 0, h => exact h
        | 1, h => exact h
        | 2, h => exact h
        | 3, h => exact h
        | 4, h => exact h
        | 5, h => exact h
        | 6, h => exact h
        | 7, h => exact h
        | 8, h => exact h
        | 9, h => exact h
        | 10, h => exact h
        | 11, h => exact h
        | 12, h => exact h
        | 13, h => exact h
        | 14, h => exact h
        | 15, h => exact h
        | 16, h => exact h
        | 17, h => exact h
        | 18, h => exact h
        | 19, h => exact h
        | 20, h => exact h
        | _ + 21, _ => trivial
      case steps =>
        refine steps_cons 0 rfl ?_ ?_
        · intro f w1 A ρ hρ hG hd hu hA K hK
          have e1 : ρ (.tmp 17) = .string T := (hA 17).trans (by kernel_rfl)
          refine fx_val hρ rfl (v := .string T) (w' := w1) (by simp [execOp, go_sem, e1, hρ.c]) (hK _ _ rfl (Frm.refl _ _))
        refine steps_cons 1 rfl ?_ ?_
        · intro f w1 A ρ hρ hG hd hu hA K hK
          have e1 : ρ (.tmp 19) = .string T := (hA 19).trans (by kernel_rfl)
          refine fx_val hρ rfl (v := .string T) (w' := w1) (by simp [execOp, go_sem, e1, hρ.c]) (hK _ _ rfl (Frm.refl _ _))
        refine steps_cons 2 rfl ?_ ?_
        · intro f w1 A ρ hρ hG hd hu hA K hK
          have e1 : ρ (.tmp 90) = .string T := (hA 90).trans ((show (puts _ f _ _).eval (.tmp 90) = f 0 from by kernel_rfl).trans (hd 0 (by kernel_rfl)))
          have e2 : ρ (.tmp 91) = .string T := (hA 91).trans ((show (puts _ f _ _).eval (.tmp 91) = f 1 from by kernel_rfl).trans (hd 1 (by kernel_rfl)))
          refine fx_val hρ rfl (v := .bool true) (w' := w1) (by simp [execOp, go_sem, e1, e2, hρ.c]) (hK _ _ rfl (Frm.refl _ _))
        refine steps_cons 3 rfl ?_ ?_
        · intro f w1 A ρ hρ hG hd hu hA K hK
          have e1 : ρ (.tmp 92) = .bool true := (hA 92).trans ((show (puts _ f _ _).eval (.tmp 92) = f 2 from by kernel_rfl).trans (hd 2 (by kernel_rfl)))
          refine fx_val hρ rfl (v := .bool true) (w' := w1) (by simp [execOp, go_sem, e1, hρ.c]) (hK _ _ rfl (Frm.refl _ _))
        refine steps_cons 4 rfl ?_ ?_
        · intro f w1 A ρ hρ hG hd hu hA K hK
          have hgd : ρ (.tmp 93) = .bool true := (hA 93).trans ((show (puts _ f _ _).eval (.tmp 93) = f 3 from by kernel_rfl).trans (hd 3 (by kernel_rfl)))
          have e1 : ρ (.tmp 18) = .int .i64 E := (hA 18).trans (by kernel_rfl)
          refine fx_val hρ (wanted_yes hρ (j := 3) (d := 93) (b := true) (by kernel_rfl) (by kernel_rfl) hgd) (v := .int .i64 E) (w' := w1) (by simp [execOp, go_sem, e1, hρ.c]) (hK _ _ rfl (Frm.refl _ _))
        refine steps_cons 5 rfl ?_ ?_
        · intro f w1 A ρ hρ hG hd hu hA K hK
          have hgd : ρ (.tmp 93) = .bool true := (hA 93).trans ((show (puts _ f _ _).eval (.tmp 93) = f 3 from by kernel_rfl).trans (hd 3 (by kernel_rfl)))
          have e1 : ρ (.tmp 20) = .int .i64 E := (hA 20).trans (by kernel_rfl)
          refine fx_val hρ (wanted_yes hρ (j := 3) (d := 93) (b := true) (by kernel_rfl) (by kernel_rfl) hgd) (v := .int .i64 E) (w' := w1) (by simp [execOp, go_sem, e1, hρ.c]) (hK _ _ rfl (Frm.refl _ _))
        refine steps_cons 6 rfl ?_ ?_
        · intro f w1 A ρ hρ hG hd hu hA K hK
          have hgd : ρ (.tmp 93) = .bool true := (hA 93).trans ((show (puts _ f _ _).eval (.tmp 93) = f 3 from by kernel_rfl).trans (hd 3 (by kernel_rfl)))
          have e1 : ρ (.tmp 94) = .int .i64 E := (hA 94).trans ((show (puts _ f _ _).eval (.tmp 94) = f 4 from by kernel_rfl).trans (hd 4 (by kernel_rfl)))
          have e2 : ρ (.tmp 95) = .int .i64 E := (hA 95).trans ((show (puts _ f _ _).eval (.tmp 95) = f 5 from by kernel_rfl).trans (hd 5 (by kernel_rfl)))
          refine fx_val hρ (wanted_yes hρ (j := 3) (d := 93) (b := true) (by kernel_rfl) (by kernel_rfl) hgd) (v := .bool true) (w' := w1) (by simp [execOp, go_sem, e1, e2, hρ.c]) (hK _ _ rfl (Frm.refl _ _))
        refine steps_cons 7 rfl ?_ ?_
        · intro f w1 A ρ hρ hG hd hu hA K hK
          have e1 : ρ (.tmp 93) = .bool true := (hA 93).trans ((show (puts _ f _ _).eval (.tmp 93) = f 3 from by kernel_rfl).trans (hd 3 (by kernel_rfl)))
          have e2 : ρ (.tmp 96) = .bool true := (hA 96).trans ((show (puts _ f _ _).eval (.tmp 96) = f 6 from by kernel_rfl).trans (hd 6 (by kernel_rfl)))
          refine fx_val hρ rfl (v := .bool true) (w' := w1) (by simp [execOp, go_sem, e1, e2, hρ.c]) (hK _ _ rfl (Frm.refl _ _))
        refine steps_cons 8 rfl ?_ ?_
        · intro f w1 A ρ hρ hG hd hu hA K hK
          have e1 : ρ (.tmp 97) = .bool true := (hA 97).trans ((show (puts _ f _ _).eval (.tmp 97) = f 7 from by kernel_rfl).trans (hd 7 (by kernel_rfl)))
          refine fx_val hρ rfl (v := .bool true) (w' := w1) (by simp [execOp, go_sem, e1, hρ.c]) (hK _ _ rfl (Frm.refl _ _))
        refine steps_cons 9 rfl ?_ ?_
        · intro f w1 A ρ hρ hG hd hu hA K hK
          have hgd : ρ (.tmp 98) = .bool true := (hA 98).trans ((show (puts _ f _ _).eval (.tmp 98) = f 8 from by kernel_rfl).trans (hd 8 (by kernel_rfl)))
          have e1 : ρ (.tmp 7) = .pointer (some ⟨g, 0, none⟩) := (hA 7).trans (by kernel_rfl)
          refine fx_val hρ (wanted_yes hρ (j := 8) (d := 98) (b := true) (by kernel_rfl) (by kernel_rfl) hgd) (v := .agg C) (w' := w1) (exec_load rfl e1 (run_loadAt_row w1 _ 33 33 C _ (HDW.out.1.kept hG id) Tryz.underlying33 rfl HI.out.1)) (hK _ _ rfl (Frm.refl _ _))
        refine steps_cons 10 rfl ?_ ?_
        · intro f w1 A ρ hρ hG hd hu hA K hK
          have hgd : ρ (.tmp 98) = .bool true := (hA 98).trans ((show (puts _ f _ _).eval (.tmp 98) = f 8 from by kernel_rfl).trans (hd 8 (by kernel_rfl)))
          have e1 : ρ (.tmp 8) = .pointer (some ⟨(g + 1), 0, none⟩) := (hA 8).trans (by kernel_rfl)
          refine fx_val hρ (wanted_yes hρ (j := 8) (d := 98) (b := true) (by kernel_rfl) (by kernel_rfl) hgd) (v := .agg C') (w' := w1) (exec_load rfl e1 (run_loadAt_row w1 _ 33 33 C' _ (HDW.out.2.kept hG id) Tryz.underlying33 rfl HI.out.2)) (hK _ _ rfl (Frm.refl _ _))
        refine steps_cons 11 rfl ?_ ?_
        · intro f w1 A ρ hρ hG hd hu hA K hK
          have hgd : ρ (.tmp 98) = .bool true := (hA 98).trans ((show (puts _ f _ _).eval (.tmp 98) = f 8 from by kernel_rfl).trans (hd 8 (by kernel_rfl)))
          have e1 : ρ (.tmp 99) = .agg C := (hA 99).trans ((show (puts _ f _ _).eval (.tmp 99) = f 9 from by kernel_rfl).trans (hd 9 (by kernel_rfl)))
          have e2 : ρ (.tmp 100) = .agg C' := (hA 100).trans ((show (puts _ f _ _).eval (.tmp 100) = f 10 from by kernel_rfl).trans (hd 10 (by kernel_rfl)))
          have hj := same_any st so wv rv av pv wv' rv' av' pv' w1 (H.out.1.kept (HFW.out.trans' hG)) (H.out.2.2.2.2.1.kept (HFW.out.trans' hG)) H.out.2.1 H.out.2.2.2.2.2.1
          rw [← HC.out.1, ← HC.out.2] at hj
          refine fx_call hρ (wanted_yes hρ (j := 8) (d := 98) (b := true) (by kernel_rfl) (by kernel_rfl) hgd) _ _ _ rfl (by simp [e1, e2]) (Tryz.call13 _ _) hj ?_
          rintro e w5 ⟨rfl, hF5⟩
          exact ⟨_, rfl, hK _ _ rfl hF5⟩
        refine steps_cons 12 rfl ?_ ?_
        · intro f w1 A ρ hρ hG hd hu hA K hK
          have hgd : ρ (.tmp 98) = .bool true := (hA 98).trans ((show (puts _ f _ _).eval (.tmp 98) = f 8 from by kernel_rfl).trans (hd 8 (by kernel_rfl)))
          have e1 : ρ (.tmp 7) = .pointer (some ⟨g, 0, none⟩) := (hA 7).trans (by kernel_rfl)
          refine fx_val hρ (wanted_yes hρ (j := 8) (d := 98) (b := true) (by kernel_rfl) (by kernel_rfl) hgd) (v := .agg C) (w' := w1) (exec_load rfl e1 (run_loadAt_row w1 _ 33 33 C _ (HDW.out.1.kept hG id) Tryz.underlying33 rfl HI.out.1)) (hK _ _ rfl (Frm.refl _ _))
        refine steps_cons 13 rfl ?_ ?_
        · intro f w1 A ρ hρ hG hd hu hA K hK
          have hgd : ρ (.tmp 98) = .bool true := (hA 98).trans ((show (puts _ f _ _).eval (.tmp 98) = f 8 from by kernel_rfl).trans (hd 8 (by kernel_rfl)))
          have e1 : ρ (.tmp 8) = .pointer (some ⟨(g + 1), 0, none⟩) := (hA 8).trans (by kernel_rfl)
          refine fx_val hρ (wanted_yes hρ (j := 8) (d := 98) (b := true) (by kernel_rfl) (by kernel_rfl) hgd) (v := .agg C') (w' := w1) (exec_load rfl e1 (run_loadAt_row w1 _ 33 33 C' _ (HDW.out.2.kept hG id) Tryz.underlying33 rfl HI.out.2)) (hK _ _ rfl (Frm.refl _ _))
        refine steps_cons 14 rfl ?_ ?_
        · intro f w1 A ρ hρ hG hd hu hA K hK
          have hgd : ρ (.tmp 98) = .bool true := (hA 98).trans ((show (puts _ f _ _).eval (.tmp 98) = f 8 from by kernel_rfl).trans (hd 8 (by kernel_rfl)))
          have e1 : ρ (.tmp 102) = .agg C := (hA 102).trans ((show (puts _ f _ _).eval (.tmp 102) = f 12 from by kernel_rfl).trans (hd 12 (by kernel_rfl)))
          have e2 : ρ (.tmp 103) = .agg C' := (hA 103).trans ((show (puts _ f _ _).eval (.tmp 103) = f 13 from by kernel_rfl).trans (hd 13 (by kernel_rfl)))
          have hj := sameR_any st so wv rv av pv wv' rv' av' pv' w1 (H.out.1.kept (HFW.out.trans' hG)) (H.out.2.2.2.2.1.kept (HFW.out.trans' hG)) H.out.2.1 H.out.2.2.2.2.2.1 HO.out.2
          rw [← HC.out.1, ← HC.out.2] at hj
          refine fx_call hρ (wanted_yes hρ (j := 8) (d := 98) (b := true) (by kernel_rfl) (by kernel_rfl) hgd) _ _ _ rfl (by simp [e1, e2]) (Tryz.call8 _ _) hj ?_
          rintro e w5 ⟨rfl, hF5⟩
          exact ⟨_, rfl, hK _ _ rfl hF5⟩
        refine steps_cons 15 rfl ?_ ?_
        · intro f w1 A ρ hρ hG hd hu hA K hK
          have hgd : ρ (.tmp 98) = .bool true := (hA 98).trans ((show (puts _ f _ _).eval (.tmp 98) = f 8 from by kernel_rfl).trans (hd 8 (by kernel_rfl)))
          have e1 : ρ (.tmp 101) = .bool (decide (st = so)) := (hA 101).trans ((show (puts _ f _ _).eval (.tmp 101) = f 11 from by kernel_rfl).trans (hd 11 (by kernel_rfl)))
          have e2 : ρ (.tmp 104) = .bool (decide (st = so)) := (hA 104).trans ((show (puts _ f _ _).eval (.tmp 104) = f 14 from by kernel_rfl).trans (hd 14 (by kernel_rfl)))
          refine fx_val hρ (wanted_yes hρ (j := 8) (d := 98) (b := true) (by kernel_rfl) (by kernel_rfl) hgd) (v := .bool true) (w' := w1) (by simp [execOp, go_sem, e1, e2, hρ.c]) (hK _ _ rfl (Frm.refl _ _))
        refine steps_cons 16 rfl ?_ ?_
        · intro f w1 A ρ hρ hG hd hu hA K hK
          have e1 : ρ (.tmp 98) = .bool true := (hA 98).trans ((show (puts _ f _ _).eval (.tmp 98) = f 8 from by kernel_rfl).trans (hd 8 (by kernel_rfl)))
          have e2 : ρ (.tmp 105) = .bool true := (hA 105).trans ((show (puts _ f _ _).eval (.tmp 105) = f 15 from by kernel_rfl).trans (hd 15 (by kernel_rfl)))
          refine fx_val hρ rfl (v := .bool true) (w' := w1) (by simp [execOp, go_sem, e1, e2, hρ.c]) (hK _ _ rfl (Frm.refl _ _))
        refine steps_cons 17 rfl ?_ ?_
        · intro f w1 A ρ hρ hG hd hu hA K hK
          have e1 : ρ (.tmp 106) = .bool true := (hA 106).trans ((show (puts _ f _ _).eval (.tmp 106) = f 16 from by kernel_rfl).trans (hd 16 (by kernel_rfl)))
          refine fx_val hρ rfl (v := .bool true) (w' := w1) (by simp [execOp, go_sem, e1, hρ.c]) (hK _ _ rfl (Frm.refl _ _))
        refine steps_cons 18 rfl ?_ ?_
        · intro f w1 A ρ hρ hG hd hu hA K hK
          have hgd : ρ (.tmp 107) = .bool true := (hA 107).trans ((show (puts _ f _ _).eval (.tmp 107) = f 17 from by kernel_rfl).trans (hd 17 (by kernel_rfl)))
          have hj := wakes_any w1 (H.out.2.2.2.2.2.2.2.frm (HFW.out.trans' hG))
          refine fx_call hρ (wanted_yes hρ (j := 17) (d := 107) (b := true) (by kernel_rfl) (by kernel_rfl) hgd) _ _ _ rfl (by simp) (Tryz.call5 _ _) hj ?_
          rintro e w5 ⟨rfl, hF5⟩
          exact ⟨_, rfl, hK _ _ rfl hF5⟩
        refine steps_cons 19 rfl ?_ ?_
        · intro f w1 A ρ hρ hG hd hu hA K hK
          have e1 : ρ (.tmp 107) = .bool true := (hA 107).trans ((show (puts _ f _ _).eval (.tmp 107) = f 17 from by kernel_rfl).trans (hd 17 (by kernel_rfl)))
          have e2 : ρ (.tmp 108) = .bool true := (hA 108).trans ((show (puts _ f _ _).eval (.tmp 108) = f 18 from by kernel_rfl).trans (hd 18 (by kernel_rfl)))
          refine fx_val hρ rfl (v := .bool true) (w' := w1) (by simp [execOp, go_sem, e1, e2, hρ.c]) (hK _ _ rfl (Frm.refl _ _))
        refine steps_cons 20 rfl ?_ ?_
        · intro f w1 A ρ hρ hG hd hu hA K hK
          have e1 : ρ (.tmp 109) = .bool true := (hA 109).trans ((show (puts _ f _ _).eval (.tmp 109) = f 19 from by kernel_rfl).trans (hd 19 (by kernel_rfl)))
          refine fx_val hρ rfl (v := .bool true) (w' := w1) (by simp [execOp, go_sem, e1, hρ.c]) (hK _ _ rfl (Frm.refl _ _))
        exact steps_nil
      case fin =>
        intro f w3 hG hV
        have h20 : f 20 = .bool true := hV 20 rfl
        simp only [puts, dstOf, List.getElem?_cons_succ, List.getElem?_cons_zero, Option.bind_some, Act.put, List.setIfInBounds_toArray, List.set_cons_succ, List.set_cons_zero, h20]
        have HFZ := Lib.hid (HFW.out.trans' hG)
        clear hG hV h20
        refine plan_done (by kernel_rfl) ?_
        go_wp2_with fail
        go_ret
        exact ⟨rfl, HFZ.out⟩
end Go.Proofs.YtpcdbkaeijhmfaaGreatDoor
