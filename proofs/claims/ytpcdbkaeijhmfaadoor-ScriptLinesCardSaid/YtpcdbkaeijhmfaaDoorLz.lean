/- The walk of ScriptLines. -/
import Derived.Test.YtpcdbkaeijhmfaaDoorAw
import Derived.Test.YtpcdbkaeijhmfaaDoorLp
import Derived.Test.YtpcdbkaeijhmfaaDoorLr
namespace Go.Proofs.YtpcdbkaeijhmfaaDoor
set_option maxRecDepth 100000
set_option linter.unusedVariables false
set_option linter.unusedSimpArgs false
open Go.RowKit
attribute [local go_sem] Oper.semAt_some
def yK (r : By) (a : Nat) (ls : List By) (k : Nat) : By := txtOf (putY r a (ls.take k))
theorem yK_all (r : By) (a : Nat) (ls : List By) : yK r a ls ls.length = txtOf (putY r a ls) := by unfold yK; rw [List.take_length]
theorem yK_zero (r : By) (a : Nat) (ls : List By) : yK r a ls 0 = [] := by unfold yK putY; simp [txtOf]
theorem yK_step (r : By) (a : Nat) (ls : List By) (k : Nat) (hk : k < ls.length) : yK r a ls (k + 1) = (if k = a then yK r a ls k ++ [10, 32, 32, 35] ++ r ++ [10] else yK r a ls k) ++ ls[k] ++ [10] := by
  have hl : (ls.take k).length = k := by rw [List.length_take]; omega
  have ht : ls.take (k + 1) = ls.take k ++ [ls[k]] := by rw [List.take_add_one, List.getElem?_eq_getElem hk]; rfl
  have hl1 : (ls.take k ++ [ls[k]]).length = k + 1 := by rw [List.length_append, hl]; rfl
  unfold yK putY
  rw [ht, hl1, hl]
  generalize ls.take k = M at *
  generalize ls[k] = l
  by_cases h1 : a < k
  · rw [if_pos (show a < k + 1 by omega), if_pos h1, if_neg (show ¬ k = a by omega), List.take_append_of_le_length (by omega), List.drop_append_of_le_length (by omega)]
    simp [txtOf]
  · by_cases h2 : k = a
    · subst h2
      rw [if_pos (show k < k + 1 by omega), if_pos (rfl : k = k), if_neg (show ¬ k < k by omega), List.take_append_of_le_length (by omega), List.drop_append_of_le_length (by omega), List.take_of_length_le (by omega), List.drop_eq_nil_of_le (by omega)]
      simp [txtOf, remL]
    · rw [if_neg (show ¬ a < k + 1 by omega), if_neg h1, if_neg h2]
      simp [txtOf]
theorem yK_len (r : By) (a : Nat) (ls : List By) (k : Nat) : (yK r a ls k).length ≤ (ls.map (·.length)).sum + ls.length + r.length + 5 := by
  have h1 := putY_text r a (ls.take k)
  have h2 := txtOf_len ls
  have h3 : (txtOf ls).length = (txtOf (ls.take k)).length + (txtOf (ls.drop k)).length := by rw [← List.length_append, ← txtOf_app, List.take_append_drop]
  unfold yK
  omega
set_option maxHeartbeats 16000000 in
theorem lines_law (x r z : By) (at_ : Int) (w : World) (ha : -9223372036854775808 ≤ at_ ∧ at_ ≤ 9223372036854775807) (hg : Gl w) :
    Calls Tryd.prog 5 #[.string (ba x), .string (ba r), .int .i64 at_, .string (ba z)] w fun e w' => e = .returned (.bool true) ∧ Frm (fun _ => False) w w' := by
  have HG := Lib.hid hg
  have Ha := Lib.hid ha
  obtain ⟨nx, hnx⟩ : ∃ n, n = x.length := ⟨_, rfl⟩
  obtain ⟨nr, hnr⟩ : ∃ n, n = r.length := ⟨_, rfl⟩
  obtain ⟨nz, hnz⟩ : ∃ n, n = z.length := ⟨_, rfl⟩
  have hsx : (ba x).size = nx := by rw [hnx]; rfl
  have hsr : (ba r).size = nr := by rw [hnr]; rfl
  have hsz : (ba z).size = nz := by rw [hnz]; rfl
  have HN := Lib.hid (And.intro hnx (And.intro hnr hnz))
  have Hat := Lib.hid (run_at (P := Tryd.prog) Tryd.underlying9 r)
  have HF0 := Lib.hid (Frm.refl (fun _ => False) w)
  clear hg ha hnx hnr hnz
  by_cases hbig : 5000 < nx ∨ 100 < nr ∨ 5000 < nz
  · go_enter Tryd.func5, Tryd.ntmps5
    by_cases h1 : 5000 < nx
    · have d1 : decide ((nx : Int) > 5000) = true := decide_eq_true (by omega)
      clear hbig h1
      have hw := wakes_any w (HG.out.frm HF0.out)
      go_wp2_with fail
      refine hw.mono ?_
      rintro e v9 ⟨rfl, hF9⟩
      have HF9 := Lib.hid (HF0.out.trans' hF9)
      clear hw hF9
      go_wp2_with fail
      go_ret
      exact ⟨rfl, HF9.out⟩
    · have d1 : decide ((nx : Int) > 5000) = false := decide_eq_false (by omega)
      by_cases h2 : 100 < nr
      · have d2 : decide ((nr : Int) > 100) = true := decide_eq_true (by omega)
        clear hbig h1 h2
        have hw := wakes_any w (HG.out.frm HF0.out)
        go_wp2_with fail
        refine hw.mono ?_
        rintro e v9 ⟨rfl, hF9⟩
        have HF9 := Lib.hid (HF0.out.trans' hF9)
        clear hw hF9
        go_wp2_with fail
        go_ret
        exact ⟨rfl, HF9.out⟩
      · have d2 : decide ((nr : Int) > 100) = false := decide_eq_false (by omega)
        have d3 : decide ((nz : Int) > 5000) = true := decide_eq_true (by omega)
        clear hbig h1 h2
        have hw := wakes_any w (HG.out.frm HF0.out)
        go_wp2_with fail
        refine hw.mono ?_
        rintro e v9 ⟨rfl, hF9⟩
        have HF9 := Lib.hid (HF0.out.trans' hF9)
        clear hw hF9
        go_wp2_with fail
        go_ret
        exact ⟨rfl, HF9.out⟩
  · have d1 : decide ((nx : Int) > 5000) = false := decide_eq_false (by omega)
    have d2 : decide ((nr : Int) > 100) = false := decide_eq_false (by omega)
    have d3 : decide ((nz : Int) > 5000) = false := decide_eq_false (by omega)
    have HS := Lib.hid (show nx ≤ 5000 ∧ nr ≤ 100 ∧ nz ≤ 5000 by omega)
    clear hbig
    go_enter Tryd.func5, Tryd.ntmps5
    go_wp2_with fail
    go_loopw [9] (fun i wr => ∃ k : Nat, k ≤ nr ∧ i = .int .i64 k ∧ wr = w ∧ Hid ((10 : UInt8) ∉ r.take k)) (fun i _ => nr - (intOf i).toNat)
    case atStart => exact ⟨0, Nat.zero_le _, rfl, rfl, Lib.hid (by simp)⟩
    case round =>
      obtain ⟨k, hk, rfl, rfl, hno⟩ := hrel
      by_cases hlt : k < nr
      · obtain ⟨c, hc⟩ : ∃ c, r[k]? = some c := ⟨_, List.getElem?_eq_getElem (by rw [← HN.out.2.1]; exact hlt)⟩
        have hat := Hat.out k c hc
        have Hc := Lib.hid hc
        clear hc d1 d2 d3
        have hk9 : nr ≤ 100 := HS.out.2.1
        cases hz : ((c.toNat : Int) == 10) with
        | true =>
          have hw := wakes_any wr (HG.out.frm HF0.out)
          go_wp2_with fail
          refine hw.mono ?_
          rintro e v9 ⟨rfl, hF9⟩
          have HF9 := Lib.hid (HF0.out.trans' hF9)
          clear hw hF9
          go_wp2_with fail
          go_ret
          exact ⟨rfl, HF9.out⟩
        | false =>
          have Hz := Lib.hid hz
          go_wp2_with fail
          go_roundw
          case rel =>
            refine ⟨k + 1, by omega, by go_num, by first | rfl | trivial, Lib.hid fun hh => ?_⟩
            rw [List.take_add_one, Hc.out] at hh
            rcases List.mem_append.1 hh with hh | hh
            · exact hno.out hh
            · have h10 : (10 : UInt8) = c := by simpa using hh
              subst h10
              exact absurd Hz.out (by decide)
          case measure => simp [intOf]; omega
      · obtain rfl : nr = k := by omega
        have HR := Lib.hid (show (10 : UInt8) ∉ r by have := hno.out; rw [HN.out.2.1, List.take_length] at this; exact this)
        clear d1 d2 d3 hno hlt hk
        go_wp2_with fail
        refine (linesR_any x wr (by have := HS.out.1; have := HN.out.1; omega)).mono ?_
        rintro e w1 ⟨A, c, rfl, hown, hF1⟩
        have HF1 := Lib.hid hF1
        have HL := Lib.hid hown
        obtain ⟨nl, hnl⟩ : ∃ n, n = (linesB x).length := ⟨_, rfl⟩
        rw [← hnl]
        have Hnl := Lib.hid hnl
        clear hown hF1 hnl
        by_cases h9 : 900 < nl
        · have d1 : decide ((nl : Int) > 900) = true := decide_eq_true (by omega)
          clear h9
          have hw := wakes_any w1 (HG.out.frm HF1.out)
          go_wp2_with fail
          refine hw.mono ?_
          rintro e v9 ⟨rfl, hF9⟩
          have HF9 := Lib.hid (HF1.out.trans' hF9)
          clear hw hF9
          go_wp2_with fail
          go_ret
          exact ⟨rfl, HF9.out⟩
        · have d1 : decide ((nl : Int) > 900) = false := decide_eq_false (by omega)
          have hnl9 : nl ≤ 900 := by omega
          clear h9
          go_upto_region 11 with fail
          go_cut [2] (fun tv wc => wc = w1 ∧ ∃ m : Nat, tv = .int .i64 m ∧ m ≤ nl)
          case first =>
            go_wp2_with fail
            go_meet
            case rel => exact ⟨rfl, (min (max at_ 0) nl).toNat, by congr 1; omega, by omega⟩
          case rest =>
            obtain ⟨hwc, a, rfl, ha⟩ := hcut
            obtain rfl := hwc.symm
            have HB := Lib.hid (show ∀ k, (yK r a (linesB x) k).length ≤ 7000 from fun k => by
              have := yK_len r a (linesB x) k
              have := lines_sum x
              have := Hnl.out
              have := HN.out
              have := HS.out
              omega)
            go_wp2_with fail
            go_loopw [11, 12] (fun y i wr => ∃ k : Nat, k ≤ nl ∧ i = .int .i64 k ∧ wr = w1 ∧ y = .string (ba (yK r a (linesB x) k))) (fun _ i _ => nl - (intOf i).toNat)
            case atStart => exact ⟨0, Nat.zero_le _, rfl, rfl, by rw [yK_zero]; rfl⟩
            case round =>
              obtain ⟨k, hk, rfl, hwr, rfl⟩ := hrel
              obtain rfl := hwr.symm
              by_cases hlt : k < nl
              · have hkl : k < (linesB x).length := by rw [← Hnl.out]; exact hlt
                obtain ⟨g, hA, hcell⟩ := own_at HL.out k (by rw [svb_length]; exact hkl)
                subst hA
                have hcv : (svb (linesB x))[k]'(by rw [svb_length]; exact hkl) = .string (ba ((linesB x)[k])) := by simp [svb]
                rw [hcv] at hcell
                have hst := yK_step r a (linesB x) k hkl
                have hb0 := HB.out k
                have hb1 := HB.out (k + 1)
                obtain ⟨Y, hY⟩ : ∃ Y, Y = yK r a (linesB x) k := ⟨_, rfl⟩
                obtain ⟨Y', hY'⟩ : ∃ Y, Y = yK r a (linesB x) (k + 1) := ⟨_, rfl⟩
                obtain ⟨l, hl⟩ : ∃ l, l = (linesB x)[k] := ⟨_, rfl⟩
                rw [← hY, ← hY', ← hl] at hst
                rw [← hY] at hb0
                rw [← hY'] at hb1
                rw [← hl] at hcell
                rw [← hY]
                have HY := Lib.hid hY'
                clear hcv hl hY hY'
                by_cases hka : k = a
                · rw [if_pos hka] at hst
                  have hq : ((k : Int) == (a : Int)) = true := by simp; omega
                  have hr9 := HS.out.2.1
                  have hr8 := HN.out.2.1
                  have hl9 : (Y ++ [10, 32, 32, 35] ++ r ++ [10] ++ l).length ≤ 7000 := by have := congrArg List.length hst; simp at this ⊢; omega
                  have c1 : ba Y ++ ({ data := #[10, 32, 32, 35] } : ByteArray) = ba (Y ++ [10, 32, 32, 35]) := ba_app Y [10, 32, 32, 35]
                  have c2 : ba (Y ++ [10, 32, 32, 35]) ++ ba r = ba (Y ++ [10, 32, 32, 35] ++ r) := ba_app _ _
                  have c3 : ba (Y ++ [10, 32, 32, 35] ++ r) ++ ({ data := #[10] } : ByteArray) = ba (Y ++ [10, 32, 32, 35] ++ r ++ [10]) := ba_app _ [10]
                  have c4 : ba (Y ++ [10, 32, 32, 35] ++ r ++ [10]) ++ ba l = ba (Y ++ [10, 32, 32, 35] ++ r ++ [10] ++ l) := ba_app _ _
                  have c5 : ba (Y ++ [10, 32, 32, 35] ++ r ++ [10] ++ l) ++ ({ data := #[10] } : ByteArray) = ba Y' := by rw [hst]; exact ba_app _ [10]
                  have n1 : ¬ (9223372036854775807 < (ba Y).size + 4) := by rw [ba_size]; simp at hl9; omega
                  have n2 : ¬ (9223372036854775807 < (ba (Y ++ [10, 32, 32, 35])).size + nr) := by rw [ba_size]; simp at hl9 ⊢; omega
                  have n3 : ¬ (9223372036854775807 < (ba (Y ++ [10, 32, 32, 35] ++ r)).size + 1) := by rw [ba_size]; simp at hl9 ⊢; omega
                  have n4 : ¬ (9223372036854775807 < (ba (Y ++ [10, 32, 32, 35] ++ r ++ [10])).size + (ba l).size) := by rw [ba_size, ba_size]; simp at hl9 ⊢; omega
                  have n5 : ¬ (9223372036854775807 < (ba (Y ++ [10, 32, 32, 35] ++ r ++ [10] ++ l)).size + 1) := by rw [ba_size]; simp at hl9 ⊢; omega
                  generalize ba (Y ++ [10, 32, 32, 35] ++ r ++ [10] ++ l) = S4 at *
                  generalize ba (Y ++ [10, 32, 32, 35] ++ r ++ [10]) = S3 at *
                  generalize ba (Y ++ [10, 32, 32, 35] ++ r) = S2 at *
                  generalize ba (Y ++ [10, 32, 32, 35]) = S1 at *
                  clear hb0 hb1 hst hl9 hr9 hr8 hkl hka
                  go_wp2_with fail
                  go_roundw
                  case rel => exact ⟨k + 1, by omega, by go_num, by first | rfl | trivial, by rw [HY.out]⟩
                  case measure => simp [intOf]; omega
                · rw [if_neg hka] at hst
                  have hq : ((k : Int) == (a : Int)) = false := by simp; omega
                  have hl9 : (Y ++ l).length ≤ 7000 := by have := congrArg List.length hst; simp at this ⊢; omega
                  have c4 : ba Y ++ ba l = ba (Y ++ l) := ba_app _ _
                  have c5 : ba (Y ++ l) ++ ({ data := #[10] } : ByteArray) = ba Y' := by rw [hst]; exact ba_app _ [10]
                  have n4 : ¬ (9223372036854775807 < (ba Y).size + (ba l).size) := by rw [ba_size, ba_size]; simp at hl9 ⊢; omega
                  have n5 : ¬ (9223372036854775807 < (ba (Y ++ l)).size + 1) := by rw [ba_size]; simp at hl9 ⊢; omega
                  generalize ba (Y ++ l) = S4 at *
                  clear hb0 hb1 hst hl9 hkl hka
                  go_wp2_with fail
                  go_roundw
                  case rel => exact ⟨k + 1, by omega, by go_num, by first | rfl | trivial, by rw [HY.out]⟩
                  case measure => simp [intOf]; omega
              · obtain rfl : nl = k := by omega
                obtain ⟨y, hy⟩ : ∃ y, y = txtOf (putY r a (linesB x)) := ⟨_, rfl⟩
                rw [show yK r a (linesB x) nl = y by rw [Hnl.out, yK_all, hy]]
                have HY := Lib.hid (show y = txtOf (putY r a (linesB x)) ∧ y.length ≤ 7000 from ⟨hy, by have := HB.out nl; rw [Hnl.out, yK_all, ← hy] at this; exact this⟩)
                clear hy hk hlt HB
                go_upto_region 19 with fail
                have hsl : Sl (w1.alloc (.cells #[.string (ba x)] 9)) (fun k => k = w1.heap.size) (.slice (some ⟨w1.heap.size, 0, none⟩) 1 1) (svb [x]) := Sl.blk w1 _ _ rfl ⟨rfl, by decide⟩
                have h1 := parseL_any [x] (some ⟨w1.heap.size, 0, none⟩) 1 1 _ (hsl.mono fun q hq => by rw [hq]; unfold InW; rw [World.size_alloc]; omega) (by simp) (by have := HS.out; have := HN.out; simp; omega) (HG.out.frm (HF1.out.alloc _))
                have hA1 : Frm (fun _ => False) w1 (w1.alloc (.cells #[.string (ba x)] 9)) := (Frm.refl (fun _ => False) w1).alloc _
                clear hsl
                rw [show ([x] : List By).flatten = x from by simp] at h1
                go_wp2_with fail
                refine h1.mono ?_
                rintro e V1 hP
                obtain ⟨C1, n1, er1, st1, rfl, hAns, hF, hc7, -, hm⟩ := parse_res hP
                have hV := hA1.trans' hF
                clear hA1 hF h1 hP
                rename_i K hK
                refine hK _ _ ?_
                clear hK
                refine wpList_valT rfl (some 81) rfl (v := .tuple #[.agg C1, .int .i64 n1, .int .i64 er1]) (w' := V1) (by simp [go_sem, execOp]) ?_
                refine wpList_valT rfl (some 85) rfl (v := .agg C1) (w' := V1) (by simp [go_sem, execOp]) ?_
                refine wpList_valT rfl (some 86) rfl (v := .int .i64 n1) (w' := V1) (by simp [go_sem, execOp]) ?_
                refine wpList_valT rfl (some 87) rfl (v := .int .i64 er1) (w' := V1) (by simp [go_sem, execOp]) ?_
                refine wpList_valT rfl (some 13) rfl (v := .pointer (some ⟨V1.heap.size, 0, none⟩)) (w' := V1.alloc (.cells zeroC 33)) (by simp [go_sem, execOp, zeroC, stCells, zeroSt]) ?_
                have hB := Blk.new V1 33 zeroC
                have hX : Frm (fun _ => False) V1 (V1.alloc (.cells zeroC 33)) := (Frm.refl _ V1).alloc _
                obtain ⟨g1, hg1⟩ : ∃ g, g = V1.heap.size := ⟨_, rfl⟩
                rw [← hg1] at hB ⊢
                have hAns2 := hAns.kept hX
                generalize V1.alloc (.cells zeroC 33) = U at *
                simp only [Act.put, List.setIfInBounds_toArray, List.set_cons_succ, List.set_cons_zero]
                refine wpList_store_rowT rfl 33 (.tmp 13) (.tmp 85) rfl rfl g1 C1 rfl rfl _ _ hB (by rw [hAns.size]; exact st_info) (by rw [hAns.size]; rfl) hAns.one ?_
                have hY : Frm (fun _ => False) V1 (U.setRow g1 C1) := hX.trans (K' := fun q => q = g1) ((Frm.refl (fun q => q = g1) U).setRow (.inl rfl) _) fun q hq => .inr (by omega)
                have hD : Blk (U.setRow g1 C1) g1 33 C1 := hB.setRow _
                have hAn := hAns2.lay (D := C1) hB
                generalize U.setRow g1 C1 = W1 at *
                have HW1 := Lib.hid (show Frm (fun _ => False) w1 W1 from hV.trans' hY)
                have HB1 := Lib.hid hD
                have HA1 := Lib.hid (And.intro hAn (And.intro hc7 hm))
                have HI1 := Lib.hid (show (Tryd.prog.info? 33).map (·.size) = some C1.size by rw [hAns.size]; exact st_info)
                clear hV hX hB hAns hAns2 hY hD hAn hc7 hm hg1
                have HF2 := Lib.hid (HF1.out.trans' HW1.out)
                go_upto_region 20 with fail
                have hsl : Sl (W1.alloc (.cells #[.string (ba y)] 9)) (fun k => k = W1.heap.size) (.slice (some ⟨W1.heap.size, 0, none⟩) 1 1) (svb [y]) := Sl.blk W1 _ _ rfl ⟨rfl, by decide⟩
                have h1 := parseL_any [y] (some ⟨W1.heap.size, 0, none⟩) 1 1 _ (hsl.mono fun q hq => by rw [hq]; unfold InW; rw [World.size_alloc]; omega) (by simp) (by have := HY.out.2; simp; omega) (HG.out.frm (HF2.out.alloc _))
                have hA1 : Frm (fun _ => False) W1 (W1.alloc (.cells #[.string (ba y)] 9)) := (Frm.refl (fun _ => False) W1).alloc _
                clear hsl
                rw [show ([y] : List By).flatten = y from by simp] at h1
                go_wp2_with fail
                refine h1.mono ?_
                rintro e V2 hP
                obtain ⟨C2, n2, er2, st2, rfl, hAns, hF, hc7, -, hm⟩ := parse_res hP
                have hV := hA1.trans' hF
                clear hA1 hF h1 hP
                rename_i K hK
                refine hK _ _ ?_
                clear hK
                refine wpList_valT rfl (some 88) rfl (v := .tuple #[.agg C2, .int .i64 n2, .int .i64 er2]) (w' := V2) (by simp [go_sem, execOp]) ?_
                refine wpList_valT rfl (some 92) rfl (v := .agg C2) (w' := V2) (by simp [go_sem, execOp]) ?_
                refine wpList_valT rfl (some 93) rfl (v := .int .i64 n2) (w' := V2) (by simp [go_sem, execOp]) ?_
                refine wpList_valT rfl (some 94) rfl (v := .int .i64 er2) (w' := V2) (by simp [go_sem, execOp]) ?_
                refine wpList_valT rfl (some 16) rfl (v := .pointer (some ⟨V2.heap.size, 0, none⟩)) (w' := V2.alloc (.cells zeroC 33)) (by simp [go_sem, execOp, zeroC, stCells, zeroSt]) ?_
                have hB := Blk.new V2 33 zeroC
                have hX : Frm (fun _ => False) V2 (V2.alloc (.cells zeroC 33)) := (Frm.refl _ V2).alloc _
                obtain ⟨g2, hg2⟩ : ∃ g, g = V2.heap.size := ⟨_, rfl⟩
                rw [← hg2] at hB ⊢
                have hAns2 := hAns.kept hX
                generalize V2.alloc (.cells zeroC 33) = U at *
                simp only [Act.put, List.setIfInBounds_toArray, List.set_cons_succ, List.set_cons_zero]
                refine wpList_store_rowT rfl 33 (.tmp 16) (.tmp 92) rfl rfl g2 C2 rfl rfl _ _ hB (by rw [hAns.size]; exact st_info) (by rw [hAns.size]; rfl) hAns.one ?_
                have hY : Frm (fun _ => False) V2 (U.setRow g2 C2) := hX.trans (K' := fun q => q = g2) ((Frm.refl (fun q => q = g2) U).setRow (.inl rfl) _) fun q hq => .inr (by omega)
                have hD : Blk (U.setRow g2 C2) g2 33 C2 := hB.setRow _
                have hAn := hAns2.lay (D := C2) hB
                generalize U.setRow g2 C2 = W2 at *
                have HW2 := Lib.hid (show Frm (fun _ => False) W1 W2 from hV.trans' hY)
                have HB2 := Lib.hid hD
                have HA2 := Lib.hid (And.intro hAn (And.intro hc7 hm))
                have HI2 := Lib.hid (show (Tryd.prog.info? 33).map (·.size) = some C2.size by rw [hAns.size]; exact st_info)
                clear hV hX hB hAns hAns2 hY hD hAn hc7 hm hg2
                have HF3 := Lib.hid (HF2.out.trans' HW2.out)
                have HB1b := Lib.hid (HB1.out.kept HW2.out id)
                have HA1b := Lib.hid (HA1.out.1.kept HW2.out)
                have hrel : st1 = st2 ∧ er1 = er2 ∧ n2 = (if a < n1 then n1 + 2 else n1) ∧ (er1 = 0 ∧ parseB x = .ok st1 ∨ er1 = 300) ∧ n1 ≤ 900 := by
                  have h1 := HA1.out.2.2
                  have h2 := HA2.out.2.2
                  rw [HY.out.1] at h2
                  rcases parse_put x r a (by have := HS.out; have := HN.out; omega) HR.out (by have := HS.out; have := HN.out; omega) (by have := Hnl.out; omega) with ⟨s, e1, e2⟩ | ⟨n, e1, e2, h9⟩
                  · rw [e1] at h1
                    rw [e2] at h2
                    obtain ⟨h11, h12, h13⟩ := h1
                    obtain ⟨h21, h22, h23⟩ := h2
                    exact ⟨by rw [h11, h21], by rw [h13, h23], by rw [h22, h12]; simp, .inl ⟨h13, by rw [h11]; exact e1⟩, by omega⟩
                  · rw [e1] at h1
                    rw [e2] at h2
                    obtain ⟨h11, h12, h13⟩ := h1
                    obtain ⟨h21, h22, h23⟩ := h2
                    exact ⟨by rw [h11, h21], by rw [h13, h23], by rw [h22, h12], .inr h13, by omega⟩
                obtain ⟨hst, her, hn2, hE, hn1⟩ := hrel
                obtain rfl := hst
                obtain rfl := her
                have HE := Lib.hid hE
                have HN2 := Lib.hid hn2
                clear hn2 hE
                go_upto_if 98 with fail
                go_cut [19] (fun tv wc => wc = W2 ∧ tv = .int .i64 n2)
                case first =>
                  go_wp2_with fail
                  · rename_i hlt
                    go_meet
                    case rel => exact ⟨rfl, by have := HN2.out; rw [if_pos hlt] at this; congr 1; omega⟩
                  · rename_i hlt
                    go_meet
                    case rel => exact ⟨rfl, by have := HN2.out; rw [if_neg hlt] at this; congr 1; omega⟩
                case rest =>
                  obtain ⟨hwc, rfl⟩ := hcut
                  obtain rfl := hwc.symm
                  clear hn1
                  obtain ⟨wv1, rv1, av1, pv1, hC1, hL1⟩ := HA1b.out.read
                  obtain ⟨wv2, rv2, av2, pv2, hC2, hL2⟩ := HA2.out.1.read
                  have HC := Lib.hid (And.intro hC1 (And.intro hC2 (And.intro hL1 hL2)))
                  clear hC1 hC2 hL1 hL2
                  go_wp2_with (first | (refine wpList_loadT (by rfl) 33 (.tmp 13) (by rfl) g1 (by rfl) C1 _ _ HB1b.out Tryd.underlying33 (by rfl) HI1.out ?_) | (refine wpList_loadT (by rfl) 33 (.tmp 16) (by rfl) g2 (by rfl) C2 _ _ HB2.out Tryd.underlying33 (by rfl) HI2.out ?_))
                  rw [HC.out.1, HC.out.2.1]
                  refine (same_any st1 st1 wv1 rv1 av1 pv1 wv2 rv2 av2 pv2 W2 HC.out.2.2.1 HC.out.2.2.2 HA2.out.2.1 HA2.out.2.1).mono ?_
                  rintro e W3 ⟨rfl, hF⟩
                  rw [decide_eq_true rfl, ← HC.out.1, ← HC.out.2.1]
                  have HF4 := Lib.hid (HF3.out.trans' hF)
                  clear hF
                  rcases HE.out with ⟨he, hp⟩ | he
                  · subst he
                    have Hp := Lib.hid hp
                    clear hp
                    have HL4 := Lib.hid (show (linesB x).length = nl from Hnl.out.symm)
                    go_wp2_with fail
                    refine (linesR_any z W3 (by have := HS.out; have := HN.out; omega)).mono ?_
                    rintro e W4 ⟨A4, c4, rfl, -, hF⟩
                    have HF5 := Lib.hid (HF4.out.trans' hF)
                    clear hF
                    obtain ⟨nq, hnq⟩ : ∃ n, n = (linesB z).length := ⟨_, rfl⟩
                    rw [← hnq]
                    have Hnq := Lib.hid hnq
                    clear hnq
                    by_cases h90 : 90 < nq
                    · have d4 : decide ((nq : Int) > 90) = true := decide_eq_true (by omega)
                      clear h90
                      have hw := wakes_any W4 (HG.out.frm HF5.out)
                      go_wp2_with fail
                      refine hw.mono ?_
                      rintro e v9 ⟨rfl, hF9⟩
                      have HF9 := Lib.hid (HF5.out.trans' hF9)
                      clear hw hF9
                      go_wp2_with fail
                      go_ret
                      exact ⟨rfl, HF9.out⟩
                    · have d4 : decide ((nq : Int) > 90) = false := decide_eq_false (by omega)
                      have Hq := Lib.hid (show nq ≤ 90 by omega)
                      clear h90
                      go_upto_region 28 with fail
                      have hsl : Sl (W4.alloc (.cells #[.string (ba y), .string { data := #[102, 111, 108, 100, 32, 121, 101, 115, 10] }, .string (ba z)] 9)) (fun k => k = W4.heap.size) (.slice (some ⟨W4.heap.size, 0, none⟩) 3 3) (svb [y, [102, 111, 108, 100, 32, 121, 101, 115, 10], z]) := Sl.blk W4 _ _ rfl ⟨rfl, by decide⟩
                      have h1 := parseL_any [y, [102, 111, 108, 100, 32, 121, 101, 115, 10], z] (some ⟨W4.heap.size, 0, none⟩) 3 3 _ (hsl.mono fun q hq => by rw [hq]; unfold InW; rw [World.size_alloc]; omega) (by simp) (by have := HY.out.2; have := HS.out; have := HN.out; simp; omega) (HG.out.frm (HF5.out.alloc _))
                      have hA1 : Frm (fun _ => False) W4 (W4.alloc (.cells #[.string (ba y), .string { data := #[102, 111, 108, 100, 32, 121, 101, 115, 10] }, .string (ba z)] 9)) := (Frm.refl (fun _ => False) W4).alloc _
                      clear hsl
                      go_wp2_with fail
                      refine h1.mono ?_
                      rintro e V5 hP
                      obtain ⟨C5, n5, er5, st5, rfl, hAns, hF, hc7, -, hm⟩ := parse_res hP
                      have hV := hA1.trans' hF
                      clear hA1 hF h1 hP
                      rename_i K hK
                      refine hK _ _ ?_
                      clear hK
                      refine wpList_valT rfl (some 128) rfl (v := .tuple #[.agg C5, .int .i64 n5, .int .i64 er5]) (w' := V5) (by simp [go_sem, execOp]) ?_
                      refine wpList_valT rfl (some 133) rfl (v := .agg C5) (w' := V5) (by simp [go_sem, execOp]) ?_
                      refine wpList_valT rfl (some 134) rfl (v := .int .i64 n5) (w' := V5) (by simp [go_sem, execOp]) ?_
                      refine wpList_valT rfl (some 135) rfl (v := .int .i64 er5) (w' := V5) (by simp [go_sem, execOp]) ?_
                      refine wpList_valT rfl (some 20) rfl (v := .pointer (some ⟨V5.heap.size, 0, none⟩)) (w' := V5.alloc (.cells zeroC 33)) (by simp [go_sem, execOp, zeroC, stCells, zeroSt]) ?_
                      have hB := Blk.new V5 33 zeroC
                      have hX : Frm (fun _ => False) V5 (V5.alloc (.cells zeroC 33)) := (Frm.refl _ V5).alloc _
                      obtain ⟨g5, hg5⟩ : ∃ g, g = V5.heap.size := ⟨_, rfl⟩
                      rw [← hg5] at hB ⊢
                      have hAns2 := hAns.kept hX
                      generalize V5.alloc (.cells zeroC 33) = U at *
                      simp only [Act.put, List.setIfInBounds_toArray, List.set_cons_succ, List.set_cons_zero]
                      refine wpList_store_rowT rfl 33 (.tmp 20) (.tmp 133) rfl rfl g5 C5 rfl rfl _ _ hB (by rw [hAns.size]; exact st_info) (by rw [hAns.size]; rfl) hAns.one ?_
                      have hY : Frm (fun _ => False) V5 (U.setRow g5 C5) := hX.trans (K' := fun q => q = g5) ((Frm.refl (fun q => q = g5) U).setRow (.inl rfl) _) fun q hq => .inr (by omega)
                      have hD : Blk (U.setRow g5 C5) g5 33 C5 := hB.setRow _
                      have hAn := hAns2.lay (D := C5) hB
                      generalize U.setRow g5 C5 = W5 at *
                      have HW5 := Lib.hid (show Frm (fun _ => False) W4 W5 from hV.trans' hY)
                      have HB5 := Lib.hid hD
                      have HA5 := Lib.hid (And.intro hAn (And.intro hc7 hm))
                      have HI5 := Lib.hid (show (Tryd.prog.info? 33).map (·.size) = some C5.size by rw [hAns.size]; exact st_info)
                      clear hV hX hB hAns hAns2 hY hD hAn hc7 hm hg5
                      have HF6 := Lib.hid (HF5.out.trans' HW5.out)
                      have hrel : n5 = (if a < nl then nl + 3 else nl + 1) ∧ er5 = 300 := by
                        have h1 := HA5.out.2.2
                        have hb := parse_bad x r z a st1 (by have := HS.out; have := HN.out; omega) HR.out (by have := HS.out; have := HN.out; omega) (by have := Hnl.out; omega) (by have := HS.out; have := HN.out; omega) (by have := Hq.out; have := Hnq.out; omega) Hp.out
                        rw [← HY.out.1, show bs "fold yes\n" = [102, 111, 108, 100, 32, 121, 101, 115, 10] from by decide, HL4.out] at hb
                        rw [hb] at h1
                        exact h1.2
                      obtain ⟨hn5, rfl⟩ := hrel
                      have HN5 := Lib.hid hn5
                      clear hn5
                      go_upto_if 142 with fail
                      go_cut [23] (fun tv wc => wc = W5 ∧ tv = .int .i64 n5)
                      case first =>
                        go_wp2_with fail
                        · rename_i hlt
                          go_meet
                          case rel => exact ⟨rfl, by have := HN5.out; rw [if_pos hlt] at this; congr 1; omega⟩
                        · rename_i hlt
                          go_meet
                          case rel => exact ⟨rfl, by have := HN5.out; rw [if_neg hlt] at this; congr 1; omega⟩
                      case rest =>
                        obtain ⟨hwc, rfl⟩ := hcut
                        obtain rfl := hwc.symm
                        have hw := wakes_any W5 (HG.out.frm HF6.out)
                        go_wp2_with fail
                        refine hw.mono ?_
                        rintro e v9 ⟨rfl, hF9⟩
                        have HF9 := Lib.hid (HF6.out.trans' hF9)
                        clear hw hF9
                        go_wp2_with fail
                        go_ret
                        exact ⟨rfl, HF9.out⟩
                  · subst he
                    have hw := wakes_any W3 (HG.out.frm HF4.out)
                    go_wp2_with fail
                    refine hw.mono ?_
                    rintro e v9 ⟨rfl, hF9⟩
                    have HF9 := Lib.hid (HF4.out.trans' hF9)
                    clear hw hF9
                    go_wp2_with fail
                    go_ret
                    exact ⟨rfl, HF9.out⟩
end Go.Proofs.YtpcdbkaeijhmfaaDoor
