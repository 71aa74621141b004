/- The document's lines; its lists of texts, the same. The document's script: words. The document's script: numbers as texts. teaselref04.Same. -/
import Derived.Laws.DeepStrings4
import Derived.Deep.DeepCutAuto
import Derived.Test.YtpcdbkaeijhmfaaGreatDoorGG
import Derived.Test.YtpcdbkaeijhmfaaGreatDoorHSl
import Derived.Test.YtpcdbkaeijhmfaaGreatDoorGA
namespace Go.Proofs.YtpcdbkaeijhmfaaGreatDoor
set_option maxRecDepth 100000
set_option linter.unusedVariables false
set_option linter.unusedSimpArgs false
open Go.RowKit
attribute [local go_sem] Oper.semAt_some
theorem run_mid {P : Program} {t : TypeId} (ht : P.underlying t = some .string) (l : By) (i j : Nat) (hij : i ≤ j) (hj : j ≤ l.length) (w : World) : (Instr.slice t (.string (ba l)) (some (.int .i64 i)) (some (.int .i64 j)) none).run P w = .ok (.string (ba ((l.take j).drop i))) w := by
  rw [run_slice_string_if w t (ba l) .i64 .i64 (i : Int) (j : Int) ht, if_pos ⟨by omega, by rw [ba_size]; omega⟩, if_pos ⟨by omega, by omega⟩, ba_extract]
  simp
theorem take_drop_snoc (t : By) (i k : Nat) (c : UInt8) (h : t[k]? = some c) (hi : i ≤ k) : (t.take (k + 1)).drop i = (t.take k).drop i ++ [c] := by
  obtain ⟨hk, rfl⟩ := List.getElem?_eq_some_iff.1 h
  rw [List.take_succ_eq_append_getElem hk, List.drop_append_of_le_length (by simp; omega)]
theorem linesGo_step (cur t : By) (k : Nat) (c : UInt8) (h : t[k]? = some c) : linesGo cur (t.drop k) = if c = 10 then cur :: linesGo [] (t.drop (k + 1)) else linesGo (cur ++ [c]) (t.drop (k + 1)) := by
  obtain ⟨hk, rfl⟩ := List.getElem?_eq_some_iff.1 h
  rw [List.drop_eq_getElem_cons hk]
  rfl
def LinesPost (t : By) (w : World) (e : Ending) (w' : World) : Prop := ∃ A c, e = .returned (.slice A (linesB t).length c) ∧ w'.ownsRow w.heap.size 9 1 (.slice A (linesB t).length c) (linesB t).length (svb (linesB t)) ∧ Frm (fun _ => False) w w'
set_option maxHeartbeats 3200000 in
theorem linesR_any (t : By) (w : World) (ht : t.length ≤ 1000000) : Calls Tryz.prog 18 #[.string (ba t)] w (LinesPost t w) := by
  obtain ⟨n, hn⟩ : ∃ n, n = t.length := ⟨_, rfl⟩
  have hsz : (ba t).size = n := hn.symm
  have Hat := Lib.hid (And.intro (run_at (P := Tryz.prog) Tryz.underlying9 t) (And.intro (run_mid (P := Tryz.prog) Tryz.underlying9 t) (run_from (P := Tryz.prog) Tryz.underlying9 t)))
  have Hn := Lib.hid hn
  have hn9 : n ≤ 1000000 := by omega
  generalize ba t = S at *
  clear hn ht
  go_enter Tryz.func18, Tryz.ntmps18
  go_wp2_with fail
  go_loopw [3, 4, 5] (fun o fr i wr => ∃ k m : Nat, k ≤ n ∧ m ≤ k ∧ i = .int .i64 k ∧ fr = .int .i64 m ∧ Hid (∃ ls, LI w ls o wr ∧ linesB t = ls ++ linesGo ((t.take k).drop m) (t.drop k) ∧ ls.length ≤ k)) (fun _ _ i _ => n - (intOf i).toNat)
  case atStart => exact ⟨0, 0, Nat.zero_le _, Nat.le_refl _, rfl, rfl, Lib.hid ⟨[], LI.nil w, by simp [linesB], Nat.zero_le _⟩⟩
  case round =>
    obtain ⟨k, m, hk, hm, rfl, rfl, hT⟩ := hrel
    obtain ⟨ls, hLI, hls, hll⟩ := hT.out
    by_cases hlt : k < n
    · obtain ⟨c, hc⟩ : ∃ c, t[k]? = some c := ⟨_, List.getElem?_eq_getElem (by have := Hn.out; omega)⟩
      have hat := Hat.out.1 k c hc
      have hmid := Hat.out.2.1 m k hm (by have := Hn.out; omega)
      have hst := linesGo_step ((t.take k).drop m) t k c hc
      have hsn := take_drop_snoc t m k c hc hm
      have H1 := Lib.hid (And.intro hLI (And.intro hls (And.intro hll (And.intro hst (And.intro hsn hlt)))))
      have hk0 : (0 : Int) ≤ k := by omega
      have hm0 : (0 : Int) ≤ m := by omega
      obtain ⟨x, hx⟩ : ∃ x, x = (t.take k).drop m := ⟨_, rfl⟩
      rw [← hx] at hmid
      have Hx := Lib.hid hx
      clear hT hLI hls hst hsn hc hx
      by_cases h10 : c = 10
      · subst h10
        have hat : ∀ w, (Instr.index 9 (.string S) (.int .i64 k)).run Tryz.prog w = .ok (.int .u8 10) w := hat
        obtain ⟨T, hT⟩ : ∃ T, T = ba x := ⟨_, rfl⟩
        rw [← hT] at hmid
        have HT := Lib.hid hT
        clear hT
        go_wp2_with (at_builtin; go_loud (refine wpList_li (by rfl) _ _ (by rfl) ls [x] (H1.out.1.step ((Frm.refl (fun _ => False) wr).alloc _)) (by rfl) (by rfl) (K := fun q => q = wr.heap.size) (by rw [HT.out]; exact Sl.blk1 wr _ _) (by simp; omega) ?_); go_loud (intro v6 w6 h6))
        have H6 := Lib.hid h6
        clear h6 hat hmid
        go_wp2_with fail
        go_roundw
        case rel => exact ⟨k + 1, k + 1, by omega, Nat.le_refl _, by go_num, by go_num, Lib.hid ⟨ls ++ [x], H6.out, by
          rw [H1.out.2.1, H1.out.2.2.2.1, if_pos rfl, Hx.out, List.append_assoc]
          rw [show (t.take (k + 1)).drop (k + 1) = [] by simp]
          rfl, by simp; omega⟩⟩
        case measure => simp [intOf]; omega
      · have g10 : ((c.toNat : Int) == 10) = false := by
          simp only [beq_eq_false_iff_ne, ne_eq]
          intro h
          exact h10 (UInt8.toNat_inj.1 (show c.toNat = 10 by omega))
        have Hc := Lib.hid h10
        clear h10 hmid
        go_wp2_with fail
        go_roundw
        case rel => exact ⟨k + 1, m, by omega, by omega, by go_num, by first | rfl | trivial, Lib.hid ⟨ls, H1.out.1, by
          rw [H1.out.2.1, H1.out.2.2.2.1, if_neg Hc.out, H1.out.2.2.2.2.1], by omega⟩⟩
        case measure => simp [intOf]; omega
    · obtain rfl : k = n := by omega
      have hfr := Hat.out.2.2 m (by have := Hn.out; omega)
      rw [show t.take k = t from List.take_of_length_le (by have := Hn.out; omega), show t.drop k = [] from List.drop_of_length_le (by have := Hn.out; omega)] at hls
      have hcur : linesGo (t.drop m) [] = if t.drop m = [] then [] else [t.drop m] := by unfold linesGo; rfl
      rw [hcur] at hls
      have hm0 : (0 : Int) ≤ m := by omega
      by_cases hmk : m < k
      · rw [if_neg (by intro e; have := congrArg List.length e; simp at this; have := Hn.out; omega)] at hls
        obtain ⟨T, hT⟩ : ∃ T, T = ba (t.drop m) := ⟨_, rfl⟩
        rw [← hT] at hfr
        have H1 := Lib.hid (And.intro hLI (And.intro hls (And.intro hll hT)))
        clear hT hLI hls
        rename_i hT
        clear hT
        go_wp2_with (at_builtin; go_loud (refine wpList_li (by rfl) _ _ (by rfl) ls [t.drop m] (H1.out.1.step ((Frm.refl (fun _ => False) wr).alloc _)) (by rfl) (by rfl) (K := fun q => q = wr.heap.size) (by rw [H1.out.2.2.2]; exact Sl.blk1 wr _ _) (by simp; omega) ?_); go_loud (intro v6 w6 h6))
        rw [← H1.out.2.1] at h6
        have H6 := Lib.hid h6
        clear h6 hfr
        go_wp2_with fail
        go_ret
        obtain ⟨A, c, e⟩ := H6.out.form
        have h := H6.out
        rw [e] at h ⊢
        exact ⟨A, c, rfl, h.1, h.2⟩
      · rw [if_pos (by rw [List.drop_eq_nil_iff]; have := Hn.out; omega), List.append_nil] at hls
        rw [← hls] at hLI
        have H1 := Lib.hid hLI
        clear hLI hls hfr hT
        go_wp2_with fail
        go_ret
        obtain ⟨A, c, e⟩ := H1.out.form
        have h := H1.out
        rw [e] at h ⊢
        exact ⟨A, c, rfl, h.1, h.2⟩
end Go.Proofs.YtpcdbkaeijhmfaaGreatDoor
namespace Go.Proofs.YtpcdbkaeijhmfaaGreatDoor
set_option maxRecDepth 100000
set_option linter.unusedVariables false
set_option linter.unusedSimpArgs false
open Go.RowKit
attribute [local go_sem] Oper.semAt_some
theorem wordsR_skip (l : By) (k : Nat) (h : l[k]? = some 32) : wordsR (l.drop k) = wordsR (l.drop (k + 1)) := by
  obtain ⟨hk, he⟩ := List.getElem?_eq_some_iff.1 h
  have e : (l.drop k).dropWhile (· == 32) = (l.drop (k + 1)).dropWhile (· == 32) := by
    rw [List.drop_eq_getElem_cons hk, he, List.dropWhile_cons]
    simp
  cases hd : (l.drop (k + 1)).dropWhile (· == 32) with
  | nil => rw [wordsR_nil hd, wordsR_nil (e.trans hd)]
  | cons c r => rw [wordsR_cons hd, wordsR_cons (e.trans hd)]
theorem endR_step (i : Bool) (l : By) (k : Nat) (c : UInt8) (h : l[k]? = some c) : endR i (l.drop k) = if (i || c != 32) = true then endR (if (c == 34) = true then !i else i) (l.drop (k + 1)) + 1 else 0 := by
  obtain ⟨hk, he⟩ := List.getElem?_eq_some_iff.1 h
  rw [List.drop_eq_getElem_cons hk, he, endR]
/-- A word that is come to, and what is behind it. -/
theorem wordsR_word (l : By) (k e : Nat) (c : UInt8) (h : l[k]? = some c) (hc : c ≠ 32) (he : endR false (l.drop k) = e - k) (hke : k ≤ e) (hel : e ≤ l.length) : wordsR (l.drop k) = (l.take e).drop k :: wordsR (l.drop e) ∧ k < e := by
  obtain ⟨hk, hcv⟩ := List.getElem?_eq_some_iff.1 h
  have hd : l.drop k = c :: l.drop (k + 1) := by rw [List.drop_eq_getElem_cons hk, hcv]
  have hdw : (l.drop k).dropWhile (· == 32) = c :: l.drop (k + 1) := by rw [hd, List.dropWhile_cons, if_neg (by simpa using hc)]
  have h1 : 1 ≤ endR false (l.drop k) := by
    rw [endR_step false l k c h, if_pos (by simp [hc])]
    omega
  refine ⟨?_, by omega⟩
  rw [wordsR_cons hdw, ← hd, he, Nat.max_eq_right (by omega), List.drop_drop]
  congr 1
  · rw [List.drop_take]
  · congr 2; omega
def WdsPost (t : By) (w : World) (e : Ending) (w' : World) : Prop := ∃ A c, e = .returned (.slice A (wordsR t).length c) ∧ w'.ownsRow w.heap.size 9 1 (.slice A (wordsR t).length c) (wordsR t).length (svb (wordsR t)) ∧ Frm (fun _ => False) w w'
set_option maxHeartbeats 3200000 in
theorem wordsR_any (t : By) (w : World) (ht : t.length ≤ 1000000) : Calls Tryz.prog 48 #[.string (ba t)] w (WdsPost t w) := by
  obtain ⟨n, hn⟩ : ∃ n, n = t.length := ⟨_, rfl⟩
  have hsz : (ba t).size = n := hn.symm
  have Hat := Lib.hid (And.intro (run_at (P := Tryz.prog) Tryz.underlying9 t) (run_mid (P := Tryz.prog) Tryz.underlying9 t))
  have Hn := Lib.hid hn
  have hn9 : n ≤ 1000000 := by omega
  generalize ba t = S at *
  clear hn ht
  go_enter Tryz.func48, Tryz.ntmps48
  go_wp2_with fail
  go_loopw [3, 4] (fun o i wr => ∃ k : Nat, k ≤ n ∧ i = .int .i64 k ∧ Hid (∃ ls, LI w ls o wr ∧ wordsR t = ls ++ wordsR (t.drop k) ∧ ls.length ≤ k)) (fun _ i _ => n - (intOf i).toNat)
  case atStart => exact ⟨0, Nat.zero_le _, rfl, Lib.hid ⟨[], LI.nil w, by simp, Nat.zero_le _⟩⟩
  case round =>
    obtain ⟨k, hk, rfl, hT⟩ := hrel
    obtain ⟨ls, hLI, hls, hll⟩ := hT.out
    clear hT
    by_cases hlt : k < n
    · obtain ⟨c, hc⟩ : ∃ c, t[k]? = some c := ⟨_, List.getElem?_eq_getElem (by have := Hn.out; omega)⟩
      have hat := Hat.out.1 k c hc
      by_cases h32 : c = 32
      · have g32 : ((c.toNat : Int) == 32) = true := by rw [h32]; rfl
        have hsk := wordsR_skip t k (by rw [hc, h32])
        have H1 := Lib.hid (And.intro hLI (And.intro hls (And.intro hll hsk)))
        clear hLI hls hll hsk hc h32
        go_wp2_with fail
        go_roundw
        case rel => exact ⟨k + 1, by omega, by go_num, Lib.hid ⟨ls, H1.out.1, by rw [H1.out.2.1, H1.out.2.2.2], by have := H1.out.2.2.1; omega⟩⟩
        case measure => simp [intOf]; omega
      · have g32 : ((c.toNat : Int) == 32) = false := by
          simp only [beq_eq_false_iff_ne, ne_eq]
          intro h
          exact h32 (UInt8.toNat_inj.1 (show c.toNat = 32 by omega))
        have H1 := Lib.hid (And.intro hLI (And.intro hls (And.intro hll (And.intro hc h32))))
        clear hLI hls hll hc h32
        go_wp2_with fail
        clear hat g32
        go_loopw [5, 6] (fun x y wq => ∃ (e : Nat) (i : Bool), k ≤ e ∧ e ≤ n ∧ x = .int .i64 e ∧ y = .bool i ∧ wq = wr ∧ Hid (endR false (t.drop k) = (e - k) + endR i (t.drop e))) (fun x _ _ => n - (intOf x).toNat)
        case atStart => exact ⟨k, false, Nat.le_refl _, hk, rfl, rfl, rfl, Lib.hid (by simp)⟩
        case round =>
          obtain ⟨e, i, hke, hen, rfl, rfl, hwq, HE⟩ := hrel
          obtain rfl := hwq.symm
          go_upto_region 8 with fail
          obtain ⟨q, hq⟩ : ∃ q, q = decide (endR i (t.drop e) ≠ 0) := ⟨_, rfl⟩
          have Hq := Lib.hid hq
          clear hq
          go_cut [30] (fun v wc => wc = wr ∧ v = .bool q)
          case first =>
            by_cases h2 : e < n
            · have d1 : decide (e < n) = true := decide_eq_true h2
              obtain ⟨d, hd⟩ : ∃ d, t[e]? = some d := ⟨_, List.getElem?_eq_getElem (by have := Hn.out; omega)⟩
              have hat := Hat.out.1 e d hd
              have hst := endR_step i t e d hd
              cases i with
              | true =>
                have Hq1 := Lib.hid (show q = true by rw [Hq.out, hst, if_pos (by simp)]; exact decide_eq_true (by omega))
                clear hst hd hat
                go_wp2_with fail
                go_meet
                case rel => exact ⟨rfl, by rw [Hq1.out]⟩
              | false =>
                have g1 : Hid (((d.toNat : Int) != 32) = q) := Lib.hid (by
                  rw [Hq.out, hst]
                  by_cases hd32 : d = 32
                  · rw [hd32, if_neg (by decide)]; rfl
                  · rw [if_pos (by simp [hd32])]
                    have : d.toNat ≠ 32 := fun h => hd32 (UInt8.toNat_inj.1 h)
                    rw [decide_eq_true (by omega)]
                    simp; omega)
                clear hst hd
                go_wp2_with fail
                go_meet
                case rel => exact ⟨rfl, by rw [g1.out]⟩
            · have d1 : decide (e < n) = false := decide_eq_false h2
              have Hq1 := Lib.hid (show q = false by
                rw [Hq.out, List.drop_of_length_le (by have := Hn.out; omega)]
                cases i <;> rfl)
              clear h2
              go_wp2_with fail
              go_meet
              case rel => exact ⟨rfl, by rw [Hq1.out]⟩
          case rest =>
            obtain ⟨hwc, rfl⟩ := hcut
            obtain rfl := hwc.symm
            cases q with
            | true =>
              have hne := of_decide_eq_true Hq.out.symm
              have h2 : e < n := by
                rcases Nat.lt_or_ge e n with h | h
                · exact h
                · exfalso; rw [List.drop_of_length_le (by have := Hn.out; omega)] at hne; cases i <;> exact hne rfl
              obtain ⟨d, hd⟩ : ∃ d, t[e]? = some d := ⟨_, List.getElem?_eq_getElem (by have := Hn.out; omega)⟩
              have hat := Hat.out.1 e d hd
              have hst := endR_step i t e d hd
              have hcond : (i || d != 32) = true := by
                cases hb : (i || d != 32) with
                | true => rfl
                | false => rw [hst, hb, if_neg (by simp)] at hne; exact absurd rfl hne
              rw [if_pos hcond] at hst
              have HS := Lib.hid hst
              by_cases h34 : d = 34
              · have g34 : ((d.toNat : Int) == 34) = true := by rw [h34]; rfl
                have H34 := Lib.hid h34
                clear hst hne hcond hd h34
                go_wp2_with fail
                go_roundw
                case rel => exact ⟨e + 1, !i, by omega, by omega, by go_num, by first | rfl | trivial, by first | rfl | trivial, Lib.hid (by rw [HE.out, HS.out, H34.out]; simp; omega)⟩
                case measure => simp [intOf]; omega
              · have g34 : ((d.toNat : Int) == 34) = false := by
                  simp only [beq_eq_false_iff_ne, ne_eq]
                  intro h
                  exact h34 (UInt8.toNat_inj.1 (show d.toNat = 34 by omega))
                have H34 := Lib.hid (show (d == 34) = false by simpa using h34)
                clear hst hne hcond hd h34
                go_wp2_with fail
                go_roundw
                case rel => exact ⟨e + 1, i, by omega, by omega, by go_num, by first | rfl | trivial, by first | rfl | trivial, Lib.hid (by rw [HE.out, HS.out, H34.out]; simp; omega)⟩
                case measure => simp [intOf]; omega
            | false =>
              have hz : endR i (t.drop e) = 0 := by
                have := of_decide_eq_false Hq.out.symm
                omega
              have hw := wordsR_word t k e c H1.out.2.2.2.1 H1.out.2.2.2.2 (by rw [HE.out, hz]; rfl) hke (by have := Hn.out; omega)
              have hmid := Hat.out.2 k e hke (by have := Hn.out; omega)
              obtain ⟨x, hx⟩ : ∃ x, x = (t.take e).drop k := ⟨_, rfl⟩
              rw [← hx] at hmid hw
              obtain ⟨T, hT⟩ : ∃ T, T = ba x := ⟨_, rfl⟩
              rw [← hT] at hmid
              have HT := Lib.hid hT
              have hke2 := hw.2
              have HW := Lib.hid hw.1
              have hk0 : (0 : Int) ≤ k := by omega
              clear hT hz hw hx
              go_wp2_with (at_builtin; go_loud (refine wpList_li (by rfl) _ _ (by rfl) ls [x] (H1.out.1.step ((Frm.refl (fun _ => False) wr).alloc _)) (by rfl) (by rfl) (K := fun q => q = wr.heap.size) (by rw [HT.out]; exact Sl.blk1 wr _ _) (by have := H1.out.2.2.1; simp; omega) ?_); go_loud (intro v6 w6 h6))
              have H6 := Lib.hid h6
              clear h6 hmid
              go_wp2_with fail
              go_roundw
              case rel => exact ⟨e, hen, rfl, Lib.hid ⟨ls ++ [x], H6.out, by rw [H1.out.2.1, HW.out, List.append_assoc]; rfl, by have := H1.out.2.2.1; simp; omega⟩⟩
              case measure => simp [intOf]; omega
    · obtain rfl : n = k := by omega
      rw [show t.drop n = [] from List.drop_of_length_le (by have := Hn.out; omega), wordsR_nil (l := []) rfl, List.append_nil] at hls
      rw [← hls] at hLI
      have H1 := Lib.hid hLI
      clear hLI hls
      go_wp2_with fail
      go_ret
      obtain ⟨A, c, e⟩ := H1.out.form
      have h := H1.out
      rw [e] at h ⊢
      exact ⟨A, c, rfl, h.1, h.2⟩
end Go.Proofs.YtpcdbkaeijhmfaaGreatDoor
namespace Go.Proofs.YtpcdbkaeijhmfaaGreatDoor
set_option maxRecDepth 100000
set_option linter.unusedVariables false
set_option linter.unusedSimpArgs false
open Go.RowKit
attribute [local go_sem] Oper.semAt_some
theorem run_midk {P : Program} {t : TypeId} (ht : P.underlying t = some .string) (k1 k2 : IntKind) (l : By) (i j : Nat) (hij : i ≤ j) (hj : j ≤ l.length) (w : World) : (Instr.slice t (.string (ba l)) (some (.int k1 i)) (some (.int k2 j)) none).run P w = .ok (.string (ba ((l.take j).drop i))) w := by
  rw [run_slice_string_if w t (ba l) k1 k2 (i : Int) (j : Int) ht, if_pos ⟨by omega, by rw [ba_size]; omega⟩, if_pos ⟨by omega, by omega⟩, ba_extract]
  simp
theorem digs_at (d : Nat) (hd : d < 10) : (([48, 49, 50, 51, 52, 53, 54, 55, 56, 57] : By).take (d + 1)).drop d = [UInt8.ofNat (48 + d)] := by
  have h : ∀ d, d < 10 → (([48, 49, 50, 51, 52, 53, 54, 55, 56, 57] : By).take (d + 1)).drop d = [UInt8.ofNat (48 + d)] := by decide
  exact h d hd
theorem dec_lenk : ∀ (k u : Nat), u < 10 ^ (k + 1) → (Lib.decDigits u).length ≤ k + 1
  | 0, u, h => by rw [Lib.decDigits, dif_pos (by simpa using h)]; simp
  | k + 1, u, h => by
    rw [Lib.decDigits]
    by_cases h10 : u < 10
    · rw [dif_pos h10]; simp
    · rw [dif_neg h10, List.length_append]
      have h1 : u / 10 < 10 ^ (k + 1) := by
        rw [Nat.pow_succ] at h
        omega
      have := dec_lenk k (u / 10) h1
      simp
      omega
theorem dec_len20 (u : Nat) (h : u < 18446744073709551616) : (Lib.decDigits u).length ≤ 20 := dec_lenk 19 u (by omega)
set_option maxHeartbeats 1600000 in
theorem digits_any (u : Nat) : ∀ (hu : u < 18446744073709551616) (w : World), Calls Tryz.prog 78 #[.int .u64 u] w fun e w' => e = .returned (.string (ba (Lib.decDigits u))) ∧ w' = w := by
  induction u using Nat.strongRecOn with
  | _ u ih =>
    intro hu w
    obtain ⟨D, hD⟩ : ∃ D : By, D = [UInt8.ofNat (48 + u % 10)] := ⟨_, rfl⟩
    have hx : ({ data := #[48, 49, 50, 51, 52, 53, 54, 55, 56, 57] } : ByteArray).extract (u % 10) (u % 10 + 1) = ba D := by
      rw [hD, ← digs_at (u % 10) (by omega)]
      exact ba_extract [48, 49, 50, 51, 52, 53, 54, 55, 56, 57] (u % 10) (u % 10 + 1)
    by_cases h10 : u < 10
    · have d1 : decide ((u : Int) < 10) = true := decide_eq_true (by omega)
      have Hu := Lib.hid (show Lib.decDigits u = D by rw [Lib.decDigits, dif_pos h10, hD, Nat.mod_eq_of_lt h10])
      clear ih hD
      go_enter Tryz.func78, Tryz.ntmps78
      go_wp2_with fail
      go_ret
      exact ⟨by rw [Hu.out, ← hx]; rfl, rfl⟩
    · have d1 : decide ((u : Int) < 10) = false := decide_eq_false (by omega)
      have hrec := ih (u / 10) (by omega) (by omega) w
      have hl := dec_len20 (u / 10) (by omega)
      obtain ⟨R, hR⟩ : ∃ R, R = Lib.decDigits (u / 10) := ⟨_, rfl⟩
      rw [← hR] at hrec hl
      have hDl : D.length = 1 := by rw [hD]; rfl
      have n1 : ¬ (9223372036854775807 < (ba R).size + (ba D).size) := by rw [ba_size, ba_size]; omega
      have Hu := Lib.hid (show Lib.decDigits u = R ++ D by rw [Lib.decDigits, dif_neg h10, hD, hR])
      clear ih hR hl hDl
      go_enter Tryz.func78, Tryz.ntmps78
      go_wp2_with fail
      refine hrec.mono ?_
      rintro e w1 ⟨rfl, rfl⟩
      clear hrec hD
      go_wp2_with fail
      go_ret
      exact ⟨by rw [Hu.out, ← ba_app]; rfl, rfl⟩
theorem itoaR_neg (n : Int) (h : n < 0) : itoaB n = 45 :: Lib.decDigits n.natAbs := by unfold itoaB Lib.itoa; rw [if_pos h]
theorem itoaR_pos (n : Int) (h : ¬ n < 0) : itoaB n = Lib.decDigits n.toNat := by unfold itoaB Lib.itoa; rw [if_neg h]
set_option maxHeartbeats 1600000 in
theorem digitsI_any (n : Int) (h0 : -9223372036854775807 ≤ n) (h1 : n ≤ 9223372036854775807) (w : World) : Calls Tryz.prog 58 #[.int .i64 n] w fun e w' => e = .returned (.string (ba (itoaB n))) ∧ w' = w := by
  by_cases hn : n < 0
  · obtain ⟨u, hu⟩ : ∃ u : Nat, u = n.natAbs := ⟨_, rfl⟩
    have hnu : n = -(u : Int) := by omega
    have Hi := Lib.hid (show itoaB n = 45 :: Lib.decDigits u by rw [hu]; exact itoaR_neg n hn)
    rw [Hi.out]
    subst hnu
    have hu9 : u ≤ 9223372036854775807 := by omega
    have hd := digits_any u (by omega) w
    have hl := dec_len20 u (by omega)
    obtain ⟨R, hR⟩ : ∃ R, R = Lib.decDigits u := ⟨_, rfl⟩
    rw [← hR] at hd hl ⊢
    have d1 : decide (-(u : Int) < 0) = true := decide_eq_true hn
    have n1 : ¬ (9223372036854775807 < 1 + (ba R).size) := by rw [ba_size]; omega
    clear hu hR hl Hi
    have hpos : 0 < u := by omega
    go_enter Tryz.func58, Tryz.ntmps58
    go_wp2_with fail
    refine hd.mono ?_
    rintro e w1 ⟨rfl, rfl⟩
    clear hd
    go_wp2_with fail
    go_ret
    exact ⟨by rw [show (45 :: R : By) = [45] ++ R from rfl, ← ba_app]; rfl, rfl⟩
  · obtain ⟨u, rfl⟩ := Int.eq_ofNat_of_zero_le (show 0 ≤ n by omega)
    rw [itoaR_pos _ hn]
    have hd := digits_any u (by omega) w
    have d1 : decide ((u : Int) < 0) = false := decide_eq_false hn
    have hu9 : u ≤ 9223372036854775807 := by omega
    rw [show ((u : Int)).toNat = u from rfl]
    obtain ⟨R, hR⟩ : ∃ R, R = Lib.decDigits u := ⟨_, rfl⟩
    rw [← hR] at hd ⊢
    clear hR
    go_enter Tryz.func58, Tryz.ntmps58
    go_wp2_with fail
    refine hd.mono ?_
    rintro e w1 ⟨rfl, rfl⟩
    clear hd
    go_wp2_with fail
    go_ret
    exact ⟨rfl, rfl⟩
end Go.Proofs.YtpcdbkaeijhmfaaGreatDoor
namespace Go.Proofs.YtpcdbkaeijhmfaaGreatDoor
set_option maxRecDepth 100000
set_option linter.unusedVariables false
set_option linter.unusedSimpArgs false
open Go.RowKit
attribute [local go_sem] Oper.semAt_some
set_option maxHeartbeats 3200000 in
theorem sameT_any (K : Nat → Prop) (v v' : Value) (l l' : List By) (w : World) (h : TxS w K v l) (h' : TxS w K v' l') (hl : l.length ≤ 1000000) :
    Calls Tryz.prog 20 #[v, v'] w fun e w' => e = .returned (.bool (decide (l = l'))) ∧ ∃ q, w' = w.drewN q := by
  obtain ⟨A, c, rfl, hn1, hn2⟩ := h.form
  obtain ⟨A', c', rfl, hn1', hn2'⟩ := h'.form
  obtain ⟨n, hn⟩ : ∃ n, n = l.length := ⟨_, rfl⟩
  obtain ⟨n', hn'⟩ : ∃ n, n = l'.length := ⟨_, rfl⟩
  have hnm : n ≤ 1000000 := by omega
  have hnm' : n' ≤ 9223372036854775807 := by omega
  obtain ⟨R, hR⟩ : ∃ R, R = decide (l = l') := ⟨_, rfl⟩
  rw [← hR]
  rw [← hn] at h ⊢
  rw [← hn'] at h' ⊢
  have H := Lib.hid (And.intro h (And.intro h' (And.intro hn (And.intro hn' hR))))
  clear h h' hn1 hn2 hn1' hn2' hR hl
  by_cases hnn : n = n'
  · subst hnn
    have hne : ((n : Int) != (n : Int)) = false := by simp
    clear hn hn'
    go_enter Tryz.func20, Tryz.ntmps20
    go_wp2_with fail
    go_loopw [5] (fun i wr => ∃ k : Nat, k ≤ n ∧ i = .int .i64 k ∧ (∃ q, wr = w.drewN q) ∧ Hid (l.take k = l'.take k)) (fun i _ => n - (intOf i).toNat)
    case atStart => exact ⟨0, Nat.zero_le _, rfl, ⟨0, rfl⟩, Lib.hid (by simp)⟩
    case round =>
      obtain ⟨k, hk, rfl, ⟨q0, rfl⟩, hT⟩ := hrel
      obtain ⟨h, h', hn, hn', hR⟩ := H.out
      by_cases hlt : k < n
      · have hkx : k < l.length := by omega
        have hky : k < l'.length := by omega
        obtain ⟨u, g, o, rfl, hKg, hc, hu⟩ := h.at_ k hkx
        obtain ⟨u', g', o', rfl, hKg', hc', hu'⟩ := h'.at_ k hky
        have e1 : ∀ m, (convert 34 9 u).run Tryz.prog (w.drewN m) = .ok (.string ⟨(l[k]).toArray⟩) (w.drewN m) := fun m => run_conv (P := Tryz.prog) Tryz.underlying34 Tryz.underlying5 Tryz.underlying9 (hu.kept (w' := w.drewN m) fun _ _ => rfl)
        have e2 : ∀ m, (convert 34 9 u').run Tryz.prog (w.drewN m) = .ok (.string ⟨(l'[k]).toArray⟩) (w.drewN m) := fun m => run_conv (P := Tryz.prog) Tryz.underlying34 Tryz.underlying5 Tryz.underlying9 (hu'.kept (w' := w.drewN m) fun _ _ => rfl)
        obtain ⟨B, m1, d, rfl, -⟩ := id hu
        obtain ⟨B', m2, d', rfl, -⟩ := id hu'
        have hst := str_eq' l[k] l'[k]
        obtain ⟨z, hz⟩ : ∃ z, z = decide (l[k] = l'[k]) := ⟨_, rfl⟩
        rw [← hz] at hst
        generalize (⟨(l[k]).toArray⟩ : ByteArray) = S1 at *
        generalize (⟨(l'[k]).toArray⟩ : ByteArray) = S2 at *
        have H1 := Lib.hid (show ∃ (a : k < l.length) (b : k < l'.length), l.take k = l'.take k ∧ R = decide (l = l') ∧ z = decide (l[k] = l'[k]) ∧ k < n from ⟨hkx, hky, hT.out, hR, hz, hlt⟩)
        clear h h' hn hn' hR hkx hky hKg hKg' hu hu' hz hT
        cases z with
        | true =>
          have hbne : (S1.toList != S2.toList) = false := by rw [bne, hst]; rfl
          go_wp2_with fail
          go_quiet (fail)
          rename_i nq
          obtain ⟨hkx, hky, hT, hR, hz, hlt⟩ := H1.out
          have Ht := Lib.hid (take_same hkx hky hT (of_decide_eq_true hz.symm))
          clear hkx hky hT hR hz e1 e2 hst hbne
          go_wp2_with fail
          go_roundw
          case rel => exact ⟨k + 1, by omega, by go_num, ⟨q0 + nq, rfl⟩, Ht⟩
          case measure => simp [intOf]; omega
        | false =>
          have hbne : (S1.toList != S2.toList) = true := by rw [bne, hst]; rfl
          go_wp2_with fail
          go_quiet (fail)
          rename_i nq
          obtain ⟨hkx, hky, hT, hR, hz, hlt⟩ := H1.out
          have Hn := Lib.hid (show R = false by rw [hR]; exact decide_eq_false (take_ne hkx hky (of_decide_eq_false hz.symm)))
          clear hkx hky hT hR hz e1 e2 hst hbne
          go_wp2_with fail
          go_ret
          exact ⟨by rw [Hn.out]; rfl, q0 + nq, by first | rfl | rw [World.drewN_drewN]⟩
      · obtain rfl : k = n := by omega
        have He := Lib.hid (show R = true by
          rw [hR]
          refine decide_eq_true ?_
          have := hT.out
          rwa [List.take_of_length_le (by omega), List.take_of_length_le (by omega)] at this)
        clear h h' hn hn' hR
        go_wp2_with fail
        go_ret
        exact ⟨by rw [He.out]; rfl, q0, rfl⟩
  · have hne : ((n : Int) != (n' : Int)) = true := by simp; omega
    have Hn := Lib.hid (show R = false by
      obtain ⟨h, h', hn, hn', hR⟩ := H.out
      rw [hR]; exact decide_eq_false fun e => hnn (by rw [hn, hn', e]))
    clear hn hn' hnn
    go_enter Tryz.func20, Tryz.ntmps20
    go_wp2_with fail
    go_ret
    exact ⟨by rw [Hn.out]; rfl, 0, rfl⟩
end Go.Proofs.YtpcdbkaeijhmfaaGreatDoor
