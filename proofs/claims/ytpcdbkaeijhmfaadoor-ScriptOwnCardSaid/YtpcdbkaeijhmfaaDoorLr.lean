/- The document's lines; its lists of texts, the same. -/
import Derived.Test.YtpcdbkaeijhmfaaDoorEq
import Derived.Test.YtpcdbkaeijhmfaaDoorSl
import Derived.Test.YtpcdbkaeijhmfaaDoorInts
import Derived.Laws.DeepStrings4
namespace Go.Proofs.YtpcdbkaeijhmfaaDoor
set_option maxRecDepth 100000
set_option linter.unusedVariables false
set_option linter.unusedSimpArgs false
open Go.RowKit
attribute [local go_sem] Oper.semAt_some
theorem run_mid {P : Program} {t : TypeId} (ht : P.underlying t = some .string) (l : By) (i j : Nat) (hij : i ≤ j) (hj : j ≤ l.length) (w : World) : (Instr.slice t (.string (ba l)) (some (.int .i64 i)) (some (.int .i64 j)) none).run P w = .ok (.string (ba ((l.take j).drop i))) w := by
  rw [run_slice_string_if w t (ba l) .i64 .i64 (i : Int) (j : Int) ht, if_pos ⟨by omega, by rw [ba_size]; omega⟩, if_pos ⟨by omega, by omega⟩, ba_extract]
  simp
theorem take_drop_snoc (t : By) (i k : Nat) (c : UInt8) (h : t[k]? = some c) (hi : i ≤ k) : (t.take (k + 1)).drop i = (t.take k).drop i ++ [c] := by
  obtain ⟨hk, rfl⟩ := List.getElem?_eq_some_iff.1 h
  rw [List.take_succ_eq_append_getElem hk, List.drop_append_of_le_length (by simp; omega)]
theorem linesGo_step (cur t : By) (k : Nat) (c : UInt8) (h : t[k]? = some c) : linesGo cur (t.drop k) = if c = 10 then cur :: linesGo [] (t.drop (k + 1)) else linesGo (cur ++ [c]) (t.drop (k + 1)) := by
  obtain ⟨hk, rfl⟩ := List.getElem?_eq_some_iff.1 h
  rw [List.drop_eq_getElem_cons hk]
  rfl
def LinesPost (t : By) (w : World) (e : Ending) (w' : World) : Prop := ∃ A c, e = .returned (.slice A (linesB t).length c) ∧ w'.ownsRow w.heap.size 9 1 (.slice A (linesB t).length c) (linesB t).length (svb (linesB t)) ∧ Frm (fun _ => False) w w'
set_option maxHeartbeats 3200000 in
theorem linesR_any (t : By) (w : World) (ht : t.length ≤ 1000000) : Calls Tryd.prog 13 #[.string (ba t)] w (LinesPost t w) := by
  obtain ⟨n, hn⟩ : ∃ n, n = t.length := ⟨_, rfl⟩
  have hsz : (ba t).size = n := hn.symm
  have Hat := Lib.hid (And.intro (run_at (P := Tryd.prog) Tryd.underlying9 t) (And.intro (run_mid (P := Tryd.prog) Tryd.underlying9 t) (run_from (P := Tryd.prog) Tryd.underlying9 t)))
  have Hn := Lib.hid hn
  have hn9 : n ≤ 1000000 := by omega
  generalize ba t = S at *
  clear hn ht
  go_enter Tryd.func13, Tryd.ntmps13
  go_wp2_with fail
  go_loopw [3, 4, 5] (fun o fr i wr => ∃ k m : Nat, k ≤ n ∧ m ≤ k ∧ i = .int .i64 k ∧ fr = .int .i64 m ∧ Hid (∃ ls, LI w ls o wr ∧ linesB t = ls ++ linesGo ((t.take k).drop m) (t.drop k) ∧ ls.length ≤ k)) (fun _ _ i _ => n - (intOf i).toNat)
  case atStart => exact ⟨0, 0, Nat.zero_le _, Nat.le_refl _, rfl, rfl, Lib.hid ⟨[], LI.nil w, by simp [linesB], Nat.zero_le _⟩⟩
  case round =>
    obtain ⟨k, m, hk, hm, rfl, rfl, hT⟩ := hrel
    obtain ⟨ls, hLI, hls, hll⟩ := hT.out
    by_cases hlt : k < n
    · obtain ⟨c, hc⟩ : ∃ c, t[k]? = some c := ⟨_, List.getElem?_eq_getElem (by have := Hn.out; omega)⟩
      have hat := Hat.out.1 k c hc
      have hmid := Hat.out.2.1 m k hm (by have := Hn.out; omega)
      have hst := linesGo_step ((t.take k).drop m) t k c hc
      have hsn := take_drop_snoc t m k c hc hm
      have H1 := Lib.hid (And.intro hLI (And.intro hls (And.intro hll (And.intro hst (And.intro hsn hlt)))))
      have hk0 : (0 : Int) ≤ k := by omega
      have hm0 : (0 : Int) ≤ m := by omega
      obtain ⟨x, hx⟩ : ∃ x, x = (t.take k).drop m := ⟨_, rfl⟩
      rw [← hx] at hmid
      have Hx := Lib.hid hx
      clear hT hLI hls hst hsn hc hx
      by_cases h10 : c = 10
      · subst h10
        have hat : ∀ w, (Instr.index 9 (.string S) (.int .i64 k)).run Tryd.prog w = .ok (.int .u8 10) w := hat
        obtain ⟨T, hT⟩ : ∃ T, T = ba x := ⟨_, rfl⟩
        rw [← hT] at hmid
        have HT := Lib.hid hT
        clear hT
        go_wp2_with (at_builtin; go_loud (refine wpList_li (by rfl) _ _ (by rfl) ls [x] (H1.out.1.step ((Frm.refl (fun _ => False) wr).alloc _)) (by rfl) (by rfl) (K := fun q => q = wr.heap.size) (by rw [HT.out]; exact Sl.blk1 wr _ _) (by simp; omega) ?_); go_loud (intro v6 w6 h6))
        have H6 := Lib.hid h6
        clear h6 hat hmid
        go_wp2_with fail
        go_roundw
        case rel => exact ⟨k + 1, k + 1, by omega, Nat.le_refl _, by go_num, by go_num, Lib.hid ⟨ls ++ [x], H6.out, by
          rw [H1.out.2.1, H1.out.2.2.2.1, if_pos rfl, Hx.out, List.append_assoc]
          rw [show (t.take (k + 1)).drop (k + 1) = [] by simp]
          rfl, by simp; omega⟩⟩
        case measure => simp [intOf]; omega
      · have g10 : ((c.toNat : Int) == 10) = false := by
          simp only [beq_eq_false_iff_ne, ne_eq]
          intro h
          exact h10 (UInt8.toNat_inj.1 (show c.toNat = 10 by omega))
        have Hc := Lib.hid h10
        clear h10 hmid
        go_wp2_with fail
        go_roundw
        case rel => exact ⟨k + 1, m, by omega, by omega, by go_num, by first | rfl | trivial, Lib.hid ⟨ls, H1.out.1, by
          rw [H1.out.2.1, H1.out.2.2.2.1, if_neg Hc.out, H1.out.2.2.2.2.1], by omega⟩⟩
        case measure => simp [intOf]; omega
    · obtain rfl : k = n := by omega
      have hfr := Hat.out.2.2 m (by have := Hn.out; omega)
      rw [show t.take k = t from List.take_of_length_le (by have := Hn.out; omega), show t.drop k = [] from List.drop_of_length_le (by have := Hn.out; omega)] at hls
      have hcur : linesGo (t.drop m) [] = if t.drop m = [] then [] else [t.drop m] := by unfold linesGo; rfl
      rw [hcur] at hls
      have hm0 : (0 : Int) ≤ m := by omega
      by_cases hmk : m < k
      · rw [if_neg (by intro e; have := congrArg List.length e; simp at this; have := Hn.out; omega)] at hls
        obtain ⟨T, hT⟩ : ∃ T, T = ba (t.drop m) := ⟨_, rfl⟩
        rw [← hT] at hfr
        have H1 := Lib.hid (And.intro hLI (And.intro hls (And.intro hll hT)))
        clear hT hLI hls
        rename_i hT
        clear hT
        go_wp2_with (at_builtin; go_loud (refine wpList_li (by rfl) _ _ (by rfl) ls [t.drop m] (H1.out.1.step ((Frm.refl (fun _ => False) wr).alloc _)) (by rfl) (by rfl) (K := fun q => q = wr.heap.size) (by rw [H1.out.2.2.2]; exact Sl.blk1 wr _ _) (by simp; omega) ?_); go_loud (intro v6 w6 h6))
        rw [← H1.out.2.1] at h6
        have H6 := Lib.hid h6
        clear h6 hfr
        go_wp2_with fail
        go_ret
        obtain ⟨A, c, e⟩ := H6.out.form
        have h := H6.out
        rw [e] at h ⊢
        exact ⟨A, c, rfl, h.1, h.2⟩
      · rw [if_pos (by rw [List.drop_eq_nil_iff]; have := Hn.out; omega), List.append_nil] at hls
        rw [← hls] at hLI
        have H1 := Lib.hid hLI
        clear hLI hls hfr hT
        go_wp2_with fail
        go_ret
        obtain ⟨A, c, e⟩ := H1.out.form
        have h := H1.out
        rw [e] at h ⊢
        exact ⟨A, c, rfl, h.1, h.2⟩
end Go.Proofs.YtpcdbkaeijhmfaaDoor
