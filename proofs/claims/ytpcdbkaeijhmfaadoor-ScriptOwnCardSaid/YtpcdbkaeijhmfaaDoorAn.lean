/- script: answers. -/
import Derived.Test.YtpcdbkaeijhmfaaDoorLi
namespace Go.Proofs.YtpcdbkaeijhmfaaDoor
set_option maxRecDepth 100000
set_option linter.unusedVariables false
set_option linter.unusedSimpArgs false
open Go.RowKit
theorem infoBo : (Tryd.prog.info? 4).map (fun i => (i.zero, i.size, i.bytes)) = some (some (.bool false), 1, 1) := by kernel_rfl
theorem answB_step (st : St) (ws : List By) (k : Nat) (x : By) (h : ws[k]? = some x) : answB st (ws.drop k) = if x = bs "yes" then answB { st with answers := st.answers ++ [true] } (ws.drop (k + 1)) else if x = bs "no" then answB { st with answers := st.answers ++ [false] } (ws.drop (k + 1)) else none := by
  obtain ⟨hk, he⟩ := List.getElem?_eq_some_iff.1 h
  rw [List.drop_eq_getElem_cons hk, he, answB]
theorem str_ne (x y : By) : ((ba x).toList == y) = decide (x = y) := by rw [ba_toList, Bool.eq_iff_iff, beq_iff_eq, decide_eq_true_iff]
/-- An answer more. -/
theorem StO.answer {w w3 : World} {b : Nat} {st : St} {wv rv av pv : Value} {x : Bool} {A' : Option Addr} {c' : Nat} (hb : Blk w b 60 (stCells st wv rv av pv)) (h : Lsts w (b + 1) st wv rv av pv) (hF : Frm (fun q => av.ownBlock = some q) w w3) (ho : w3.ownsRow (b + 1) 4 1 (.slice A' (st.answers.length + 1) c') (st.answers.length + 1) (bvs st.answers ++ [.bool x])) :
    StO (w3.setCell ⟨b, 11, none⟩ (.slice A' (st.answers.length + 1) c')) b { st with answers := st.answers ++ [x] } := by
  have hb3 := hb.kept hF fun hk => own_blk_ne h.answers hb (by decide) hk
  have hna : ∀ q cs, Blk w q 5 cs → ¬ av.ownBlock = some q := fun q cs hc hk => own_blk_ne h.answers hc (by decide) hk
  have hw3 := h.words.kept hF (fun q hq hk => by obtain ⟨vs, k1, -⟩ := h.words; exact own_apart k1 h.answers (by decide) hk hq) hna
  have hr3 := h.reads.kept hF (fun q hq hk => by obtain ⟨vs, k1, -⟩ := h.reads; exact own_apart k1 h.answers (by decide) hk hq) hna
  have hp3 := hF.own h.picks fun q hq hk => own_apart h.picks h.answers (by decide) hk hq
  have hF4 : Frm (fun q => q = b) w3 (w3.setCell ⟨b, 11, none⟩ (.slice A' (st.answers.length + 1) c')) := (Frm.refl (fun q => q = b) w3).setCell ⟨b, 11, none⟩ (.inl rfl) _
  refine ⟨wv, rv, _, pv, hb3.set_ 11 _, hw3.set_ hb3 (by decide) (by decide), hr3.set_ hb3 (by decide) (by decide), ?_, hF4.own hp3 fun q hq e => own_blk_ne hp3 hb3 (by decide) (by rw [hq, e]), h.apart⟩
  have h5 := hF4.own ho fun q hq e => own_blk_ne ho hb3 (by decide) (by rw [hq, e])
  simpa [bvs] using h5
set_option maxHeartbeats 1600000 in
theorem answers_any (b : Nat) (st : St) (A : Option Addr) (n c : Nat) (ws : List By) (w : World) (hst : StO w b st) (h : SAt w (KS w) A n c ws) (hl : st.answers.length + ws.length ≤ 1000000) :
    Calls Tryd.prog 46 #[.pointer (some ⟨b, 0, none⟩), .slice A n c] w (LinePost b (if ws = [] then none else answB st ws) w) := by
  obtain ⟨i0, hi, hz0, hz1, hz2⟩ := info_parts infoBo
  obtain ⟨hn, hnc, hcm⟩ := h.len
  obtain ⟨o, ho⟩ : ∃ o, o = if ws = [] then none else answB st ws := ⟨_, rfl⟩
  rw [← ho]
  have hn9 : n ≤ 1000000 := by omega
  have H := Lib.hid (And.intro hst (And.intro h (And.intro hl (And.intro hn ho))))
  clear hst h hl hn ho
  go_enter Tryd.func46, Tryd.ntmps46
  go_wp2_with fail
  go_loopw [9] (fun i wr => ∃ k : Nat, k ≤ n ∧ i = .int .i64 k ∧ Hid (∃ s1, StO wr b s1 ∧ answB st ws = answB s1 (ws.drop k) ∧ s1.answers.length ≤ st.answers.length + k ∧ StT b w wr ∧ SAt wr (KS wr) A n c ws)) (fun i _ => n - (intOf i).toNat)
  case atStart => exact ⟨0, Nat.zero_le _, rfl, Lib.hid ⟨st, H.out.1, by simp, by omega, StT.refl _ _, H.out.2.1⟩⟩
  case round =>
    obtain ⟨k, hk, rfl, hT⟩ := hrel
    by_cases hlt : k < n
    · obtain ⟨s1, hs1, hb1, hl1, hT1, hS1⟩ := hT.out
      obtain ⟨x, g, o', hx, hxl, rfl, hg, hc0⟩ := hS1.at_ k hlt
      have hs := answB_step s1 ws k x hx
      have hws : ws ≠ [] := by have := H.out.2.2.2.1; intro e; subst e; simp at this; omega
      have g0 := str_ne x [121, 101, 115]
      have g1 := str_ne x [110, 111]
      obtain ⟨wv, rv, av, pv, hB, hL⟩ := hs1
      obtain ⟨A5, c5, e5, -, -⟩ := own_form hL.answers
      subst e5
      obtain ⟨m, hm⟩ : ∃ m, m = s1.answers.length := ⟨_, rfl⟩
      have hca : wr.cell? ⟨b, 11, none⟩ = some (.slice A5 m c5) := by rw [hm]; exact hB.cell 11
      have hfz := hB.frozen 11
      have hm9 : m + 1 ≤ 1000001 := by have := H.out.2.2.1; have := H.out.2.2.2.1; omega
      have HA := Lib.hid (And.intro hB (And.intro hL (And.intro hb1 (And.intro hl1 (And.intro hT1 (And.intro hS1 (And.intro hm (And.intro hs hws))))))))
      clear hB hL hb1 hl1 hT1 hS1 hm hs hws hT hx hg
      by_cases hyes : x = bs "yes"
      · rw [decide_eq_true (show x = [121, 101, 115] from hyes)] at g0
        have Hs := Lib.hid (show answB s1 (ws.drop k) = answB { s1 with answers := s1.answers ++ [true] } (ws.drop (k + 1)) by
          rw [HA.out.2.2.2.2.2.2.2.1]; exact if_pos hyes)
        clear hyes
        generalize ba x = S at *
        go_wp2_with (at_builtin; go_loud (refine wpList_append_sl (by rfl) _ _ 25 (by rfl) (b + 1) 4 i0 (.bool false) 1 Tryd.underlying25 hi hz0 hz1 hz2 (by rfl) (.slice A5 m c5) m _ (by rfl) (((Frm.refl (fun _ => False) wr).alloc _).own (by have := HA.out.2.1.answers; rw [← HA.out.2.2.2.2.2.2.1] at this; exact this) fun _ _ => id) (fun q => q = wr.heap.size) _ [.bool true] (by rfl) (Sl.blk1 wr _ _) (by intro u hu; rw [List.mem_singleton.1 hu]; rfl) (by unfold maxLen; simp; omega) (by simp; omega) (by have := HA.out.1.lt; simp; omega) ?_); go_loud (intro A6 N6 c6 w6 HN hNc hc6 hown hg hat; have hF6 : Frm (fun q => (Value.slice A5 m c5).ownBlock = some q) wr w6 := ((Frm.refl (fun q => (Value.slice A5 m c5).ownBlock = some q) wr).alloc _).grown hg fun q hq => .inl hq; have hb6 := HA.out.1.kept hF6 (fun hk => own_blk_ne (by have := HA.out.2.1.answers; rw [← HA.out.2.2.2.2.2.2.1] at this; exact this) HA.out.1 (by decide) hk); have hz6 := hb6.frozen 11; have hc11 := hb6.cell 11; have H6 := Lib.hid (And.intro hown (And.intro hF6 (And.intro hat HN))); clear hown hg hat hF6 hb6))
        go_wp2_with fail
        go_roundw
        case rel =>
          obtain ⟨hown, hF6, hat, HN⟩ := H6.out
          obtain ⟨hB, hL, hb1, hl1, hT1, hS1, hm, hs, hws⟩ := HA.out
          obtain rfl : N6 = m + 1 := HN.out
          subst hm
          have hT2 : StT b wr (w6.setCell ⟨b, 11, none⟩ (.slice A6 (s1.answers.length + 1) c6)) := StT.turn (v := .slice A5 s1.answers.length c5) (.inr (.inr (.inl rfl))) hB rfl hF6 (fun hk => own_blk_ne hL.answers hB (by decide) hk) (hat.imp id fun h q hq => by rw [h] at hq; cases hq; simp)
          exact ⟨k + 1, by omega, by go_num, Lib.hid ⟨_, StO.answer (x := true) hB hL hF6 hown, by rw [hb1, Hs.out], by simp; omega, hT1.trans hT2, KS.keepT hS1 ⟨_, _, _, _, hB, hL⟩ hT2⟩⟩
        case measure => simp [intOf]; omega
      · rw [decide_eq_false (show ¬ x = [121, 101, 115] from hyes)] at g0
        by_cases hno : x = bs "no"
        · rw [decide_eq_true (show x = [110, 111] from hno)] at g1
          have Hs := Lib.hid (show answB s1 (ws.drop k) = answB { s1 with answers := s1.answers ++ [false] } (ws.drop (k + 1)) by
            rw [HA.out.2.2.2.2.2.2.2.1]; rw [if_neg hyes]; exact if_pos hno)
          clear hyes hno
          generalize ba x = S at *
          go_wp2_with (at_builtin; go_loud (refine wpList_append_sl (by rfl) _ _ 25 (by rfl) (b + 1) 4 i0 (.bool false) 1 Tryd.underlying25 hi hz0 hz1 hz2 (by rfl) (.slice A5 m c5) m _ (by rfl) (((Frm.refl (fun _ => False) wr).alloc _).own (by have := HA.out.2.1.answers; rw [← HA.out.2.2.2.2.2.2.1] at this; exact this) fun _ _ => id) (fun q => q = wr.heap.size) _ [.bool false] (by rfl) (Sl.blk1 wr _ _) (by intro u hu; rw [List.mem_singleton.1 hu]; rfl) (by unfold maxLen; simp; omega) (by simp; omega) (by have := HA.out.1.lt; simp; omega) ?_); go_loud (intro A6 N6 c6 w6 HN hNc hc6 hown hg hat; have hF6 : Frm (fun q => (Value.slice A5 m c5).ownBlock = some q) wr w6 := ((Frm.refl (fun q => (Value.slice A5 m c5).ownBlock = some q) wr).alloc _).grown hg fun q hq => .inl hq; have hb6 := HA.out.1.kept hF6 (fun hk => own_blk_ne (by have := HA.out.2.1.answers; rw [← HA.out.2.2.2.2.2.2.1] at this; exact this) HA.out.1 (by decide) hk); have hz6 := hb6.frozen 11; have hc11 := hb6.cell 11; have H6 := Lib.hid (And.intro hown (And.intro hF6 (And.intro hat HN))); clear hown hg hat hF6 hb6))
          go_wp2_with fail
          go_roundw
          case rel =>
            obtain ⟨hown, hF6, hat, HN⟩ := H6.out
            obtain ⟨hB, hL, hb1, hl1, hT1, hS1, hm, hs, hws⟩ := HA.out
            obtain rfl : N6 = m + 1 := HN.out
            subst hm
            have hT2 : StT b wr (w6.setCell ⟨b, 11, none⟩ (.slice A6 (s1.answers.length + 1) c6)) := StT.turn (v := .slice A5 s1.answers.length c5) (.inr (.inr (.inl rfl))) hB rfl hF6 (fun hk => own_blk_ne hL.answers hB (by decide) hk) (hat.imp id fun h q hq => by rw [h] at hq; cases hq; simp)
            exact ⟨k + 1, by omega, by go_num, Lib.hid ⟨_, StO.answer (x := false) hB hL hF6 hown, by rw [hb1, Hs.out], by simp; omega, hT1.trans hT2, KS.keepT hS1 ⟨_, _, _, _, hB, hL⟩ hT2⟩⟩
          case measure => simp [intOf]; omega
        · rw [decide_eq_false (show ¬ x = [110, 111] from hno)] at g1
          have Hs := Lib.hid (show o = none by
            rw [H.out.2.2.2.2, if_neg HA.out.2.2.2.2.2.2.2.2, HA.out.2.2.1, HA.out.2.2.2.2.2.2.2.1, if_neg hyes, if_neg hno])
          clear hyes hno
          generalize ba x = S at *
          go_wp2_with fail
          go_ret
          exact LinePost.no Hs.out HA.out.2.2.2.2.1
    · obtain rfl : k = n := by omega
      obtain ⟨s1, hs1, hb1, hl1, hT1, hS1⟩ := hT.out
      have hkd := H.out.2.2.2.1
      rw [List.drop_of_length_le (by omega)] at hb1
      by_cases h0 : k = 0
      · have Hs := Lib.hid (show o = none by rw [H.out.2.2.2.2, if_pos (List.eq_nil_of_length_eq_zero (by omega))])
        have HA := Lib.hid hT1
        subst h0
        clear hs1 hb1 hl1 hT1 hS1 hkd
        go_wp2_with fail
        go_ret
        exact LinePost.no Hs.out HA.out
      · have Hs := Lib.hid (show o = some s1 by rw [H.out.2.2.2.2, if_neg (fun e => h0 (by rw [hkd, e]; rfl)), hb1]; rfl)
        have HA := Lib.hid (And.intro hT1 hs1)
        have g0 : decide ((0 : Int) < (k : Int)) = true := by simp; omega
        have g1 : decide (0 < k) = true := by simp; omega
        clear hs1 hb1 hl1 hT1 hS1 hkd h0
        go_wp2_with fail
        go_ret
        exact LinePost.yes Hs.out HA.out.1 HA.out.2
end Go.Proofs.YtpcdbkaeijhmfaaDoor
