/- script: (*story).line. -/
import Derived.Test.YtpcdbkaeijhmfaaGreatDoorGE
namespace Go.Proofs.YtpcdbkaeijhmfaaGreatDoor
set_option maxRecDepth 100000
set_option linter.unusedVariables false
set_option linter.unusedSimpArgs false
open Go.RowKit Go.Shelf
set_option maxRecDepth 100000 in
set_option maxHeartbeats 8000000 in
theorem line_any (b : Nat) (st : St) (t : By) (w : World) (hst : StO w b st) (ht : t.length ≤ 400000) (hl : totS st ≤ 500000) :
    Calls Tryz.prog 17 #[.pointer (some ⟨b, 0, none⟩), .string (ba t)] w (LinePost b (sayB st t) w) := by
  have hwa := wordsB_all t
  have hco := collect_any t w (by omega)
  have hwo := words_any t w
  unfold WordsPost at hco
  unfold sayB
  generalize wordsB t = ws at *
  generalize ba t = T at *
  have hbl := hst.lt
  obtain ⟨o, ho⟩ : ∃ o, o = sayW st ws := ⟨_, rfl⟩
  rw [← ho]
  have Hco := Lib.hid (And.intro hwo hco)
  have H := Lib.hid (And.intro hst (And.intro hwa (And.intro hl ht)))
  clear hco hwo hst hwa hl ht
  go_enter Tryz.func17, Tryz.ntmps17
  go_wp2_with fail
  refine Hco.out.1.mono ?_
  rintro e w1 ⟨rfl, rfl⟩
  go_wp2_with fail
  refine Hco.out.2.mono ?_
  rintro e w2 ⟨A, c, rfl, hS, hF⟩
  have hst2 := H.out.1.keptF hF
  have hT2 : StT b w w2 := StT.of_frm hF hbl
  cases ws with
  | nil =>
    have Ho := Lib.hid (show o = some st from ho)
    have HE := Lib.hid (And.intro hT2 hst2)
    clear hS hF hst2 hT2 ho
    go_wp2_with fail
    go_ret
    exact LinePost.yes Ho.out HE.out.1 HE.out.2
  | cons x r =>
    obtain ⟨n, hn⟩ : ∃ n, n = r.length := ⟨_, rfl⟩
    have hn1 : (x :: r).length = n + 1 := by rw [hn]; rfl
    rw [hn1] at hS ⊢
    obtain ⟨x', g, p, hx, hxl, rfl, hg, hc0⟩ := hS.at_ 0 (by omega)
    obtain rfl : x = x' := by simpa using hx
    rw [Nat.add_zero] at hc0
    obtain ⟨d, y, rfl⟩ : ∃ d y, x = d :: y := by
      cases x with
      | nil => exact absurd rfl ((H.out.2.1.1 [] (by simp)).1)
      | cons d y => exact ⟨d, y, rfl⟩
    have hi0 : ∀ w, (Instr.index 9 (.string (ba (d :: y))) (.int .i64 0)).run Tryz.prog w = .ok (.int .u8 d.toNat) w := run_at (P := Tryz.prog) Tryz.underlying9 (d :: y) 0 d rfl
    have hsz : (ba (d :: y)).size = y.length + 1 := rfl
    obtain ⟨z, hz⟩ : ∃ z, z = y.length + 1 := ⟨_, rfl⟩
    rw [← hz] at hsz
    have hz1 : 1 ≤ z := by omega
    have hlen := hS.len
    have hn9 : n ≤ 400000 := by have := H.out.2.1.2; have := H.out.2.2.2; rw [hn1] at *; omega
    have hdr := run_dropS (some ⟨g, p, none⟩) (n + 1) c (by omega)
    obtain ⟨A2, hA2⟩ : ∃ A2, A2 = if c = 1 then some (⟨g, p, none⟩ : Addr) else (some (⟨g, p, none⟩ : Addr)).map (·.add 1) := ⟨_, rfl⟩
    rw [← hA2, Nat.add_sub_cancel] at hdr
    have htl := hS.tail
    rw [← hA2, Nat.add_sub_cancel] at htl
    have hcn : n ≤ c - 1 := by omega
    have HE := Lib.hid (And.intro hT2 (And.intro hst2 (And.intro htl (And.intro hn (And.intro hlen hz)))))
    obtain ⟨hlen1, hlen2, hlen3⟩ := hlen
    clear hS hF hst2 hT2 hx hg htl hn hz hA2 hn1 hlen1 hxl
    by_cases h35 : d = 35
    · have Ho := Lib.hid (show o = some st by rw [ho]; unfold sayW; simp only; rw [if_pos (by rw [h35]; rfl)])
      subst h35
      have hi0 : ∀ w, (Instr.index 9 (.string (ba (35 :: y))) (.int .i64 0)).run Tryz.prog w = .ok (.int .u8 35) w := hi0
      clear ho
      generalize ba (35 :: y) = S at *
      go_wp2_with fail
      go_ret
      exact LinePost.yes Ho.out HE.out.1 HE.out.2.1
    · have g35 : ((d.toNat : Int) == 35) = false := by
        simp only [beq_eq_false_iff_ne, ne_eq]
        intro h
        exact h35 (UInt8.toNat_inj.1 (show d.toNat = 35 by omega))
      have hn35 : ¬ (d :: y).head? = some 35 := by simpa using h35
      unfold sayW at ho
      simp only at ho
      rw [if_neg hn35] at ho
      have g0 := str_ne (d :: y) [102, 111, 108, 100]
      have g1 := str_ne (d :: y) [98, 114, 111, 107, 101, 110]
      have g2 := str_ne (d :: y) [119, 111, 114, 100]
      have g3 := str_ne (d :: y) [114, 101, 97, 100]
      have g4 := str_ne (d :: y) [97, 110, 115, 119, 101, 114, 115]
      have g5 := str_ne (d :: y) [112, 108, 97, 110]
      clear h35 hn35
      generalize hX : d :: y = X at *
      clear hX
      by_cases h0 : X = [102, 111, 108, 100]
      · rw [if_pos (show X = bs "fold" from h0)] at ho
        rw [decide_eq_true h0] at g0
        clear g1 g2 g3 g4 g5
        clear h0
        cases r with
        | nil =>
          have Ho := Lib.hid (show o = some { st with fold := true } by rw [ho]; rfl)
          have h0n : n = 0 := HE.out.2.2.2.1
          subst h0n
          obtain ⟨wv, rv, av, pv, hB, hL⟩ := HE.out.2.1
          have fz := hB.frozen 0
          have ec := hB.cell 0
          have HB := Lib.hid (And.intro hB hL)
          have hbw := hB.lt
          clear ho hB hL
          generalize ba X = S at *
          go_wp2_with fail
          go_ret
          exact (sets_yes (st' := { st with fold := true }) Ho.out (Frm.refl _ w2) HB.out.1 HB.out.2 [(0, .bool true)] (by unfold lst4; simp) ⟨rfl, rfl, rfl, rfl⟩ rfl).first HE.out.1
        | cons x1 r1 =>
          have Ho := Lib.hid (show o = none by rw [ho]; rfl)
          have h0n : 1 ≤ n := by rw [HE.out.2.2.2.1]; simp
          have g9 : ((n : Int) == 0) = false := by simp; omega
          obtain ⟨wv, rv, av, pv, hB, hL⟩ := HE.out.2.1
          have fz := hB.frozen 0
          have ec := hB.cell 0
          have HB := Lib.hid (And.intro hB hL)
          clear ho hB hL
          generalize ba X = S at *
          go_wp2_with fail
          go_ret
          exact LinePost.no Ho.out (HE.out.1.trans (StT.cell (by unfold lst4; simp) HB.out.1))
      · rw [if_neg (show ¬ X = bs "fold" from h0)] at ho
        rw [decide_eq_false h0] at g0
        by_cases h1 : X = [98, 114, 111, 107, 101, 110]
        · rw [if_pos (show X = bs "broken" from h1)] at ho
          rw [decide_eq_true h1] at g1
          clear g2 g3 g4 g5
          clear h0 h1
          cases r with
          | nil =>
            have Ho := Lib.hid (show o = some { st with broken := true } by rw [ho]; rfl)
            have h0n : n = 0 := HE.out.2.2.2.1
            subst h0n
            obtain ⟨wv, rv, av, pv, hB, hL⟩ := HE.out.2.1
            have fz := hB.frozen 9
            have ec := hB.cell 9
            have HB := Lib.hid (And.intro hB hL)
            have hbw := hB.lt
            clear ho hB hL
            generalize ba X = S at *
            go_wp2_with fail
            go_ret
            exact (sets_yes (st' := { st with broken := true }) Ho.out (Frm.refl _ w2) HB.out.1 HB.out.2 [(9, .bool true)] (by unfold lst4; simp) ⟨rfl, rfl, rfl, rfl⟩ rfl).first HE.out.1
          | cons x1 r1 =>
            have Ho := Lib.hid (show o = none by rw [ho]; rfl)
            have h0n : 1 ≤ n := by rw [HE.out.2.2.2.1]; simp
            have g9 : ((n : Int) == 0) = false := by simp; omega
            obtain ⟨wv, rv, av, pv, hB, hL⟩ := HE.out.2.1
            have fz := hB.frozen 9
            have ec := hB.cell 9
            have HB := Lib.hid (And.intro hB hL)
            clear ho hB hL
            generalize ba X = S at *
            go_wp2_with fail
            go_ret
            exact LinePost.no Ho.out (HE.out.1.trans (StT.cell (by unfold lst4; simp) HB.out.1))
        · rw [if_neg (show ¬ X = bs "broken" from h1)] at ho
          rw [decide_eq_false h1] at g1
          by_cases h2 : X = [119, 111, 114, 100]
          · rw [if_pos (show X = bs "word" from h2)] at ho
            rw [decide_eq_true h2] at g2
            clear g3 g4 g5
            clear h0 h1 h2
            obtain ⟨wv, rv, av, pv, hB, hL⟩ := HE.out.2.1
            have hbe := behind_any b 1 (b + 1) wv st.words (KS w2) A2 n (c - 1) r _ w2 hB rfl hL.words HE.out.2.2.1 (by have := H.out.2.2.1; unfold totS at this; omega) hB.lt
            have Hbe := Lib.hid (hbe.mono fun e w' h => beh_word hB hL h)
            have Ho := Lib.hid (show o = _ from ho.trans (wordB_one st r))
            clear ho hB hL hbe
            generalize ba X = S at *
            go_wp2_with fail
            refine Hbe.out.mono ?_
            rintro e w3 hh
            rw [← Ho.out] at hh
            obtain ⟨rfl, hh1⟩ := id hh
            have HH := Lib.hid hh
            clear hh hh1
            go_wp2_with fail
            go_ret
            exact HH.out.first HE.out.1
          · rw [if_neg (show ¬ X = bs "word" from h2)] at ho
            rw [decide_eq_false h2] at g2
            by_cases h3 : X = [114, 101, 97, 100]
            · rw [if_pos (show X = bs "read" from h3)] at ho
              rw [decide_eq_true h3] at g3
              clear g4 g5
              clear h0 h1 h2 h3
              obtain ⟨wv, rv, av, pv, hB, hL⟩ := HE.out.2.1
              have hbe := behind_any b 10 (b + 1) rv st.reads (KS w2) A2 n (c - 1) r _ w2 hB rfl hL.reads HE.out.2.2.1 (by have := H.out.2.2.1; unfold totS at this; omega) hB.lt
              have Hbe := Lib.hid (hbe.mono fun e w' h => beh_read hB hL h)
              have Ho := Lib.hid (show o = _ from ho.trans (readB_one st r))
              clear ho hB hL hbe
              generalize ba X = S at *
              go_wp2_with fail
              refine Hbe.out.mono ?_
              rintro e w3 hh
              rw [← Ho.out] at hh
              obtain ⟨rfl, hh1⟩ := id hh
              have HH := Lib.hid hh
              clear hh hh1
              go_wp2_with fail
              go_ret
              exact HH.out.first HE.out.1
            · rw [if_neg (show ¬ X = bs "read" from h3)] at ho
              rw [decide_eq_false h3] at g3
              by_cases h4 : X = [97, 110, 115, 119, 101, 114, 115]
              · rw [if_pos (show X = bs "answers" from h4)] at ho
                rw [decide_eq_true h4] at g4
                clear g5
                clear h0 h1 h2 h3 h4
                have hbe := answers_any b st A2 n (c - 1) r w2 HE.out.2.1 HE.out.2.2.1 (by have h9 := H.out.2.2.1; have h8 := HE.out.2.2.2.1; simp only [totS] at h9; omega)
                have Hbe := Lib.hid hbe
                have Ho := Lib.hid ho
                clear ho hbe
                generalize ba X = S at *
                go_wp2_with fail
                refine Hbe.out.mono ?_
                rintro e w3 hh
                rw [← Ho.out] at hh
                obtain ⟨rfl, hh1⟩ := id hh
                have HH := Lib.hid hh
                clear hh hh1
                go_wp2_with fail
                go_ret
                exact HH.out.first HE.out.1
              · rw [if_neg (show ¬ X = bs "answers" from h4)] at ho
                rw [decide_eq_false h4] at g4
                by_cases h5 : X = [112, 108, 97, 110]
                · rw [if_pos (show X = bs "plan" from h5)] at ho
                  rw [decide_eq_true h5] at g5
                  clear h0 h1 h2 h3 h4 h5
                  have hbe := plan_any b st A2 n (c - 1) r w2 HE.out.2.1 HE.out.2.2.1
                  have Hbe := Lib.hid hbe
                  have Ho := Lib.hid ho
                  clear ho hbe
                  generalize ba X = S at *
                  go_wp2_with fail
                  refine Hbe.out.mono ?_
                  rintro e w3 hh
                  rw [← Ho.out] at hh
                  obtain ⟨rfl, hh1⟩ := id hh
                  have HH := Lib.hid hh
                  clear hh hh1
                  go_wp2_with fail
                  go_ret
                  exact HH.out.first HE.out.1
                · rw [if_neg (show ¬ X = bs "plan" from h5)] at ho
                  rw [decide_eq_false h5] at g5
                  have hnu := numbers_any (KS w2) A2 n (c - 1) r w2 HE.out.2.2.1 (fun q hq => hq.lt) (by have := HE.out.2.2.2.1; omega)
                  have Hnu := Lib.hid hnu
                  have Ho := Lib.hid ho
                  clear ho hnu
                  cases hns : numsB r with
                  | none =>
                    have Hr := Lib.hid (show o = none by rw [Ho.out, hns]; rfl)
                    rw [hns] at Hnu
                    clear hns
                    generalize ba X = S at *
                    go_wp2_with fail
                    refine Hnu.out.mono ?_
                    rintro e w3 ⟨v, rfl, -, hF3⟩
                    have HF := Lib.hid hF3
                    clear hF3
                    go_wp2_with fail
                    go_ret
                    exact LinePost.no Hr.out (HE.out.1.trans (StT.of_frm HF.out HE.out.2.1.lt))
                  | some ns =>
                    have Hr := Lib.hid (show o = countsB st X ns by rw [Ho.out, hns]; rfl)
                    have hpk : st.picks.length ≤ 500000 := by
                      have h9 := H.out.2.2.1
                      simp only [totS] at h9
                      omega
                    have hnsl : ns.length ≤ 400000 := by have := numsB_len r ns hns; have := HE.out.2.2.2.1; omega
                    rw [hns] at Hnu
                    clear hns
                    obtain ⟨Sx, hSx⟩ : ∃ Sx, Sx = ba X := ⟨_, rfl⟩
                    rw [← hSx] at hc0 hi0 hsz g0 g1 g2 g3 g4 g5
                    have HSx := Lib.hid hSx
                    clear hSx
                    go_wp2_with fail
                    refine Hnu.out.mono ?_
                    rintro e w3 ⟨v, rfl, ho3, hF3⟩
                    simp only [Option.getD_some] at ho3
                    obtain ⟨A3, c3, rfl, -, -⟩ := own_form ho3
                    have hcu := counts_any b st (fun q => q ≠ b) X A3 ns.length c3 ns w3 (HE.out.2.1.keptF hF3) ((OSl.of_own ho3 (K := fun q => q ≠ b) fun q hq e => by have := (ho3.lt q hq).1; have := HE.out.2.1.lt; omega).sl.mono fun q hq => hq.1) (by omega) fun q hq => hq
                    rw [← Hr.out, ← HSx.out] at hcu
                    have hc3 := hF3.cell hc0 id
                    have H3 := Lib.hid (And.intro hcu hF3)
                    obtain ⟨m3, hm3⟩ : ∃ m3, m3 = ns.length := ⟨_, rfl⟩
                    rw [← hm3] at H3 ⊢
                    clear hcu hF3 ho3 hm3
                    go_wp2_with fail
                    refine H3.out.1.mono ?_
                    rintro e w4 hh
                    obtain ⟨rfl, hh1⟩ := id hh
                    have HH := Lib.hid hh
                    clear hh hh1
                    go_wp2_with fail
                    go_ret
                    exact HH.out.first (HE.out.1.trans (StT.of_frm H3.out.2 HE.out.2.1.lt))
end Go.Proofs.YtpcdbkaeijhmfaaGreatDoor
