/- The walk of teasellaw21.FifoTells. -/
import Derived.Test.YtchhfhldpkaadaaTh
import Derived.Deep.DeepCutAuto
import Derived.Deep.CutBlock
import Derived.Deep.RegionHeld3
namespace Go.Proofs.Ytchhfhldpkaadaa
open Go.RowKit Go.Shelf
set_option maxRecDepth 100000 in
set_option maxHeartbeats 4000000 in
theorem tells_any (room : Int) (hroom : room ≤ 9223372036854775807) (A : Option Addr) (n c : Nat) (ds : List (Int × Value × List Int)) (w : World) (h : DAt w A n c ds) :
    Calls Try.prog 3 #[.int .i64 room, .slice A n c] w fun e w' => e = .returned (.bool true) ∧ Frm (fun _ => False) w w' := by
  have hsm := small_any A n c ds w h
  have H := Lib.hid (And.intro h hsm)
  have hbd : n ≤ c ∧ c ≤ 9223372036854775807 := ⟨h.2.1, h.2.2.1⟩
  obtain ⟨hnc, hcm⟩ := hbd
  clear h hsm
  have HS : Hid (∃ s, s = smallB ds) := ⟨_, rfl⟩
  obtain ⟨s, hs⟩ := HS.out
  have Hs := Lib.hid hs
  rw [← hs] at H
  clear HS hs
  cases s
  · go_enter Try.func3, Try.ntmps3
    go_wp2_with fail
    refine H.out.2.mono ?_
    rintro e w' ⟨rfl, rfl⟩
    go_wp2_with fail
    refine (wakes_any w).mono ?_
    rintro e w' ⟨rfl, hF⟩
    go_wp2_with fail
    go_ret
    exact ⟨rfl, hF⟩
  · have hmay := may_any room
    by_cases hr : 1 ≤ room ∧ room ≤ 16
    · obtain ⟨m, rfl⟩ := Int.eq_ofNat_of_zero_le (show 0 ≤ room by omega)
      rw [show decide (1 ≤ (m : Int) ∧ (m : Int) ≤ 16) = true from by simpa using hr] at hmay
      have Hmay := Lib.hid hmay
      clear hmay
      go_enter Try.func3, Try.ntmps3
      go_wp2_with fail
      refine H.out.2.mono ?_
      rintro e w' ⟨rfl, rfl⟩
      go_wp2_with fail
      refine (QI.W.new m w (by omega) (by omega)).mono ?_
      rintro e w1 ⟨b, g, rfl, hW, hb, hg⟩
      have H1 := Lib.hid (And.intro hW (And.intro hb hg))
      clear hW hb hg
      go_wp2_with fail
      refine (Hmay.out w1).mono ?_
      rintro e w' ⟨rfl, rfl⟩
      clear Hmay
      go_wp2_with fail
      have HT : Hid (TRel w m b g w1.heap.size (w1.heap.size + 1) 0 [] false [] false (w1.alloc (.cells #[.int .i64 m, .slice none 0 0, .bool false] 33))) := Lib.hid (by
        obtain ⟨h1, h2, h3⟩ := H1.out
        exact ⟨h1.alloc _, ⟨_, Blk.new _ _ _, by omega, by simp, ⟨none, 0, 0, rfl, rfl, Nat.le_refl _, by omega, .inl rfl⟩, by simp, by omega⟩, by omega, by omega, by omega, by omega, h1.2.1.size⟩)
      clear H1
      generalize hE : w1.heap.size + 1 = E at *
      generalize hb' : w1.heap.size = b' at *
      clear hE hb'
      go_loopw [8] (fun i wr => ∃ k : Nat, k ≤ n ∧ i = .int .i64 k ∧ ∃ f xs cl, Hid (TRel w m b g b' E f xs cl xs cl wr)) (fun i _ => n - (intOf i).toNat)
      case atStart => exact ⟨0, Nat.zero_le _, rfl, 0, [], false, HT⟩
      case round =>
        clear HT
        obtain ⟨k, hk, rfl, f, xs, cl, hT⟩ := hrel
        by_cases hlt : k < n
        · obtain ⟨hn, _, _, hds⟩ := H.out.1
          have hkl : k < ds.length := by omega
          obtain ⟨ga, o, rfl, hga, d0, d1, hsl, hwf⟩ := hds k hkl
          have hl40 : (ds[k]).2.2.length ≤ 40 := by
            have := Hs.out
            simp [smallB] at this
            exact this.1 _ _ _ (List.getElem_mem hkl)
          have c0 := hT.out.frm.cell d0 id
          have c1 := hT.out.frm.cell d1 id
          clear hds hn
          generalize ds[k] = d at *
          obtain ⟨D, v, l⟩ := d
          dsimp only at c0 c1 d0 d1 hsl hwf hl40
          obtain ⟨A', n', c', rfl, hn', hc', hm', _⟩ := id hsl
          rw [List.length_map] at hn'
          have Hd := Lib.hid (And.intro hga (And.intro d0 (And.intro d1 (And.intro hsl hl40))))
          clear hga d0 d1 hsl hl40 hwf hn' hkl
          go_upto_block 2 with fail
          go_cut [9] (fun t wc => t = .bool true ∧ ∃ f xs cl, Hid (TRel w m b g b' E f xs cl xs cl wc))
          case first =>
            by_cases hD0 : D = 0
            · subst hD0
              go_wp2_with fail
              go_region_held3 (fun w' => w'.cell? ⟨ga, o + k * 2 + 1, none⟩ = some (.slice A' n' c')) (first | exact c1 | exact c11 | exact c12)
                (first
                | (go_at_call 11; refine ((hT.out.1.drewN 1).putAll (K := fun q => q < w.heap.size) (Hd.out.2.2.2.1.keptTo fun q hq => ⟨hT.out.frm.block q hq id, hq⟩) (fun q hq => ⟨(hT.out.old hq).1, (hT.out.old hq).2.1, Nat.lt_of_lt_of_le hq hT.out.frm.size⟩)).mono ?_; rintro e w1 ⟨rfl, hW1, hF1⟩; have h1 := Lib.hid ((hT.out.same ((Frm.refl _ wr).drewN 1)).q hW1 hF1); have c11 := h1.out.frm.cell Hd.out.2.2.1 id)
                | (go_at_call 12; refine (rput_all h1.out.2.1 (K := fun q => q < w.heap.size) (Hd.out.2.2.2.1.keptTo fun q hq => ⟨h1.out.frm.block q hq id, hq⟩) (fun q hq => Nat.lt_of_lt_of_le hq h1.out.frm.size) Hd.out.2.2.2.2).mono ?_; rintro e w2 ⟨rfl, hR2, hF2⟩; have h2 := Lib.hid (h1.out.r hR2 hF2); have c12 := h2.out.frm.cell Hd.out.2.2.1 id))
              go_wp2_with fail
              go_meet
              case rel => exact ⟨by simp, _, _, _, h2⟩
            · have hb0 : (D == 0) = false := by simpa using hD0
              by_cases hD1 : D = 1
              · subst hD1
                cases xs with
                | nil =>
                  go_wp2_with fail
                  refine (hT.out.1.getNo).mono ?_
                  rintro e w1 ⟨rfl, hW1, hF1⟩
                  have h1 := Lib.hid (hT.out.q hW1 hF1)
                  clear hW1 hF1
                  go_wp2_with fail
                  refine (rget_no E b' m cl w1 h1.out.2.1).mono ?_
                  rintro e w2 ⟨rfl, hR2, hF2⟩
                  have h2 := Lib.hid (h1.out.r hR2 hF2)
                  clear hR2 hF2
                  go_wp2_with fail
                  go_meet
                  case rel => exact ⟨rfl, _, _, _, h2⟩
                | cons x xs =>
                  go_wp2_with fail
                  refine (hT.out.1.get).mono ?_
                  rintro e w1 ⟨rfl, hW1, hF1⟩
                  have h1 := Lib.hid (hT.out.q hW1 hF1)
                  clear hW1 hF1
                  go_wp2_with fail
                  refine (rget_ok E b' m x xs cl w1 h1.out.2.1).mono ?_
                  rintro e w2 ⟨rfl, hR2, hF2⟩
                  have h2 := Lib.hid (h1.out.r hR2 hF2)
                  clear hR2 hF2
                  go_wp2_with fail
                  go_meet
                  case rel => exact ⟨by simp, _, _, _, h2⟩
              · have hb1 : (D == 1) = false := by simpa using hD1
                by_cases hD2 : D = 2
                · subst hD2
                  go_wp2_with fail
                  refine (hT.out.1.close rfl).mono ?_
                  rintro e w1 ⟨rfl, hW1, hF1⟩
                  have h1 := Lib.hid (hT.out.q hW1 hF1)
                  clear hW1 hF1
                  go_wp2_with fail
                  refine (rclose_any E b' m xs cl w1 h1.out.2.1).mono ?_
                  rintro e w2 ⟨rfl, hR2, hF2⟩
                  have h2 := Lib.hid (h1.out.r hR2 hF2)
                  clear hR2 hF2
                  go_wp2_with fail
                  go_meet
                  case rel => exact ⟨by simp, _, _, _, h2⟩
                · have hb2 : (D == 2) = false := by simpa using hD2
                  go_wp2_with fail
                  refine (hT.out.1.clear rfl).mono ?_
                  rintro e w1 ⟨rfl, hW1, hF1⟩
                  have h1 := Lib.hid (hT.out.q hW1 hF1)
                  clear hW1 hF1
                  go_wp2_with fail
                  refine (rclear_any E b' m xs cl w1 h1.out.2.1).mono ?_
                  rintro e w2 ⟨rfl, hR2, hF2⟩
                  have h2 := Lib.hid (h1.out.r hR2 hF2)
                  clear hR2 hF2
                  go_wp2_with fail
                  go_meet
                  case rel => exact ⟨by simp, _, _, _, h2⟩
          case rest =>
            obtain ⟨rfl, f2, xs2, cl2, h2⟩ := hcut
            obtain ⟨A2, n2, c2, q0, q1, q2, qs, rfl, qc, qm, _, _, _, qx, _, _⟩ := h2.out.2.1.open_
            have hm16 := h2.out.1.1.room.2.1
            have hsub : IntKind.i64.wrap ((m : Int) - (xs2.length : Int)) = (m : Int) - (xs2.length : Int) := IntWalk.i64_in _ (by omega)
            clear hT Hd c0 c1 qs q0
            generalize hL : xs2.length = L at *
            have HL := Lib.hid hL
            clear hL
            go_wp2_with fail
            go_region_held3 (fun w' => w'.cell? ⟨b', 1, none⟩ = some (.slice A2 L c2) ∧ w'.cell? ⟨b', 2, none⟩ = some (.bool cl2)) (first | exact ⟨q1, q2⟩ | exact ⟨q13, q23⟩ | exact ⟨q14, q24⟩ | exact ⟨q15, q25⟩)
              (first
              | (go_at_call 20; refine ((h2.out.1.drewN 1).all).mono ?_; rintro e w3 ⟨v3, rfl, hv3, hW3, hF3⟩; have q13 := hF3.cell (a := ⟨b', 1, none⟩) (by exact q1) id; have q23 := hF3.cell (a := ⟨b', 2, none⟩) (by exact q2) id; have h3 := Lib.hid ((h2.out.same ((Frm.refl _ wc).drewN 1)).same hF3))
              | (go_at_call 19; refine (ints_any v3 (.slice A2 L c2) _ _ xs2 xs2 _ (by exact hv3.sl) (by obtain ⟨_, _, _, _, z1, _, z3, _⟩ := h3.out.2.1.open_; rw [q13] at z1; cases z1; exact z3)).mono ?_; rintro e w5 ⟨rfl, k5, rfl⟩; have h5 := Lib.hid (h3.out.same ((Frm.refl _ w3).drewN k5)))
              | (go_at_call 21; refine (h5.out.1.len HL.out).mono ?_; rintro e w' ⟨rfl, rfl⟩)
              | (go_at_call 22; refine (h5.out.1.free (by rw [HL.out])).mono ?_; rintro e w6 ⟨rfl, hW6, hF6⟩; have q14 := hF6.cell (a := ⟨b', 1, none⟩) (by exact q13) id; have q24 := hF6.cell (a := ⟨b', 2, none⟩) (by exact q23) id; have h6 := Lib.hid (h5.out.same hF6))
              | (go_at_call 23; refine (h6.out.1.closed).mono ?_; rintro e w7 ⟨rfl, hW7, hF7⟩; have q15 := hF7.cell (a := ⟨b', 1, none⟩) (by exact q14) id; have q25 := hF7.cell (a := ⟨b', 2, none⟩) (by exact q24) id; have h7 := Lib.hid (h6.out.same hF7)))
            go_wp2_with fail
            go_roundw
            case rel => exact ⟨k + 1, by omega, by go_num, _, _, _, h7⟩
            case measure => simp [intOf]; omega
        · obtain rfl : k = n := by omega
          go_wp2_with fail
          refine (wakes_any wr).mono ?_
          rintro e w5 ⟨rfl, hF5⟩
          go_wp2_with fail
          go_ret
          exact ⟨rfl, hT.out.frm.trans hF5 (fun _ h => h.elim)⟩
    · have hr2 : room < 1 ∨ 16 < room := by omega
      rw [show decide (1 ≤ room ∧ room ≤ 16) = false from by simpa using hr] at hmay
      have Hmay := Lib.hid hmay
      clear hmay hr
      go_enter Try.func3, Try.ntmps3
      go_wp2_with fail
      refine H.out.2.mono ?_
      rintro e w' ⟨rfl, rfl⟩
      go_wp2_with fail
      refine (QI.new_no room w hr2).mono ?_
      rintro e w' ⟨rfl, rfl⟩
      go_wp2_with fail
      refine (Hmay.out w).mono ?_
      rintro e w' ⟨rfl, rfl⟩
      go_wp2_with fail
      refine (wakes_any w).mono ?_
      rintro e w' ⟨rfl, hF⟩
      go_wp2_with fail
      go_ret
      exact ⟨rfl, hF⟩
end Go.Proofs.Ytchhfhldpkaadaa
