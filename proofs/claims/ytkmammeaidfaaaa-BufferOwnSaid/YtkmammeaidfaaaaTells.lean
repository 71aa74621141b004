/- The walk of teasellaw18.BufferTells. -/
import Derived.Test.YtkmammeaidfaaaaTh
import Derived.Test.YtkmammeaidfaaaaDeed
import Derived.Deep.DeepCutAuto
import Derived.Deep.CutBlock
import Derived.Deep.RegionHeld3
namespace Go.Proofs.Ytkmammeaidfaaaa
open Go.RowKit
theorem nodup_rev {l : List Nat} (h : l.Nodup) : l.reverse.Nodup := by
  unfold List.Nodup
  rw [List.pairwise_reverse]
  exact List.Pairwise.imp (fun h => Ne.symm h) h
theorem nodup_down (m : Nat) : ((List.range m).map (m - 1 - ·)).Nodup := by
  unfold List.Nodup
  rw [List.pairwise_map]
  refine List.Pairwise.imp_of_mem ?_ (List.pairwise_lt_range (n := m))
  intro a b ha hb h
  simp at ha hb
  omega
/-- Between two deeds: both pools alike. -/
def BBet (w0 : World) (b b' m size : Nat) (wr : World) : Prop := ∃ fr us dt, J2 w0 b b' m size fr us dt fr.reverse us dt wr ∧ Inv m fr us
theorem BBet.give {m : Nat} {fr : List Nat} {us : List Bool} {dt : List (List UInt8)} {v : Int} {w0 : World} {b b' size : Nat} {wr : World}
    (h : J2 w0 b b' m size (giveFr fr us v) (giveUs us v) (giveDt us dt v) (if inUse us v then v.toNat :: fr.reverse else fr.reverse) (giveUs us v) (giveDt us dt v) wr) (hI : Inv m fr us) : BBet w0 b b' m size wr := by
  refine ⟨giveFr fr us v, giveUs us v, giveDt us dt v, ?_, ?_⟩
  · have e : (if inUse us v then v.toNat :: fr.reverse else fr.reverse) = (giveFr fr us v).reverse := by
      unfold giveFr; split <;> simp
    rw [e] at h
    exact h
  · unfold giveFr giveUs
    cases hu : inUse us v with
    | true =>
      obtain ⟨k, rfl, hk, hu'⟩ := inUse_nat hu
      simp only [if_true, hk]
      exact hI.give hu'
    | false => exact hI
set_option maxRecDepth 100000 in
set_option maxHeartbeats 4000000 in
theorem tells_any (many size : Int) (hmany : -9223372036854775808 ≤ many ∧ many ≤ 9223372036854775807) (hsize : -9223372036854775808 ≤ size ∧ size ≤ 9223372036854775807) (A : Option Addr) (n c : Nat) (ds : List (Int × Int × Value × List UInt8)) (w : World) (h : DAt w A n c ds) :
    Calls Try.prog 3 #[.int .i64 many, .int .i64 size, .slice A n c] w fun e w' => e = .returned (.bool true) ∧ Frm (fun _ => False) w w' := by
  have hsm := small_any A n c ds w h
  have H := Lib.hid (And.intro h hsm)
  have hbd : n ≤ c ∧ c ≤ 9223372036854775807 := ⟨h.2.1, h.2.2.1⟩
  obtain ⟨hnc, hcm⟩ := hbd
  clear h hsm
  have HS : Hid (∃ s, s = smallB ds) := ⟨_, rfl⟩
  obtain ⟨s, hs⟩ := HS.out
  have Hs := Lib.hid hs
  rw [← hs] at H
  clear HS hs
  cases s
  · go_enter Try.func3, Try.ntmps3
    go_wp2_with fail
    refine H.out.2.mono ?_
    rintro e w' ⟨rfl, rfl⟩
    go_wp2_with fail
    refine (wakes_any w).mono ?_
    rintro e w' ⟨rfl, hF⟩
    go_wp2_with fail
    go_ret
    exact ⟨rfl, hF⟩
  · have hmay := rmay_any many size
    cases hm : mayB many size with
    | true =>
      have hmm : 1 ≤ many ∧ many ≤ 16 ∧ 1 ≤ size ∧ size ≤ 288 := by simpa [mayB] using hm
      obtain ⟨m, rfl⟩ := Int.eq_ofNat_of_zero_le (show 0 ≤ many by omega)
      obtain ⟨q, rfl⟩ := Int.eq_ofNat_of_zero_le (show 0 ≤ size by omega)
      rw [hm] at hmay
      have Hmay := Lib.hid hmay
      clear hmay hm hmany hsize
      obtain ⟨hm1, hm2, hm3, hm4⟩ := hmm
      go_enter Try.func3, Try.ntmps3
      go_wp2_with fail
      refine H.out.2.mono ?_
      rintro e w' ⟨rfl, rfl⟩
      go_wp2_with fail
      refine (new_ok m q w (by omega) (by omega) (by omega) (by omega)).mono ?_
      rintro e w1 ⟨b, S, rfl, hP, hS, hF1⟩
      have H1 := Lib.hid (And.intro hP (And.intro hS hF1))
      clear hP hS hF1
      go_wp2_with fail
      refine (Hmay.out w1).mono ?_
      rintro e w' ⟨rfl, rfl⟩
      clear Hmay
      go_wp2_with fail
      refine (rnew_ok m q w1 (by omega) (by omega) (by omega) (by omega)).mono ?_
      rintro e w2 ⟨b', T, rfl, hR, hT, hF2⟩
      have HT : Hid (BBet w b b' m q w2) := Lib.hid (by
        obtain ⟨hP, hS, hF1⟩ := H1.out
        have hs := hF1.size
        refine ⟨(List.range m).map (m - 1 - ·), List.replicate m false, List.replicate m [], ⟨S, T, hP.keptF hF2, ?_, hS, fun k hk => by have := hT k hk; omega, fun k hk hk' => by have := hT k hk'; have := hP.lt.2 k hk; omega, hF1.trans hF2 fun _ h => h.elim⟩, by simp, by simp [List.count_replicate], ?_, ?_⟩
        · have e : ((List.range m).map (m - 1 - ·)).reverse = List.range m := by
            apply List.ext_getElem
            · simp
            · intro i h1 h2; simp at h1 h2 ⊢; omega
          rw [e]
          exact hR
        · exact nodup_down m
        · intro i hi
          simp at hi
          obtain ⟨j, hj, rfl⟩ := hi
          rw [List.getElem?_replicate, if_pos (by omega)])
      clear H1 hR hT hF2
      go_wp2_with fail
      go_loopw [11] (fun i wr => ∃ k : Nat, k ≤ n ∧ i = .int .i64 k ∧ Hid (BBet w b b' m q wr)) (fun i _ => n - (intOf i).toNat)
      case atStart => exact ⟨0, Nat.zero_le _, rfl, HT⟩
      case round =>
        clear HT
        obtain ⟨k, hk, rfl, hT⟩ := hrel
        by_cases hlt : k < n
        · obtain ⟨fr, us, dt, hJ, hI⟩ := hT.out
          obtain ⟨hn, _, _, hds⟩ := H.out.1
          have hkl : k < ds.length := by omega
          obtain ⟨ga, o, rfl, hga, d0, d1, d2, hsl⟩ := hds k hkl
          have hl40 : (ds[k]).2.2.2.length ≤ 400 := by
            have := Hs.out
            simp [smallB] at this
            exact this.1 _ _ _ _ (List.getElem_mem hkl)
          have c0 := hJ.frm.cell d0 id
          have c1 := hJ.frm.cell d1 id
          have c2 := hJ.frm.cell d2 id
          clear hds hn
          generalize ds[k] = d at *
          obtain ⟨D, N, v, l⟩ := d
          dsimp only at c0 c1 c2 d0 d1 d2 hsl hl40
          obtain ⟨A', n', c', rfl, hn', hc', hm', _⟩ := id hsl
          rw [bv_length] at hn'
          have Hd := Lib.hid (And.intro hga (And.intro d1 (And.intro d2 (And.intro hsl hl40))))
          have hn4 : n' ≤ 1000000 := by omega
          have HJ := Lib.hid (And.intro hJ hI)
          clear hga d0 d1 d2 hsl hl40 hn' hkl hJ hI hT
          go_upto_block 2 with fail
          go_cut [12] (fun t wc => t = .bool true ∧ Hid (BBet w b b' m q wc))
          case first =>
            by_cases hD0 : D = 0
            · subst hD0
              rcases List.eq_nil_or_concat fr with rfl | ⟨fr, x, rfl⟩
              · go_wp2_with fail
                refine (HJ.out.1.pw.takeNo).mono ?_
                rintro e w' ⟨rfl, rfl⟩
                go_wp2_with fail
                refine (HJ.out.1.rtakeNo).mono ?_
                rintro e w' ⟨rfl, rfl⟩
                go_wp2_with fail
                go_meet
                case rel => exact ⟨rfl, Lib.hid ⟨_, _, _, HJ.out.1, HJ.out.2⟩⟩
              · rw [List.concat_eq_append] at HJ
                go_wp2_with fail
                refine (HJ.out.1.take).mono ?_
                rintro e w3 ⟨rfl, h3⟩
                have h3' := h3
                rw [List.reverse_append, List.reverse_cons, List.reverse_nil, List.nil_append, List.singleton_append] at h3'
                have H3 := Lib.hid h3'
                clear h3 h3'
                go_wp2_with fail
                refine (H3.out.rtake).mono ?_
                rintro e w4 ⟨rfl, h4⟩
                have H4 := Lib.hid h4
                clear h4
                go_wp2_with fail
                go_meet
                case rel => exact ⟨by simp, Lib.hid ⟨_, _, _, H4.out, HJ.out.2.take⟩⟩
            · have hb0 : (D == 0) = false := by simpa using hD0
              by_cases hD1 : D = 1
              · subst hD1
                go_wp2_with fail
                go_region_held3 (fun w' => w'.cell? ⟨ga, o + k * 3 + 1, none⟩ = some (.int .i64 N)) (first | exact c1 | exact c11 | exact c12)
                  (first
                  | (go_at_call 14; refine ((HJ.out.1.same ((Frm.refl _ wr).drewN 1)).give HJ.out.2 N).mono ?_; rintro e w3 ⟨rfl, h3⟩; have H3 := Lib.hid h3; have c11 := H3.out.frm.cell Hd.out.2.1 id)
                  | (go_at_call 15; refine (H3.out.rgive (by obtain ⟨p1, p2, p3, p4⟩ := HJ.out.2; exact ⟨p1, by simpa using p2, nodup_rev p3, fun i hi => p4 i (by simpa using hi)⟩) N).mono ?_; rintro e w4 ⟨rfl, h4⟩; have H4 := Lib.hid h4; have c12 := H4.out.frm.cell Hd.out.2.1 id))
                go_wp2_with fail
                go_meet
                case rel => exact ⟨by simp, Lib.hid (BBet.give H4.out HJ.out.2)⟩
              · have hb1 : (D == 1) = false := by simpa using hD1
                go_wp2_with fail
                go_region_held3 (fun w' => w'.cell? ⟨ga, o + k * 3 + 1, none⟩ = some (.int .i64 N) ∧ w'.cell? ⟨ga, o + k * 3 + 2, none⟩ = some (.slice A' n' c')) (first | exact ⟨c1, c2⟩ | exact ⟨c11, c21⟩ | exact ⟨c12, c22⟩)
                  (first
                  | (go_at_call 16; refine ((HJ.out.1.same ((Frm.refl _ wr).drewN 1)).put N (K := fun q => q < w.heap.size) (Hd.out.2.2.2.1.keptTo fun q hq => ⟨HJ.out.1.frm.block q hq id, hq⟩) (fun q hq => Nat.lt_of_lt_of_le hq HJ.out.1.frm.size) hn4).mono ?_; rintro e w3 ⟨rfl, h3⟩; have H3 := Lib.hid h3; have c11 := H3.out.frm.cell Hd.out.2.1 id; have c21 := H3.out.frm.cell Hd.out.2.2.1 id)
                  | (go_at_call 17; refine (H3.out.rput N (K := fun q => q < w.heap.size) (Hd.out.2.2.2.1.keptTo fun q hq => ⟨H3.out.frm.block q hq id, hq⟩) (fun q hq => Nat.lt_of_lt_of_le hq H3.out.frm.size) hn4).mono ?_; rintro e w4 ⟨rfl, h4⟩; have H4 := Lib.hid h4; have c12 := H4.out.frm.cell Hd.out.2.1 id; have c22 := H4.out.frm.cell Hd.out.2.2.1 id))
                go_wp2_with fail
                go_meet
                case rel => exact ⟨by simp, Lib.hid ⟨_, _, _, H4.out, HJ.out.2⟩⟩
          case rest =>
            obtain ⟨rfl, hB⟩ := hcut
            clear HJ c0 c1 c2
            obtain ⟨fr2, us2, dt2, hJ, hI⟩ := hB.out
            obtain ⟨Ar, cr, r1, rc1, rc2⟩ := hJ.rowcell
            rw [List.length_reverse] at r1 rc1
            have hrm : fr2.length ≤ 16 := by obtain ⟨S, T, h1, _⟩ := hJ; have := h1.sz.1; omega
            have c1 := hJ.frm.cell Hd.out.2.1 id
            have HJ := Lib.hid (And.intro hJ hI)
            clear hJ hI hB
            generalize hL : fr2.length = L at *
            have HL := Lib.hid hL
            clear hL
            generalize hby : bytesOf us2 dt2 N = by2 at *
            have Hby := Lib.hid hby
            clear hby
            go_wp2_with fail
            go_region_held (fun w' => w'.cell? ⟨b', 1, none⟩ = some (.slice Ar L cr) ∧ w'.cell? ⟨ga, o + k * 3 + 1, none⟩ = some (.int .i64 N)) (first | exact ⟨r1, c1⟩ | exact ⟨r3, c3⟩ | exact ⟨r4, c4⟩ | exact ⟨r5, c5⟩)
              (first
              | (go_at_call 19; refine ((HJ.out.1.pw.same ((Frm.refl _ wc).drewN 1)).live).mono ?_; rintro e w3 ⟨v3, rfl, hv3, hF3⟩; have H3 := Lib.hid ((HJ.out.1.same ((Frm.refl _ wc).drewN 1)).same hF3); have r3 := hF3.cell (a := ⟨b', 1, none⟩) (by exact r1) id; have c3 := hF3.cell (a := ⟨ga, o + k * 3 + 1, none⟩) (by exact c1) id)
              | (go_at_call 20; refine (H3.out.rlive).mono ?_; rintro e w4 ⟨v4, rfl, hv4, hF4⟩; have H4 := Lib.hid (H3.out.same hF4); have r4 := hF4.cell r3 id; have c4 := hF4.cell c3 id)
              | (go_at_call 18; refine (ints_any v3 v4 (fun _ => True) (fun _ => True) (liveTo us2 m) (liveTo us2 m) _ (by exact (OSl.of_own (K := fun q => q < w3.heap.size) hv3 (fun q hq => (hv3.lt q hq).2)).sl.keptTo fun q hq => ⟨hF4.block q hq.lt id, trivial⟩) (by exact (OSl.of_own (K := fun _ => True) hv4 (fun _ _ => trivial)).sl.mono fun _ _ => trivial)).mono ?_; rintro e w5 ⟨rfl, k5, rfl⟩; have H5 := Lib.hid (H4.out.same ((Frm.refl _ w4).drewN k5)))
              | (go_at_call 21; refine (H5.out.pw.free HL.out).mono ?_; rintro e w' ⟨rfl, rfl⟩)
              | (go_at_call 22; refine (H5.out.pw.dataAll N).mono ?_; rintro e w6 ⟨v6, rfl, hv6, hF6⟩; have H6 := Lib.hid (H5.out.same hF6); have r5 := hF6.cell (a := ⟨b', 1, none⟩) (by exact r4) id; have c5 := hF6.cell (a := ⟨ga, o + k * 3 + 1, none⟩) (by exact c4) id; rw [Hby.out] at hv6; have hcv1 := run_conv (P := Try.prog) (dst := 9) Try.underlying32 Try.underlying5 Try.underlying9 (OSl.of_own (K := fun _ => True) hv6 (fun _ _ => trivial)).sl)
              | (go_at_call 23; refine (H6.out.rbytes N).mono ?_; rintro e w' ⟨v7, rfl, hv7, rfl⟩; rw [Hby.out] at hv7; have hcv2 := run_conv (P := Try.prog) (dst := 9) Try.underlying32 Try.underlying5 Try.underlying9 hv7))
            all_goals
              go_wp2_with fail
              go_roundw
              case rel => exact ⟨k + 1, by omega, by go_num, Lib.hid ⟨_, _, _, H6.out, HJ.out.2⟩⟩
              case measure => simp [intOf]; omega
        · obtain rfl : k = n := by omega
          obtain ⟨fr, us, dt, hJ, hI⟩ := hT.out
          have hfr := Lib.hid hJ.frm
          clear hT hJ hI
          go_wp2_with fail
          refine (wakes_any wr).mono ?_
          rintro e w5 ⟨rfl, hF5⟩
          go_wp2_with fail
          go_ret
          exact ⟨rfl, hfr.out.trans hF5 (fun _ h => h.elim)⟩
    | false =>
      rw [hm] at hmay
      have Hmay := Lib.hid hmay
      have Hm := Lib.hid hm
      clear hmay hm
      go_enter Try.func3, Try.ntmps3
      go_wp2_with fail
      refine H.out.2.mono ?_
      rintro e w' ⟨rfl, rfl⟩
      go_wp2_with fail
      refine (new_no many size w Hm.out).mono ?_
      rintro e w' ⟨rfl, rfl⟩
      go_wp2_with fail
      refine (Hmay.out w).mono ?_
      rintro e w' ⟨rfl, rfl⟩
      go_wp2_with fail
      refine (wakes_any w).mono ?_
      rintro e w' ⟨rfl, hF⟩
      go_wp2_with fail
      go_ret
      exact ⟨rfl, hF⟩
end Go.Proofs.Ytkmammeaidfaaaa
