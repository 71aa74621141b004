/- The walk of teasellaw17.SourceAll. -/
import Derived.Test.YtddhejgbidmmjaaWf
import Derived.Test.YtddhejgbidmmjaaLaw
import Derived.Deep.DeepCutAuto
import Derived.Deep.CutBlock
namespace Go.Proofs.Ytddhejgbidmmjaa
open Go.RowKit Go.Shelf
def str (l : List UInt8) : ByteArray := ⟨l.toArray⟩
@[simp] theorem str_size (l : List UInt8) : (str l).size = l.length := rfl
theorem next_flat (L : List (List UInt8)) (most : Int) : (nextL L most).1 ++ (nextL L most).2.2.flatten = L.flatten := by
  cases L with
  | nil => rfl
  | cons l L =>
    by_cases h1 : most < 1
    · simp [nextL, h1]
    · by_cases h2 : (l.length : Int) ≤ most
      · simp [nextL, h1, h2]
      · simp only [nextL, if_neg h1, if_neg h2, List.flatten_cons]
        rw [← List.append_assoc, List.take_append_drop]
theorem tot_flat' (L : List (List UInt8)) : tot L = L.flatten.length := (tot_flat L).symm
/-- What SourceAll asks of a round, in numbers: n reads left before, k behind; m, j bytes; lb were told; over. -/
structure RoundOk (n k m j lb : Nat) (over : Bool) (ask : Int) : Prop where
  sub : m = j + lb
  over_ : over = true ↔ n = 0
  none_ : over = true → lb = 0
  most : (lb : Int) ≤ (if ask < 0 then 0 else ask)
  least : n ≤ k + 1
  le : k ≤ n
  used : 1 ≤ ask → over = false → (lb : Int) ≠ ask → k + 1 = n
theorem round_ok (L : List (List UInt8)) (ask : Int) : RoundOk L.length (nextL L ask).2.2.length (tot L) (tot (nextL L ask).2.2) (nextL L ask).1.length (nextL L ask).2.1 ask := by
  cases L with
  | nil => exact ⟨by simp [nextL], by simp [nextL], by simp [nextL], by simp [nextL]; split <;> omega, by simp [nextL], by simp [nextL], fun _ h => by simp [nextL] at h⟩
  | cons l L =>
    by_cases h1 : ask < 1
    · simp only [nextL, if_pos h1]
      exact ⟨by simp, by simp, by simp, by simp; split <;> omega, by simp, by simp, fun h => by omega⟩
    · by_cases h2 : (l.length : Int) ≤ ask
      · simp only [nextL, if_neg h1, if_pos h2]
        exact ⟨by simp; omega, by simp, by simp, by rw [if_neg (by omega)]; exact h2, by simp, by simp, fun _ _ _ => by simp⟩
      · simp only [nextL, if_neg h1, if_neg h2]
        have h3 : ask.toNat < l.length := by omega
        exact ⟨by simp; omega, by simp, by simp, by rw [if_neg (by omega)]; simp; omega, by simp, by simp, fun _ _ h => absurd (by simp; omega) h⟩
def pot (L : List (List UInt8)) : Nat := L.length + tot L
theorem next_pot (L : List (List UInt8)) (most : Int) (h : 1 ≤ most) : pot (nextL L most).2.2 ≤ pot L - 1 := by
  cases L with
  | nil => simp [nextL, pot]
  | cons l L =>
    by_cases h2 : (l.length : Int) ≤ most
    · simp only [nextL, if_neg (show ¬ most < 1 by omega), if_pos h2, pot, List.length_cons, tot_cons]; omega
    · simp only [nextL, if_neg (show ¬ most < 1 by omega), if_neg h2, pot, List.length_cons, tot_cons, List.length_drop]; omega
theorem pot_nil {L : List (List UInt8)} (h : pot L ≤ 0) : L = [] := List.eq_nil_of_length_eq_zero (by unfold pot at h; omega)
/-- Behind the first loop: not more than q calls are wanted. -/
def AftRel (w : World) (K : Nat → Prop) (b : Nat) (brk : Bool) (L0 : List (List UInt8)) (q : Nat) (t : Value) (wr : World) : Prop :=
  ∃ L T, SrcAt wr K b L brk T.length ∧ T ++ L.flatten = L0.flatten ∧ t = .string (str T) ∧ pot L ≤ q ∧ Frm (fun _ => False) w wr
/-- Between two rounds: what is left, what was told. -/
def AllRel (w : World) (K : Nat → Prop) (b : Nat) (brk : Bool) (L0 : List (List UInt8)) (t : Value) (wr : World) : Prop :=
  ∃ L T, SrcAt wr K b L brk T.length ∧ T ++ L.flatten = L0.flatten ∧ t = .string (str T) ∧ L.length ≤ L0.length ∧ Frm (fun _ => False) w wr
set_option maxRecDepth 100000 in
set_option maxHeartbeats 8000000 in
theorem all_any (brk : Bool) (v0 v1 : Value) (vs0 : List Value) (qs : List Int) (L0 : List (List UInt8)) (w : World) (h : Sl w (fun k => k < w.heap.size) v0 vs0) (he : Each w (fun k => k < w.heap.size) vs0 L0) (ha : Sl w (fun k => k < w.heap.size) v1 (qs.map (Value.int .i64))) (hqs : ∀ n ∈ qs, (Lit.int .i64 n).wf = true) :
    Calls Try.prog 4 #[.bool brk, v0, v1] w fun e w' => e = .returned (.bool true) ∧ Frm (fun _ => False) w w' := by
  obtain ⟨A, n, c, rfl, hn, hc, hm, hx⟩ := ha
  have Ha := Lib.hid (And.intro hn (And.intro hx hqs))
  clear hn hx hqs
  obtain ⟨xs, rfl, hsx⟩ := he.hdrs
  obtain ⟨A0, n0, c0, rfl, hn0, hc0, hm0, hx0⟩ := h.hdrs
  have hgr := great_any (.slice A0 n0 c0) _ _ (xs.map hdr) L0 w h he
  have Hs := Lib.hid (And.intro h (And.intro he (And.intro hsx (And.intro hn0 (And.intro hx0 he.lens)))))
  have hnL : n0 ≤ 9223372036854775807 := by omega
  clear h he hsx hn0 hx0 hc0 hm0
  go_enter Try.func4, Try.ntmps4
  go_wp2_with fail
  refine hgr.mono ?_
  rintro e w' ⟨gr, rfl, rfl, hg⟩
  clear hgr
  cases gr with
  | true =>
    clear hg
    go_wp2_with fail
    refine (wakes_any w).mono ?_
    rintro e w' ⟨rfl, hF⟩
    go_wp2_with fail
    go_ret
    exact ⟨rfl, hF⟩
  | false =>
    have hg1 := hg rfl
    clear hg
    have Hg := Lib.hid hg1
    clear hg1
    by_cases h60 : (60 : Int) < (n : Int)
    · go_wp2_with fail
      refine (wakes_any w).mono ?_
      rintro e w' ⟨rfl, hF⟩
      go_wp2_with fail
      go_ret
      exact ⟨rfl, hF⟩
    · go_wp2_with fail
      refine (new_any brk (.slice A0 n0 c0) (xs.map hdr) _ _ L0 w Hs.out.1 Hs.out.2.1 (fun _ h => h) (fun _ h => h) (by have := Hg.out; omega) (by have := Hg.out; omega)).mono ?_
      rintro e w1 ⟨b, K, rfl, hS, hK, hF⟩
      have Hk := Lib.hid hK
      have HF := Lib.hid hF
      clear hK hF
      go_wp2_with fail
      have hz := HF.out.size
      refine (join_any (.slice A0 n0 c0) _ _ (xs.map hdr) L0 w1 (Hs.out.1.kept fun k hk => HF.out.block k hk id) (Hs.out.2.1.kept fun k hk => ⟨HF.out.block k hk id, hk⟩) (fun k hk => Nat.lt_of_lt_of_le hk hz) (fun k hk => Nat.lt_of_lt_of_le hk hz) (by have := Hg.out; omega)).mono ?_
      rintro e w2 ⟨v2, rfl, hv2, hF⟩
      have ec := run_conv (P := Try.prog) Try.underlying30 Try.underlying5 Try.underlying9 (hv2.apart (K2 := fun _ => False) (fun _ _ h => h))
      have hS2 := hS.kept hF.size (fun k hk => hF.block k (hS.lt k hk) id)
      have hrel0 : AllRel w K b brk L0 (.string (str [])) w2 := ⟨L0, [], hS2, rfl, rfl, Nat.le_refl _, HF.out.trans hF (fun _ h => h.elim)⟩
      have hlen : (str L0.flatten).size ≤ 3000 := by rw [str_size, tot_flat]; exact Hg.out.2
      change _ = Result.ok (Value.string (str L0.flatten)) _ at ec
      clear hS hS2 hF hv2
      generalize hsA : str L0.flatten = sA at ec hlen
      have HsA := Lib.hid hsA
      clear hsA
      go_wp2_with fail
      go_loopw [9, 10] (fun t i wr => ∃ k : Nat, k ≤ n ∧ i = .int .i64 k ∧ AllRel w K b brk L0 t wr) (fun _ i _ => n - (intOf i).toNat)
      case atStart => exact ⟨0, Nat.zero_le _, rfl, hrel0⟩
      case round =>
        obtain ⟨k, hk, rfl, hrel⟩ := hrel
        by_cases hlt : k < n
        · obtain ⟨g, o, rfl, hg, hcs⟩ := Ha.out.2.1.resolve_left (by omega)
          obtain ⟨L1, T, hS, hT, rfl, hLL, hF⟩ := hrel
          have hka : k < qs.length := by have := Ha.out.1; simp at this; omega
          have hcx : w.cell? ⟨g, o + k, none⟩ = some (.int .i64 qs[k]) := by rw [hcs k (by simpa using hka)]; simp
          have hw := i64_range (Ha.out.2.2 qs[k] (List.getElem_mem hka))
          clear hcs
          generalize qs[k] = ask at *
          obtain ⟨hw1, hw2⟩ := hw
          have HF1 := Lib.hid hF
          have HT := Lib.hid hT
          have HLL := Lib.hid hLL
          clear hF hT hLL
          go_wp2_with fail
          refine (left_any _ _ _ _ _ wr hS).mono ?_
          rintro e w3 ⟨rfl, hF⟩
          have hS3 := hS.kept hF.size fun k hk => hF.block k (hS.lt k hk) id
          have HF3 : Hid (Frm (fun _ => False) w w3) := HF1.out.trans hF (fun k hk => hk.elim)
          have hcx3 : w3.cell? ⟨g, o + k, none⟩ = some (.int .i64 ask) := HF3.out.cell hcx id
          clear hF hS HF1
          go_wp2_with fail
          refine (next_any K b brk T.length L1 ask w3 hS3).mono ?_
          rintro e w4 ⟨va, rfl, hva, hS4, hF⟩
          have HF4 : Hid (Frm (fun _ => False) w w4) := HF3.out.trans hF (fun k hk => .inr (Hk.out k hk))
          have hva4 := hva.apart (K2 := fun _ => False) (fun _ _ h => h)
          have ea := run_conv (P := Try.prog) Try.underlying30 Try.underlying5 Try.underlying9 hva4
          change _ = Result.ok (Value.string (str (nextL L1 ask).1)) _ at ea
          have hcx4 : w4.cell? ⟨g, o + k, none⟩ = some (.int .i64 ask) := HF4.out.cell hcx id
          obtain ⟨A2, n2, c2, rfl, hn2, hc2, hm2, hx2⟩ := id hva4
          have hfl := next_flat L1 ask
          have hro := round_ok L1 ask
          rw [bv_length] at hn2
          rw [← hn2] at hro
          have HN := Lib.hid (And.intro hn2 (And.intro hfl hro))
          clear hF hS3 hva hva4 hcx3 HF3 hx2 hn2 hfl hro
          generalize (nextL L1 ask).1 = ra at *
          generalize (nextL L1 ask).2.1 = rb at *
          generalize (nextL L1 ask).2.2 = L2 at *
          have hsz1 : (str T).size ≤ 3000 := by have := HT.out; have h2 := Hg.out.2; rw [← tot_flat, ← this] at h2; simp at h2 ⊢; omega
          have hsz2 : (str ra).size ≤ 3000 := by
            have h1 := HT.out; have h3 := HN.out.2.1; have h2 := Hg.out.2
            rw [← tot_flat, ← h1, ← h3] at h2; simp at h2 ⊢; omega
          go_wp2_with fail
          refine (left_any _ _ _ _ _ w4 hS4).mono ?_
          rintro e w5 ⟨rfl, hF⟩
          have hS5 := hS4.kept hF.size fun k hk => hF.block k (hS4.lt k hk) id
          have HF5 : Hid (Frm (fun _ => False) w w5) := HF4.out.trans hF (fun k hk => hk.elim)
          have hcx5 : w5.cell? ⟨g, o + k, none⟩ = some (.int .i64 ask) := HF5.out.cell hcx id
          clear hF hS4 HF4 hcx4 ea
          have hcat : str T ++ str ra = str (T ++ ra) := by
            apply ByteArray.ext; apply Array.toList_inj.1
            simp [str]
          have hts : (str (T ++ ra)).size = T.length + ra.length := by simp
          have hpre : T ++ ra ++ L2.flatten = L0.flatten := by rw [List.append_assoc, HN.out.2.1]; exact HT.out
          have hext : sA.extract 0 (T.length + ra.length) = str (T ++ ra) := by
            rw [← HsA.out]
            apply ByteArray.ext; apply Array.toList_inj.1
            rw [← hpre]; simp only [str, ByteArray.data_extract, Array.toList_extract, List.extract_eq_take_drop, Nat.sub_zero, List.drop_zero]
            rw [← List.length_append, List.take_left]
          have hall : sA.size = T.length + ra.length + tot L2 := by rw [← HsA.out, str_size, ← hpre, tot_flat']; simp; omega
          have hro := HN.out.2.2
          have HP := Lib.hid hpre
          rw [hcat]
          clear hcat hpre hsz1 hsz2
          generalize hsT : str (T ++ ra) = sT at *
          have HS := Lib.hid (And.intro HsA.out hsT)
          clear hsT
          generalize hL1 : L1.length = nL1 at *
          generalize hL2 : L2.length = nL2 at *
          generalize hm1 : tot L1 = m1 at *
          generalize hm2 : tot L2 = m2 at *
          generalize hq : T.length + ra.length = ts at *
          have HL := Lib.hid (And.intro hL1 (And.intro hL2 (And.intro hm1 (And.intro hm2 hq))))
          clear hL1 hL2 hm1 hm2 hq
          obtain ⟨r1, r2, r3, r4, r5, r6, r7⟩ := hro
          generalize hh : sA.size = aS at *
          have h1 : aS ≤ 3000 := by omega
          have h2 : ts ≤ aS := by omega
          have hb1 : ((m2 : Int) != (aS : Int) - (ts : Int)) = false := by simp only [bne_eq_false_iff_eq]; omega
          have hb2 : ((m1 : Int) - (m2 : Int) != (n2 : Int)) = false := by simp only [bne_eq_false_iff_eq]; omega
          have h3 : m1 ≤ 3000 := by have := Hg.out.2; have := HT.out; have h5 := HL.out.2.2.1; have h6 := tot_flat L0; rw [← this, List.length_append, tot_flat] at h6; omega
          have h4 : n2 ≤ 3000 := by omega
          have h9 : nL1 ≤ 80 := by have := HLL.out; have := HL.out.1; have := Hg.out.1; omega
          have hle : (n2 : Int) ≤ if ask < 0 then 0 else ask := r4
          have hk1 : ((nL2 : Int) < (nL1 : Int) - 1) = False := by simp; omega
          have HR := Lib.hid (And.intro hall (And.intro r1 (And.intro r2 (And.intro r3 (And.intro r4 (And.intro r5 (And.intro r6 (And.intro r7 (And.intro hw1 hw2)))))))))
          have HX := Lib.hid (And.intro ec (And.intro hrel0 (And.intro hc (And.intro hm hz))))
          have HZ := Lib.hid (And.intro hka (And.intro hcx (And.intro hk (And.intro hlt hg))))
          clear hlen hall r1 r2 r3 r4 r5 r6 r7 hw1 hw2 ec hrel0 hc hm hz hka hcx hg hle hk1
          go_upto_region 13 with fail
          go_cut [116] (fun t wc => wc = w5 ∧ t = .bool false)
          case first =>
            have Hx := Lib.hid hcx5
            have hd1 : decide (aS < ts) = false := by simp; omega
            have h10 : m2 ≤ m1 := by have := HR.out.2.1; omega
            clear hcx5 h9
            cases rb with
            | true =>
              have e1 : nL1 = 0 := HR.out.2.2.1.1 rfl
              have e2 : n2 = 0 := HR.out.2.2.2.1 rfl
              have e3 : m1 = m2 := by have := HR.out.2.1; omega
              clear HR HL HLL HN
              subst e1; subst e2; subst e3
              have hb2 : ((m1 : Int) - (m1 : Int) != 0) = false := by simp
              go_wp2_with fail
              refine (told_any _ _ _ _ _ _ hS5).mono ?_; rintro e w' ⟨rfl, rfl⟩
              go_wp2_with fail
              go_meet
              case rel => exact ⟨rfl, rfl⟩
            | false =>
              have e1 : 0 < nL1 := by
                rcases Nat.eq_zero_or_pos nL1 with h | h
                · exact absurd (HR.out.2.2.1.2 h) (by decide)
                · exact h
              have hb3 : ((nL1 : Int) == 0) = false := by simp; omega
              go_wp2_with fail
              refine (told_any _ _ _ _ _ _ hS5).mono ?_; rintro e w' ⟨rfl, rfl⟩
              go_wp2_with fail
              go_meet
              case rel => exact ⟨rfl, rfl⟩
          case rest =>
            obtain ⟨rfl, rfl⟩ := hcut
            have HB := Lib.hid (And.intro hS5 (And.intro hts (And.intro hext (And.intro hh (And.intro h1 (And.intro h2 (And.intro hb1 (And.intro hb2 h3))))))))
            clear hS5 hts hext hh h1 h2 hb1 hb2 h3
            go_upto_region 15 with fail
            go_cut [161] (fun t wx => wx = wc ∧ t = .bool false)
            case first =>
              have hd2 : decide (nL1 < nL2) = false := by have := HR.out.2.2.2.2.2.2.1; simp; omega
              have hd3 : decide ((nL2 : Int) < (nL1 : Int) - 1) = false := by have := HR.out.2.2.2.2.2.1; simp; omega
              cases rb with
              | true =>
                have e1 : nL1 = 0 := HR.out.2.2.1.1 rfl
                have e2 : n2 = 0 := HR.out.2.2.2.1 rfl
                have e3 : nL2 = 0 := by have := HR.out.2.2.2.2.2.2.1; omega
                clear HR HL HLL HN HB hd2 hd3
                subst e1; subst e2; subst e3
                rcases (show 1 ≤ ask ∨ ask < 0 ∨ ask = 0 by omega) with h5 | h5 | rfl
                · have h6 : decide (ask < 0) = false := by simp; omega
                  go_wp2_with fail
                  go_meet
                  case rel => exact ⟨rfl, rfl⟩
                · go_wp2_with fail
                  go_meet
                  case rel => exact ⟨rfl, rfl⟩
                · go_wp2_with fail
                  go_meet
                  case rel => exact ⟨rfl, rfl⟩
              | false =>
                have r4 := HR.out.2.2.2.2.1
                have r7 := HR.out.2.2.2.2.2.2.2.1
                rcases (show 1 ≤ ask ∨ ask < 0 ∨ ask = 0 by omega) with h5 | h5 | rfl
                · have h6 : decide (ask < 0) = false := by simp; omega
                  rw [if_neg (by omega)] at r4
                  have h8 : decide (ask < (n2 : Int)) = false := by simp; omega
                  by_cases h7 : (n2 : Int) = ask
                  · have h7' : ((n2 : Int) != ask) = false := by simp [h7]
                    clear h7 r4 r7 HR HL HLL HN HB
                    go_wp2_with fail
                    go_meet
                    case rel => exact ⟨rfl, rfl⟩
                  · have h7' : ((n2 : Int) != ask) = true := by simp [h7]
                    have h7'' : ((nL2 : Int) != (nL1 : Int) - 1) = false := by have := r7 h5 rfl h7; simp; omega
                    clear h7 r4 r7 HR HL HLL HN HB
                    go_wp2_with fail
                    go_meet
                    case rel => exact ⟨rfl, rfl⟩
                · rw [if_pos h5] at r4
                  have h7 : n2 = 0 := by omega
                  clear r4 r7 HR HL HLL HN HB
                  subst h7
                  go_wp2_with fail
                  go_meet
                  case rel => exact ⟨rfl, rfl⟩
                · rw [if_neg (by omega)] at r4
                  have h7 : n2 = 0 := by omega
                  clear r4 r7 HR HL HLL HN HB
                  subst h7
                  go_wp2_with fail
                  go_meet
                  case rel => exact ⟨rfl, rfl⟩
            case rest =>
              obtain ⟨rfl, rfl⟩ := hcut
              go_wp2_with fail
              go_roundw
              case rel =>
                refine ⟨k + 1, by have := HZ.out.2.2.2.1; omega, by go_num, L2, T ++ ra, ?_, HP.out, by rw [HS.out.2], ?_, HF5.out⟩
                · have := HL.out.2.2.2.2; rw [List.length_append, this]; exact HB.out.1
                · have h1 := HL.out.2.1; have h2 := HLL.out; have h3 := HR.out.2.2.2.2.2.2.1; omega
              case measure => have := HZ.out.2.2.2.1; simp [intOf]; omega
        · obtain ⟨L1, T, hS, hT, rfl, hLL, hF⟩ := hrel
          obtain rfl : k = n := by omega
          have hrel1 : AftRel w K b brk L0 (pot (L0.drop 0)) (.string (str T)) wr := ⟨L1, T, hS, hT, rfl, by
            have h1 : tot L0 = T.length + tot L1 := by rw [tot_flat', tot_flat', ← hT, List.length_append]
            simp only [pot, List.drop_zero]; omega, hF⟩
          generalize Value.string (str T) = t at *
          have HX := Lib.hid (And.intro ec (And.intro hrel0 (And.intro hc (And.intro hm hz))))
          clear hrel0 hS hT hF hLL ec hc hm hz
          have hn80 : n0 ≤ 80 := by have h1 := Hs.out.2.2.2.1; have h2 := Hs.out.2.1.1; have := Hg.out.1; simp at h2; omega
          go_wp2_with fail
          go_loopw [9, 17] (fun t i wr => ∃ j : Nat, j ≤ n0 ∧ i = .int .i64 j ∧ AftRel w K b brk L0 (pot (L0.drop j)) t wr) (fun _ i _ => n0 - (intOf i).toNat)
          case atStart => exact ⟨0, Nat.zero_le _, rfl, hrel1⟩
          case round =>
            clear hrel1
            obtain ⟨j, hj, rfl, hrel⟩ := hrel
            by_cases hjn : j < n0
            · obtain ⟨g0, o0, hA0, hg0, hcs0⟩ := Hs.out.2.2.2.2.1.resolve_left (by omega)
              have hjx : j < xs.length := by have := Hs.out.2.2.2.1; omega
              have hjL : j < L0.length := by have h2 := Hs.out.2.1.1; simp at h2; omega
              have hc0 : w.cell? ⟨g0, o0 + j, none⟩ = some (hdr xs[j]) := hcs0 j hjx
              have hlen : xs[j].2.1 = L0[j].length := by
                obtain ⟨A1, m1, c1, hv, hm1, _⟩ := Hs.out.2.1.2 j (hdr xs[j]) L0[j] (by simp [hjx]) (List.getElem?_eq_getElem hjL)
                simp only [hdr, Value.slice.injEq] at hv
                rw [hv.2.1, hm1, bv_length]
              have hpot : pot (L0.drop j) = xs[j].2.1 + 1 + pot (L0.drop (j + 1)) := by
                rw [List.drop_eq_getElem_cons hjL, hlen]; simp only [pot, List.length_cons, tot_cons]; omega
              have hl3 : xs[j].2.1 ≤ 3000 := by
                have h1 := Hg.out.2
                have h2 : L0[j].length ≤ tot L0 := by
                  have h3 := tot_append (L0.take j) (L0.drop j)
                  rw [List.take_append_drop, List.drop_eq_getElem_cons hjL, tot_cons] at h3
                  omega
                omega
              rw [hpot] at hrel
              subst hA0
              clear hcs0 hlen hpot
              simp only [hdr] at hc0
              generalize xs[j] = x at *
              obtain ⟨a1, n1, c1⟩ := x
              dsimp only at hl3 hrel hc0
              have hrelO := hrel
              clear hrel
              go_wp2_with fail
              go_loopw [9, 18] (fun t i wr => ∃ q : Nat, q ≤ n1 + 1 ∧ i = .int .i64 q ∧ AftRel w K b brk L0 (n1 + 1 - q + pot (L0.drop (j + 1))) t wr) (fun _ i _ => n1 + 1 - (intOf i).toNat)
              case atStart => exact ⟨0, Nat.zero_le _, rfl, hrelO⟩
              case round =>
                clear hrelO
                obtain ⟨q, hq, rfl, L1, T, hS, hT, rfl, hp, hF⟩ := hrel
                by_cases hqn : q ≤ n1
                · have hc1 : wr.cell? ⟨g0, o0 + j, none⟩ = some (.slice a1 n1 c1) := hF.cell hc0 id
                  have HF1 := Lib.hid (And.intro hF (And.intro hT hp))
                  clear hF hT hp
                  go_wp2_with fail
                  refine (next_any K b brk T.length L1 (1 + (n1 : Int)) wr hS).mono ?_
                  rintro e w4 ⟨va, rfl, hva, hS4, hF4⟩
                  have HF4 : Hid (Frm (fun _ => False) w w4) := HF1.out.1.trans hF4 (fun k hk => .inr (Hk.out k hk))
                  have hva4 := hva.apart (K2 := fun _ => False) (fun _ _ h => h)
                  have ea := run_conv (P := Try.prog) Try.underlying30 Try.underlying5 Try.underlying9 hva4
                  change _ = Result.ok (Value.string (str (nextL L1 (1 + (n1 : Int))).1)) _ at ea
                  have hfl := next_flat L1 (1 + (n1 : Int))
                  have hpo := next_pot L1 (1 + (n1 : Int)) (by omega)
                  have HN := Lib.hid (And.intro hfl (And.intro hpo hS4))
                  clear hfl hpo hS4 hF4 hS hva hva4
                  generalize (nextL L1 (1 + (n1 : Int))).1 = ra at *
                  generalize (nextL L1 (1 + (n1 : Int))).2.1 = rb at *
                  generalize (nextL L1 (1 + (n1 : Int))).2.2 = L2 at *
                  have hsz1 : (str T).size ≤ 3000 := by have := HF1.out.2.1; have h2 := Hg.out.2; rw [← tot_flat, ← this] at h2; simp at h2 ⊢; omega
                  have hsz2 : (str ra).size ≤ 3000 := by
                    have h1 := HF1.out.2.1; have h3 := HN.out.1; have h2 := Hg.out.2
                    rw [← tot_flat, ← h1, ← h3] at h2; simp at h2 ⊢; omega
                  go_wp2_with fail
                  go_roundw
                  case rel =>
                    refine ⟨q + 1, by omega, by go_num, L2, T ++ ra, ?_, ?_, ?_, ?_, HF4.out⟩
                    · rw [List.length_append]; exact HN.out.2.2
                    · rw [List.append_assoc, HN.out.1]; exact HF1.out.2.1
                    · congr 1
                    · have h1 := HN.out.2.1; have h2 := HF1.out.2.2; omega
                  case measure => simp [intOf]; omega
                · obtain rfl : q = n1 + 1 := by omega
                  have hc1 : wr.cell? ⟨g0, o0 + j, none⟩ = some (.slice a1 n1 c1) := hF.cell hc0 id
                  have hrelN : AftRel w K b brk L0 (pot (L0.drop (j + 1))) (.string (str T)) wr := ⟨L1, T, hS, hT, rfl, by omega, hF⟩
                  generalize Value.string (str T) = t at *
                  clear hS hT hp hF
                  go_wp2_with fail
                  go_roundw
                  case rel => exact ⟨j + 1, by omega, by go_num, hrelN⟩
                  case measure => simp [intOf]; omega
            · obtain rfl : j = n0 := by omega
              obtain ⟨L1, T, hS, hT, rfl, hp, hF⟩ := hrel
              have hL1 : L1 = [] := pot_nil (by
                have h2 := Hs.out.2.1.1; have h3 := Hs.out.2.2.2.1
                simp at h2
                rw [List.drop_of_length_le (by omega)] at hp
                simpa [pot] using hp)
              subst hL1
              have hTs : str T = sA := by rw [← HsA.out, ← hT]; simp
              rw [hTs]
              have hts : T.length = sA.size := by rw [← hTs]; rfl
              rw [hts] at hS
              have HF1 := Lib.hid (And.intro hF (And.intro hT (And.intro hTs hts)))
              clear hF hT hp hTs hts
              go_wp2_with fail
              refine (next_eq K b brk sA.size [] 1 wr hS (show nextL [] 1 = ([], true, []) from by decide)).mono ?_
              rintro e w4 ⟨va, rfl, hva, hS4, hF4⟩
              have HF4 : Hid (Frm (fun _ => False) w w4) := HF1.out.1.trans hF4 (fun k hk => .inr (Hk.out k hk))
              obtain ⟨A2, n2, c2, rfl, hn2, _⟩ := hva
              have hn2' : n2 = 0 := by simpa using hn2
              subst hn2'
              clear hn2 hS hF4
              go_wp2_with fail
              refine (told_any _ _ _ _ _ _ hS4).mono ?_; rintro e w' ⟨rfl, rfl⟩
              go_wp2_with fail
              refine (wakes_any w4).mono ?_
              rintro e w5 ⟨rfl, hF5⟩
              go_wp2_with fail
              go_ret
              exact ⟨rfl, HF4.out.trans hF5 (fun _ h => h.elim)⟩
end Go.Proofs.Ytddhejgbidmmjaa
