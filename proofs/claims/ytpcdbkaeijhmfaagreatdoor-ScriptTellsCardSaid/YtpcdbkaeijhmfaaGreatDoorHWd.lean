/- script: words, the iterator over a line's words. -/
import Derived.RangeFuncBound
import Derived.RangeFuncLeaves
import Derived.RangeFuncFrom
import Derived.RangeFuncBox
import Derived.Shelf.Abstract
import Derived.Shelf.RegionOpen
import Derived.OwnWalkIn
import Derived.TacticsInMore
import Derived.LoopNIn
import Derived.LoopIn
import Derived.Sort.CutIn
import Derived.Deep.Onto
import Derived.Test.YtpcdbkaeijhmfaaGreatDoorGD
namespace Go.Proofs.YtpcdbkaeijhmfaaGreatDoor
set_option maxRecDepth 100000
set_option linter.unusedVariables false
set_option linter.unusedSimpArgs false
open Go.RowKit Go.Shelf
attribute [local go_sem] Oper.semAt_some
theorem ba_extract (l : By) (i j : Nat) : (ba l).extract i j = ba ((l.take j).drop i) := by
  apply ByteArray.ext
  rw [ByteArray.data_extract]
  show l.toArray.extract i j = ((l.take j).drop i).toArray
  simp [List.extract_toArray, List.drop_take]
theorem run_from {P : Program} {t : TypeId} (ht : P.underlying t = some .string) (l : By) (k : Nat) (hk : k ≤ l.length) (w : World) : (Instr.slice t (.string (ba l)) (some (.int .i64 k)) none none).run P w = .ok (.string (ba (l.drop k))) w := by
  rw [run_slice_string_l w t (ba l) ht .i64 (k : Int) (by omega) (by rw [ba_size]; omega), ba_extract, ba_size, List.take_length]
  simp
theorem run_to {P : Program} {t : TypeId} (ht : P.underlying t = some .string) (l : By) (k : Nat) (hk : k ≤ l.length) (w : World) : (Instr.slice t (.string (ba l)) none (some (.int .i64 k)) none).run P w = .ok (.string (ba (l.take k))) w := by
  rw [run_slice_string_h w t (ba l) ht .i64 (k : Int) (by omega) (by rw [ba_size]; omega), ba_extract]
  simp
theorem wordsB_nil {l : By} (h : l.dropWhile (· == 32) = []) : wordsB l = [] := by
  rw [wordsB]; split
  · rfl
  · next c r h' => rw [h] at h'; cases h'
theorem wordsB_cons {l : By} {c : UInt8} {r : By} (h : l.dropWhile (· == 32) = c :: r) : wordsB l = (c :: r).take (max 1 (endB (c :: r))) :: wordsB ((c :: r).drop (max 1 (endB (c :: r)))) := by
  rw [wordsB]; split
  · next h' => rw [h] at h'; cases h'
  · next c' r' h' => rw [h] at h'; cases h'; rfl
theorem idx_byte (l : By) (c : UInt8) : Lib.indexByte l c = match l.idxOf? c with | some k => (k : Int) | none => -1 := by
  induction l with
  | nil => rfl
  | cons b l ih =>
    unfold Lib.indexByte List.idxOf?
    rw [List.findIdx?_cons, ih]
    unfold List.idxOf?
    cases h : (b == c) with
    | true => simp
    | false => cases List.findIdx? (fun x => x == c) l with
      | none => simp
      | some k => simp
/-- Where the word's end is looked for. -/
def begB (c : UInt8) (r : By) : Nat := if c = 34 then (match r.idxOf? 34 with | some k => k + 2 | none => 0) else 0
theorem endB_eq (c : UInt8) (r : By) : endB (c :: r) = begB c r + (((c :: r).drop (begB c r)).takeWhile (· != 32)).length := rfl
theorem begB_le (c : UInt8) (r : By) : begB c r ≤ r.length + 1 := by
  unfold begB
  split
  · split
    · next k hk =>
      have := (List.findIdx?_eq_some_iff_getElem.1 hk).1
      omega
    · omega
  · omega
theorem endB_bounds (c : UInt8) (r : By) (hc : c ≠ 32) : 1 ≤ endB (c :: r) ∧ endB (c :: r) ≤ r.length + 1 := by
  have h1 := begB_le c r
  have h2 : (((c :: r).drop (begB c r)).takeWhile (· != 32)).length ≤ ((c :: r).drop (begB c r)).length := (List.takeWhile_sublist _).length_le
  rw [List.length_drop, List.length_cons] at h2
  rw [endB_eq]
  refine ⟨?_, by omega⟩
  rcases Nat.eq_zero_or_pos (begB c r) with h0 | h0
  · rw [h0]; simp [hc]
  · omega
/-- One byte on. -/
theorem end_step (l : By) (e : Nat) (d : UInt8) (hd : l[e]? = some d) : ((l.drop e).takeWhile (· != 32)).length = if d = 32 then 0 else ((l.drop (e + 1)).takeWhile (· != 32)).length + 1 := by
  obtain ⟨hk, he⟩ := List.getElem?_eq_some_iff.1 hd
  rw [List.drop_eq_getElem_cons hk, he]
  by_cases h : d = 32
  · simp [h]
  · simp [h]
def lenBox (w : World) (b : Nat) : Nat := match w.cell? ⟨b, 0, none⟩ with | some (.string s) => s.size | _ => 0
theorem lenBox_eq {w : World} {b : Nat} {l : By} (h : Blk w b 9 #[.string (ba l)]) : lenBox w b = l.length := by
  have : w.cell? ⟨b, 0, none⟩ = some (.string (ba l)) := h.cell 0
  unfold lenBox; rw [this]; rfl
set_option maxRecDepth 100000 in
set_option maxHeartbeats 4000000 in
theorem words1_in (n : Nat) (hn : 3 ≤ n) (l b n₀ : Nat) (t : By) (J : List By → World → Prop) (ht : t.length ≤ 1000000) (hJ : ∀ pre X Y, J pre X → Frm (fun q => q = b) X Y → J pre Y)
    (hY : ∀ pre x W1, J pre W1 → sGood n₀ x W1 → pre.length < t.length + 1 → YieldAt Fence.wide (n - 1) Tryz.prog l #[sEnc x] W1 fun e W' => e = .returned (.bool true) ∧ J (pre ++ [x]) W' ∧ Frm (fun q => n₀ ≤ q) W1 W')
    (W : World) (hb : Blk W b 9 #[.string (ba t)]) (hlt : b < n₀ ∧ n₀ ≤ W.heap.size) (h0 : J [] W) :
    CallsIn Fence.wide n Tryz.prog 66 #[.func (.yield l) #[] #[], .pointer (some ⟨b, 0, none⟩)] W fun e W' => (∃ v, e = .returned v) ∧ ∃ ys, ys = wordsB t ∧ J ys W' := by
  refine callsIn_of_wp Tryz.func66 rfl trivial ?_ rfl
  simp only [Tryz.ntmps66, List.size_toArray, List.length_cons, List.length_nil, Nat.reduceAdd, Nat.reduceSub, Array.replicate_succ, Array.replicate_zero, List.push_toArray, List.append_toArray, List.nil_append, List.cons_append]
  have HL := Lib.hid (And.intro ht (And.intro hJ (And.intro hY hlt)))
  have HT : Hid (∃ pre cur, Blk W b 9 #[.string (ba cur)] ∧ J pre W ∧ wordsB t = pre ++ wordsB cur ∧ pre.length + cur.length ≤ t.length) := Lib.hid ⟨[], t, hb, h0, rfl, by simp⟩
  clear ht hJ hY hlt hb h0
  gi_wp2
  gi_loopw [] (fun wr => Hid (∃ pre cur, Blk wr b 9 #[.string (ba cur)] ∧ J pre wr ∧ wordsB t = pre ++ wordsB cur ∧ pre.length + cur.length ≤ t.length)) (fun wr => lenBox wr b)
  case atStart => exact HT
  case round =>
    clear HT
    obtain ⟨pre, cur, hB, hJp, hwd, hlen⟩ := hrel.out
    have hc0 : wr.cell? ⟨b, 0, none⟩ = some (.string (ba cur)) := hB.cell 0
    have hf0 := hB.frozen 0
    have htr : Calls Tryz.prog 67 #[.string (ba cur), .string ⟨#[32]⟩] wr fun e w' => e = .returned (.string (ba (cur.dropWhile (· == 32)))) ∧ w' = wr := Tryz.strings_TrimLeft_one (ba cur) 32 (by decide) wr
    have hl1 : (cur.dropWhile (· == 32)).length ≤ cur.length := (List.dropWhile_sublist _).length_le
    have HA := Lib.hid (And.intro hB (And.intro hJp (And.intro hwd (And.intro hlen (lenBox_eq hB)))))
    obtain ⟨cu, hcu⟩ : ∃ cu, cu = cur.dropWhile (· == 32) := ⟨_, rfl⟩
    rw [← hcu] at htr hl1
    have Hcu := Lib.hid (And.intro hcu.symm hl1)
    clear hB hJp hwd hlen hrel hcu hl1
    gi_wp2_with fail
    refine ⟨trivial, fun _ => by omega, ?_⟩
    refine (callsIn_wide.2 htr).mono ?_
    rintro e w0 ⟨rfl, rfl⟩
    clear htr
    cases cu with
    | nil =>
      have hem : (ba []).toList.isEmpty = true := by rw [ba_toList]; rfl
      generalize ba [] = S at *
      gi_wp2_with fail
      refine bodyPost_ret (results_none rfl _ _ _) rfl ?_
      obtain ⟨hB, hJp, hwd, hlen, -⟩ := HA.out
      refine ⟨⟨_, rfl⟩, pre, ?_, HL.out.2.1 _ _ _ hJp ((Frm.refl (fun q => q = b) w0).setCell ⟨b, 0, none⟩ (.inl rfl) _)⟩
      rw [hwd, wordsB_nil Hcu.out.1]; simp
    | cons c r =>
      have hc32 : c ≠ 32 := by
        have := List.head?_dropWhile_not (· == (32 : UInt8)) cur
        rw [Hcu.out.1] at this
        simpa using this
      have hem : (ba (c :: r)).toList.isEmpty = false := by rw [ba_toList]; rfl
      have hi0 : ∀ w, (Instr.index 9 (.string (ba (c :: r))) (.int .i64 0)).run Tryz.prog w = .ok (.int .u8 c.toNat) w := run_at (P := Tryz.prog) Tryz.underlying9 (c :: r) 0 c rfl
      have hfr : ∀ w, (Instr.slice 9 (.string (ba (c :: r))) (some (.int .i64 1)) none none).run Tryz.prog w = .ok (.string (ba r)) w := run_from (P := Tryz.prog) Tryz.underlying9 (c :: r) 1 (by simp)
      have Hix := Lib.hid (run_at (P := Tryz.prog) Tryz.underlying9 (c :: r))
      have Hto := Lib.hid (run_to (P := Tryz.prog) Tryz.underlying9 (c :: r))
      have Hfr := Lib.hid (run_from (P := Tryz.prog) Tryz.underlying9 (c :: r))
      have hlen : (ba (c :: r)).size = r.length + 1 := rfl
      have hr9 : r.length ≤ 1000000 := by have := Hcu.out.2; have := HA.out.2.2.2.1; have := HL.out.1; rw [List.length_cons] at *; omega
      have Hs := Lib.hid hlen
      obtain ⟨m, hm⟩ : ∃ m, m = r.length + 1 := ⟨_, rfl⟩
      rw [← hm] at hlen
      have Hm := Lib.hid hm
      have hib : ∀ w, Calls Tryz.prog 68 #[.string (ba r), .int .u8 34] w fun e w' => e = .returned (.int .i64 (match r.idxOf? 34 with | some k => (k : Int) | none => -1)) ∧ w' = w := fun w => by
        have := Tryz.strings_IndexByte (ba r) 34 w
        rw [ba_data, show ((34 : Int).toNat).toUInt8 = 34 by decide, idx_byte] at this
        exact this
      generalize ba (c :: r) = S at *
      gi_upto_region 1 with fail
      have hF1 : Frm (fun q => q = b) w0 (w0.setCell ⟨b, 0, none⟩ (.string S)) := (Frm.refl (fun q => q = b) w0).setCell ⟨b, 0, none⟩ (.inl rfl) _
      have hB1 : Blk (w0.setCell ⟨b, 0, none⟩ (.string S)) b 9 #[.string S] := HA.out.1.set_ 0 (.string S)
      generalize w0.setCell ⟨b, 0, none⟩ (.string S) = w1 at *
      have hc1 : w1.cell? ⟨b, 0, none⟩ = some (.string S) := hB1.cell 0
      have hf1 := hB1.frozen 0
      have H1 := Lib.hid (And.intro hF1 hB1)
      clear hc0 hf0 hF1 hB1 hm
      gi_upto_if 11 with fail
      gi_cut [3] from 9 (fun t wc => wc = w1 ∧ t = .int .i64 (begB c r : Nat))
      case first =>
        by_cases h34 : c = 34
        · subst h34
          have hbeg : begB 34 r = match r.idxOf? 34 with | some k => k + 2 | none => 0 := rfl
          have hib1 := hib w1
          have hi0 : ∀ w, (Instr.index 9 (.string S) (.int .i64 0)).run Tryz.prog w = .ok (.int .u8 34) w := hi0
          clear hib
          cases hk : r.idxOf? 34 with
          | none =>
            rw [hk] at hib1 hbeg
            have Hb := Lib.hid hbeg
            clear hk hbeg
            gi_wp2_with fail
            refine ⟨trivial, fun _ => by omega, ?_⟩
            refine (callsIn_wide.2 hib1).mono ?_
            rintro e w2 ⟨rfl, rfl⟩
            gi_wp2_with fail
            gi_meet
            case rel => exact ⟨rfl, by rw [Hb.out]; rfl⟩
          | some k =>
            rw [hk] at hib1 hbeg
            have Hb := Lib.hid hbeg
            have hk9 : k ≤ 1000000 := by
              have := (List.findIdx?_eq_some_iff_getElem.1 hk).1
              omega
            clear hk hbeg
            gi_wp2_with fail
            refine ⟨trivial, fun _ => by omega, ?_⟩
            refine (callsIn_wide.2 hib1).mono ?_
            rintro e w2 ⟨rfl, rfl⟩
            gi_wp2_with fail
            gi_meet
            case rel => exact ⟨rfl, by rw [Hb.out]; rfl⟩
        · have hbeg : begB c r = 0 := if_neg h34
          have Hb := Lib.hid hbeg
          have g34 : ((c.toNat : Int) == 34) = false := by
            simp only [beq_eq_false_iff_ne, ne_eq]
            intro h
            exact h34 (UInt8.toNat_inj.1 (show c.toNat = 34 by omega))
          clear h34 hbeg
          gi_wp2_with fail
          gi_meet
          case rel => exact ⟨rfl, by rw [Hb.out]; rfl⟩
      case rest =>
        obtain ⟨rfl, rfl⟩ := hcut
        clear hib hi0 hfr
        gi_wp2_with fail
        gi_loopw [3] (fun t wq => ∃ e : Nat, e ≤ m ∧ wq = wc ∧ t = .int .i64 e ∧ Hid (e + (((c :: r).drop e).takeWhile (· != 32)).length = endB (c :: r))) (fun t _ => m - (intOf t).toNat)
        case atStart => exact ⟨begB c r, by have := begB_le c r; have := Hm.out; omega, rfl, rfl, Lib.hid (endB_eq c r).symm⟩
        case round =>
          obtain ⟨e, hem, rfl, rfl, hE⟩ := hrel
          by_cases hlt : e < m
          · obtain ⟨d, hd⟩ : ∃ d, (c :: r)[e]? = some d := ⟨_, List.getElem?_eq_getElem (by have := Hm.out; rw [List.length_cons]; omega)⟩
            have hd1 := Hix.out e d hd
            have hst := end_step (c :: r) e d hd
            have he0 : 0 ≤ (e : Int) := by omega
            by_cases h32 : d = 32
            · subst h32
              have hd1 : ∀ w, (Instr.index 9 (.string S) (.int .i64 e)).run Tryz.prog w = .ok (.int .u8 32) w := hd1
              have HE := Lib.hid (show e = endB (c :: r) by have := hE.out; rw [hst, if_pos rfl] at this; omega)
              clear hst hd
              have htk := Hto.out e (by have := Hm.out; rw [List.length_cons]; omega)
              have hdp := Hfr.out e (by have := Hm.out; rw [List.length_cons]; omega)
              have hJ1 := HL.out.2.1 _ _ _ HA.out.2.1 H1.out.1
              have hY1 := HL.out.2.2.1 pre ((c :: r).take e) wr hJ1 trivial (by have := HA.out.2.2.2.1; omega)
              simp only [sEnc] at hY1
              obtain ⟨fn, tmps, assign, body, hy, hRd⟩ := hY1
              have hem9 : e ≤ 1000001 := by have := Hm.out; omega
              clear hJ1
              gi_wp2_with fail
              refine ⟨fun _ => by omega, hRd.mono ?_⟩
              rintro e4 w4 ⟨rfl, hJ4, hk4⟩
              have hbn : ¬ n₀ ≤ b := by have := HL.out.2.2.2; omega
              have hB4 := H1.out.2.kept hk4 hbn
              have hc4 : w4.cell? ⟨b, 0, none⟩ = some (.string S) := hB4.cell 0
              have hf4 := hB4.frozen 0
              have H4 := Lib.hid (And.intro hJ4 hB4)
              clear hJ4 hk4 hB4 hc1 hf1 hRd hy
              gi_wp2_with fail
              go_roundw
              case rel =>
                obtain ⟨hB, hJp, hwd, hlen, hlb⟩ := HA.out
                refine Lib.hid ⟨pre ++ [(c :: r).take e], (c :: r).drop e, H4.out.2.set_ 0 _, HL.out.2.1 _ _ _ H4.out.1 ((Frm.refl (fun q => q = b) w4).setCell ⟨b, 0, none⟩ (.inl rfl) _), ?_, ?_⟩
                · rw [hwd, wordsB_cons Hcu.out.1, Nat.max_eq_right (endB_bounds c r hc32).1, ← HE.out]; simp
                · have h1 : (c :: r).length ≤ cur.length := Hcu.out.2
                  have h2 : 1 ≤ e := by rw [HE.out]; exact (endB_bounds c r hc32).1
                  have g1 : (pre ++ [(c :: r).take e]).length = pre.length + 1 := by simp
                  have g2 : ((c :: r).drop e).length = (c :: r).length - e := List.length_drop
                  have g3 : 1 ≤ (c :: r).length := by simp
                  omega
              case measure =>
                have h5 := lenBox_eq (H4.out.2.set_ 0 (.string (ba ((c :: r).drop e))))
                rw [h5, HA.out.2.2.2.2]
                have h1 := Hcu.out.2
                have h2 := (endB_bounds c r hc32).1
                have h3 := HE.out
                rw [List.length_drop, List.length_cons] at *
                omega
            · have g32 : ((d.toNat : Int) != 32) = true := by
                simp only [bne_iff_ne, ne_eq]
                intro h
                exact h32 (UInt8.toNat_inj.1 (show d.toNat = 32 by omega))
              have HE := Lib.hid (show (e + 1) + (((c :: r).drop (e + 1)).takeWhile (· != 32)).length = endB (c :: r) by have := hE.out; rw [hst, if_neg h32] at this; omega)
              have he9 : e ≤ 1000001 := by have := Hm.out; omega
              clear hst hd h32
              gi_wp2_with fail
              go_roundw
              case rel => exact ⟨e + 1, by omega, by first | rfl | trivial, by go_num, HE⟩
              case measure => simp [intOf]; omega
          · obtain rfl : e = m := by omega
            have HE := Lib.hid (show e = endB (c :: r) by have := hE.out; rw [List.drop_of_length_le (by have := Hm.out; rw [List.length_cons]; omega)] at this; simpa using this)
            have htk := Hto.out e (by have := Hm.out; rw [List.length_cons]; omega)
            have hdp := Hfr.out e (by have := Hm.out; rw [List.length_cons]; omega)
            have hJ1 := HL.out.2.1 _ _ _ HA.out.2.1 H1.out.1
            have hY1 := HL.out.2.2.1 pre ((c :: r).take e) wr hJ1 trivial (by have := HA.out.2.2.2.1; omega)
            simp only [sEnc] at hY1
            obtain ⟨fn, tmps, assign, body, hy, hRd⟩ := hY1
            have hem9 : e ≤ 1000001 := by have := Hm.out; omega
            clear hJ1
            gi_wp2_with fail
            refine ⟨fun _ => by omega, hRd.mono ?_⟩
            rintro e4 w4 ⟨rfl, hJ4, hk4⟩
            have hbn : ¬ n₀ ≤ b := by have := HL.out.2.2.2; omega
            have hB4 := H1.out.2.kept hk4 hbn
            have hc4 : w4.cell? ⟨b, 0, none⟩ = some (.string S) := hB4.cell 0
            have hf4 := hB4.frozen 0
            have H4 := Lib.hid (And.intro hJ4 hB4)
            clear hJ4 hk4 hB4 hc1 hf1 hRd hy
            gi_wp2_with fail
            go_roundw
            case rel =>
              obtain ⟨hB, hJp, hwd, hlen, hlb⟩ := HA.out
              refine Lib.hid ⟨pre ++ [(c :: r).take e], (c :: r).drop e, H4.out.2.set_ 0 _, HL.out.2.1 _ _ _ H4.out.1 ((Frm.refl (fun q => q = b) w4).setCell ⟨b, 0, none⟩ (.inl rfl) _), ?_, ?_⟩
              · rw [hwd, wordsB_cons Hcu.out.1, Nat.max_eq_right (endB_bounds c r hc32).1, ← HE.out]; simp
              · have h1 : (c :: r).length ≤ cur.length := Hcu.out.2
                have h2 : 1 ≤ e := by rw [HE.out]; exact (endB_bounds c r hc32).1
                have g1 : (pre ++ [(c :: r).take e]).length = pre.length + 1 := by simp
                have g2 : ((c :: r).drop e).length = (c :: r).length - e := List.length_drop
                have g3 : 1 ≤ (c :: r).length := by simp
                omega
            case measure =>
              have h5 := lenBox_eq (H4.out.2.set_ 0 (.string (ba ((c :: r).drop e))))
              rw [h5, HA.out.2.2.2.2]
              have h1 := Hcu.out.2
              have h2 := (endB_bounds c r hc32).1
              have h3 := HE.out
              rw [List.length_drop, List.length_cons] at *
              omega
end Go.Proofs.YtpcdbkaeijhmfaaGreatDoor
