/- The document's script: number. -/
import Derived.Deep.DeepCutAuto
import Derived.Test.YtpcdbkaeijhmfaaGreatDoorHWd
namespace Go.Proofs.YtpcdbkaeijhmfaaGreatDoor
set_option maxRecDepth 100000
set_option linter.unusedVariables false
set_option linter.unusedSimpArgs false
open Go.RowKit
attribute [local go_sem] Oper.semAt_some
def decF (n : Nat) (f : By) : Nat := f.foldl (fun a c => 10 * a + (c.toNat - 48)) n
def digP (c : UInt8) : Prop := 48 ≤ c.toNat ∧ c.toNat ≤ 57
instance (c : UInt8) : Decidable (digP c) := inferInstanceAs (Decidable (_ ∧ _))
theorem decF_le : ∀ (f : By) (n : Nat), n ≤ decF n f
  | [], n => Nat.le_refl n
  | c :: f, n => by
    have := decF_le f (10 * n + (c.toNat - 48))
    show n ≤ decF (10 * n + (c.toNat - 48)) f
    omega
theorem val_dec : ∀ (f : By) (n : Nat), n ≤ 4611686018427387904 → valGo n f = if (∀ c ∈ f, digP c) ∧ decF n f ≤ 4611686018427387904 then some (decF n f) else none
  | [], n, h => by rw [if_pos ⟨by simp, h⟩]; rfl
  | c :: f, n, h => by
    rw [valGo]
    have e : decF n (c :: f) = decF (10 * n + (c.toNat - 48)) f := rfl
    rw [e]
    by_cases hc : 48 ≤ c.toNat ∧ c.toNat ≤ 57
    · rw [if_pos hc]
      by_cases hb : 10 * n + (c.toNat - 48) ≤ 4611686018427387904
      · rw [if_pos hb, val_dec f _ hb]
        by_cases ha : (∀ c ∈ f, digP c) ∧ decF (10 * n + (c.toNat - 48)) f ≤ 4611686018427387904
        · rw [if_pos ha, if_pos ⟨fun x hx => (List.mem_cons.1 hx).elim (fun e => e ▸ hc) (ha.1 x), ha.2⟩]
        · rw [if_neg ha, if_neg fun h => ha ⟨fun x hx => h.1 x (List.mem_cons_of_mem _ hx), h.2⟩]
      · rw [if_neg hb, if_neg fun h => hb (Nat.le_trans (decF_le f _) h.2)]
    · rw [if_neg hc, if_neg fun h => hc (h.1 c (List.mem_cons_self ..))]
theorem decF_take (f : By) (k : Nat) (c : UInt8) (h : f[k]? = some c) : decF 0 (f.take (k + 1)) = 10 * decF 0 (f.take k) + (c.toNat - 48) := by
  rw [List.take_add_one, h]
  unfold decF
  rw [List.foldl_append]
  rfl
theorem decF_lt : ∀ f : By, (∀ c ∈ f, digP c) → ∀ n, decF n f < (n + 1) * 10 ^ f.length
  | [], _, n => by simp [decF]
  | c :: f, h, n => by
    have h1 := decF_lt f (fun x hx => h x (List.mem_cons_of_mem _ hx)) (10 * n + (c.toNat - 48))
    have h2 := h c (List.mem_cons_self ..)
    have e : decF n (c :: f) = decF (10 * n + (c.toNat - 48)) f := rfl
    rw [e, List.length_cons, Nat.pow_succ]
    have h3 : 10 * n + (c.toNat - 48) + 1 ≤ (n + 1) * 10 := by unfold digP at h2; omega
    have h4 := Nat.mul_le_mul_right (10 ^ f.length) h3
    have h5 : (n + 1) * 10 * 10 ^ f.length = (n + 1) * (10 ^ f.length * 10) := by rw [Nat.mul_assoc, Nat.mul_comm 10 (10 ^ f.length)]
    rw [h5] at h4
    exact Nat.lt_of_lt_of_le h1 h4
theorem dec19 (f : By) (h : ∀ c ∈ f, digP c) (hl : f.length ≤ 18) : decF 0 f < 1000000000000000000 := by
  have h1 := decF_lt f h 0
  have h2 : 10 ^ f.length ≤ 10 ^ 18 := Nat.pow_le_pow_right (by omega) hl
  omega
theorem dec20 (f : By) (h : ∀ c ∈ f, digP c) (hl : f.length ≤ 19) : decF 0 f < 10000000000000000000 := by
  have h1 := decF_lt f h 0
  have h2 : 10 ^ f.length ≤ 10 ^ 19 := Nat.pow_le_pow_right (by omega) hl
  omega
/-- A great number of figures, the first not nought, is too great. -/
theorem decF_ge : ∀ (f : By) (n : Nat), n * 10 ^ f.length ≤ decF n f
  | [], n => by simp [decF]
  | c :: f, n => by
    have h1 := decF_ge f (10 * n + (c.toNat - 48))
    have e : decF n (c :: f) = decF (10 * n + (c.toNat - 48)) f := rfl
    rw [e, List.length_cons, Nat.pow_succ]
    have h4 := Nat.mul_le_mul_right (10 ^ f.length) (show 10 * n ≤ 10 * n + (c.toNat - 48) by omega)
    have h5 : n * (10 ^ f.length * 10) = 10 * n * 10 ^ f.length := by rw [Nat.mul_comm (10 ^ f.length) 10, ← Nat.mul_assoc, Nat.mul_comm n 10]
    omega
/-- What the figures tell, by the document's order of questions. -/
theorem fig_dec2 (b : Bool) (f : By) : figB b f = if f = [] ∨ 19 < f.length ∨ (f.head? = some 48 ∧ (b = true ∨ 1 < f.length)) then none else if (∀ c ∈ f, digP c) ∧ decF 0 f ≤ 4611686018427387904 then some (if b then -(decF 0 f : Int) else decF 0 f) else none := by
  cases f with
  | nil => rw [if_pos (.inl rfl)]; rfl
  | cons c r =>
    unfold figB
    simp only
    by_cases h48 : c = 48 ∧ (b = true ∨ r ≠ [])
    · rw [if_pos h48, if_pos (.inr (.inr ⟨by rw [h48.1]; rfl, h48.2.imp id fun h => by cases r with | nil => exact absurd rfl h | cons _ _ => simp⟩))]
    · rw [if_neg h48]
      have hv := val_dec (c :: r) 0 (by omega)
      by_cases h19 : 19 < (c :: r).length
      · have hp : c :: r = [] ∨ 19 < (c :: r).length ∨ ((c :: r).head? = some 48 ∧ (b = true ∨ 1 < (c :: r).length)) := Or.inr (Or.inl h19)
        rw [if_pos hp]
        by_cases ha : (∀ x ∈ c :: r, digP x) ∧ decF 0 (c :: r) ≤ 4611686018427387904
        · exfalso
          have hc : digP c := ha.1 c (List.mem_cons_self ..)
          have hne : c ≠ 48 := fun e => h48 ⟨e, .inr fun e2 => by rw [e2] at h19; simp at h19⟩
          have hc1 : 1 ≤ c.toNat - 48 := by
            have : c.toNat ≠ 48 := fun e => hne (UInt8.toNat_inj.1 e)
            unfold digP at hc; omega
          have h1 := decF_ge r (c.toNat - 48)
          have h2 : decF 0 (c :: r) = decF (c.toNat - 48) r := by show decF (10 * 0 + (c.toNat - 48)) r = _; rw [Nat.mul_zero, Nat.zero_add]
          have h3 : 10 ^ 19 ≤ 10 ^ r.length := Nat.pow_le_pow_right (by omega) (by simp at h19; omega)
          have h4 := Nat.mul_le_mul_right (10 ^ r.length) hc1
          have h5 := ha.2
          rw [h2] at h5
          omega
        · rw [hv, if_neg ha]; rfl
      · have hp : ¬ (c :: r = [] ∨ 19 < (c :: r).length ∨ ((c :: r).head? = some 48 ∧ (b = true ∨ 1 < (c :: r).length))) := by
          rintro (h | h | ⟨h1, h2⟩)
          · cases h
          · exact h19 h
          · refine h48 ⟨by simpa using h1, h2.imp id fun h => ?_⟩
            rintro rfl; simp at h
        rw [if_neg hp, hv]
        by_cases ha : (∀ x ∈ c :: r, digP x) ∧ decF 0 (c :: r) ≤ 4611686018427387904
        · rw [if_pos ha, if_pos ha]; rfl
        · rw [if_neg ha, if_neg ha]; rfl
theorem num_split (l : By) : ∃ (f : By) (b : Bool), numB l = figB b f ∧ l.length = f.length + (if b then 1 else 0) ∧ (b = true ↔ l.head? = some 45) ∧ l.drop (if b then 1 else 0) = f := by
  cases l with
  | nil => exact ⟨[], false, rfl, rfl, by simp, rfl⟩
  | cons c r =>
    by_cases h : c = 45
    · subst h; exact ⟨r, true, rfl, rfl, by simp, rfl⟩
    · exact ⟨c :: r, false, by unfold numB; simp only; rw [if_neg h], rfl, by simp [h], rfl⟩
set_option maxHeartbeats 3200000 in
theorem numberR_any (l : By) (w : World) (hl : l.length ≤ 1000000) : Calls Tryz.prog 74 #[.string (ba l)] w (NumPost (numB l) w) := by
  obtain ⟨f, b, h1, h2, h3, h4⟩ := num_split l
  obtain ⟨o, ho⟩ : ∃ o, o = numB l := ⟨_, rfl⟩
  rw [← ho]
  rw [fig_dec2] at h1
  have Ho := Lib.hid (ho.trans h1)
  obtain ⟨n, hn⟩ : ∃ n, n = f.length := ⟨_, rfl⟩
  obtain ⟨m, hm⟩ : ∃ m, m = l.length := ⟨_, rfl⟩
  have hsm : (ba l).size = m := by rw [hm]; rfl
  have hsn : (ba f).size = n := by rw [hn]; rfl
  have HN := Lib.hid (And.intro hn (And.intro hm (show m = n + (if b then 1 else 0) by omega)))
  have hm9 : m ≤ 1000000 := by omega
  have hn9 : n ≤ 1000000 := by omega
  have Hd := Lib.hid h4
  have Hb := Lib.hid h3
  have Hl := Lib.hid (run_at (P := Tryz.prog) Tryz.underlying9 l)
  have Hf := Lib.hid (run_at (P := Tryz.prog) Tryz.underlying9 f)
  have Hs := Lib.hid (run_from (P := Tryz.prog) Tryz.underlying9 l)
  clear ho h1 h2 h3 h4 hl hn hm
  go_enter Tryz.func74, Tryz.ntmps74
  go_upto_region 2 with fail
  go_cut [15] (fun t wc => wc = w ∧ t = .bool b)
  case first =>
    by_cases h0 : 0 < m
    · have d0 : decide (0 < m) = true := decide_eq_true h0
      obtain ⟨c, hc⟩ : ∃ c, l[0]? = some c := ⟨_, List.getElem?_eq_getElem (by rw [← HN.out.2.1]; exact h0)⟩
      have hat : ∀ w, (Instr.index 9 (.string (ba l)) (.int .i64 0)).run Tryz.prog w = .ok (.int .u8 c.toNat) w := Hl.out 0 c hc
      have hbc : Hid (((c.toNat : Int) == 45) = b) := Lib.hid (by
        have hh : l.head? = some c := by rw [List.head?_eq_getElem?]; exact hc
        have h45 := Hb.out
        rw [hh] at h45
        by_cases e : c = 45
        · subst e; rw [h45.2 rfl]; rfl
        · have : b = false := by cases b with | false => rfl | true => exact absurd (Option.some.inj (h45.1 rfl)) e
          rw [this]
          have : c.toNat ≠ 45 := fun h => e (UInt8.toNat_inj.1 h)
          simp; omega)
      clear hc h0
      go_wp2_with fail
      go_meet
      case rel => exact ⟨rfl, by rw [hbc.out]⟩
    · have d0 : decide (0 < m) = false := decide_eq_false h0
      have hb0 : Hid (b = false) := Lib.hid (by have := HN.out.2.2; cases b with | false => rfl | true => simp at this; omega)
      clear h0
      go_wp2_with fail
      go_meet
      case rel => exact ⟨rfl, by rw [hb0.out]⟩
  case rest =>
    obtain ⟨hwc, rfl⟩ := hcut
    obtain rfl := hwc.symm
    go_upto_if 15 with fail
    go_cut [4] (fun t wc => wc = w ∧ t = .string (ba f))
    case first =>
      cases b with
      | true =>
        have hs : ∀ w, (Instr.slice 9 (.string (ba l)) (some (.int .i64 1)) none none).run Tryz.prog w = .ok (.string (ba (l.drop 1))) w := Hs.out 1 (by have := HN.out; simp at this; omega)
        go_wp2_with fail
        go_meet
        case rel => exact ⟨rfl, by rw [← Hd.out]; simp⟩
      | false =>
        go_wp2_with fail
        go_meet
        case rel => exact ⟨rfl, by rw [← Hd.out]; rfl⟩
    case rest =>
      obtain ⟨hwc, rfl⟩ := hcut
      obtain rfl := hwc.symm
      go_upto_region 4 with fail
      obtain ⟨q, hq⟩ : ∃ q, q = decide (f = [] ∨ 19 < f.length ∨ (f.head? = some 48 ∧ (b = true ∨ 1 < f.length))) := ⟨_, rfl⟩
      have Hq := Lib.hid hq
      clear hq
      go_cut [35] (fun t wc => wc = w ∧ t = .bool q)
      case first =>
        by_cases h0 : n = 0
        · have d0 : ((n : Int) == 0) = true := by simp; omega
          have Hq1 := Lib.hid (show q = true by rw [Hq.out]; exact decide_eq_true (.inl (List.eq_nil_of_length_eq_zero (by rw [← HN.out.1]; exact h0))))
          clear h0
          go_wp2_with fail
          go_meet
          case rel => exact ⟨rfl, by rw [Hq1.out]⟩
        · have d0 : ((n : Int) == 0) = false := by simp; omega
          by_cases h19 : 19 < n
          · have d1 : decide ((n : Int) > 19) = true := decide_eq_true (by omega)
            have Hq1 := Lib.hid (show q = true by rw [Hq.out]; exact decide_eq_true (.inr (.inl (by rw [← HN.out.1]; exact h19))))
            clear h0 h19
            go_wp2_with fail
            go_meet
            case rel => exact ⟨rfl, by rw [Hq1.out]⟩
          · have d1 : decide ((n : Int) > 19) = false := decide_eq_false (by omega)
            obtain ⟨c, hc⟩ : ∃ c, f[0]? = some c := ⟨_, List.getElem?_eq_getElem (by rw [← HN.out.1]; omega)⟩
            have hat : ∀ w, (Instr.index 9 (.string (ba f)) (.int .i64 0)).run Tryz.prog w = .ok (.int .u8 c.toNat) w := Hf.out 0 c hc
            have hh : f.head? = some c := by rw [List.head?_eq_getElem?]; exact hc
            have hne : f ≠ [] := by rintro rfl; simp at hh
            by_cases h48 : c = 48
            · have d2 : ((c.toNat : Int) == 48) = true := by rw [h48]; rfl
              have d3 : decide (1 < m) = q := by
                rw [Hq.out, decide_eq_decide]
                have h5 := HN.out
                constructor
                · intro h
                  refine .inr (.inr ⟨by rw [hh, h48], ?_⟩)
                  cases b with
                  | true => exact .inl rfl
                  | false => right; simp at h5; omega
                · rintro (h | h | ⟨-, h⟩)
                  · exact absurd h hne
                  · omega
                  · rcases h with rfl | h
                    · simp at h5; omega
                    · omega
              have D3 := Lib.hid d3
              clear d3 h48 hc h0 h19 hh hne
              go_wp2_with fail
              go_meet
              case rel => exact ⟨rfl, by rw [← D3.out]; simp; omega⟩
            · have d2 : ((c.toNat : Int) == 48) = false := by
                have : c.toNat ≠ 48 := fun h => h48 (UInt8.toNat_inj.1 h)
                simp; omega
              have Hq1 := Lib.hid (show q = false by
                rw [Hq.out]
                refine decide_eq_false ?_
                rintro (h | h | ⟨h, -⟩)
                · exact hne h
                · have := HN.out.1; omega
                · rw [hh] at h; exact h48 (Option.some.inj h))
              clear h48 hc h0 h19 hh hne
              go_wp2_with fail
              go_meet
              case rel => exact ⟨rfl, by rw [Hq1.out]⟩
      case rest =>
        obtain ⟨hwc, rfl⟩ := hcut
        obtain rfl := hwc.symm
        cases q with
        | true =>
          have HO := Lib.hid (show o = none by rw [Ho.out, if_pos (of_decide_eq_true Hq.out.symm)])
          go_wp2_with fail
          go_ret2
          exact NumPost.no HO.out
        | false =>
          have HO := Lib.hid (show o = if (∀ c ∈ f, digP c) ∧ decF 0 f ≤ 4611686018427387904 then some (if b then -(decF 0 f : Int) else decF 0 f) else none by rw [Ho.out, if_neg (of_decide_eq_false Hq.out.symm)])
          have HQ := Lib.hid (of_decide_eq_false Hq.out.symm)
          have hn19 : n ≤ 19 := by
            rcases Nat.lt_or_ge 19 n with h | h
            · exact absurd (.inr (.inl (by rw [← HN.out.1]; exact h))) HQ.out
            · exact h
          go_wp2_with fail
          go_loopw [5, 6] (fun t i wr => ∃ k d : Nat, k ≤ n ∧ i = .int .i64 k ∧ t = .int .u64 d ∧ wr = w ∧ Hid (d = decF 0 (f.take k) ∧ ∀ c ∈ f.take k, digP c)) (fun _ i _ => n - (intOf i).toNat)
          case atStart => exact ⟨0, 0, Nat.zero_le _, rfl, rfl, rfl, Lib.hid ⟨rfl, by simp⟩⟩
          case round =>
            obtain ⟨k, d, hk, rfl, rfl, rfl, HD⟩ := hrel
            by_cases hlt : k < n
            · obtain ⟨c, hc⟩ : ∃ c, f[k]? = some c := ⟨_, List.getElem?_eq_getElem (by rw [← HN.out.1]; exact hlt)⟩
              have hat := Hf.out k c hc
              have Hc := Lib.hid hc
              have hd18 : d < 1000000000000000000 := by rw [HD.out.1]; exact dec19 _ HD.out.2 (by rw [List.length_take]; omega)
              by_cases hg : 48 ≤ c.toNat ∧ c.toNat ≤ 57
              · have e1 : decide ((c.toNat : Int) < 48) = false := decide_eq_false (by omega)
                have e2 : decide ((c.toNat : Int) > 57) = false := decide_eq_false (by omega)
                obtain ⟨hg1, hg2⟩ := hg
                clear hc
                go_wp2_with fail
                go_roundw
                case rel =>
                  refine ⟨k + 1, 10 * d + (c.toNat - 48), by omega, by go_num, ?_, by first | rfl | trivial, Lib.hid ⟨?_, ?_⟩⟩
                  · congr 1; omega
                  · rw [decF_take f k c Hc.out, HD.out.1]
                  · intro x hx
                    rw [List.take_add_one, Hc.out] at hx
                    rcases List.mem_append.1 hx with hx | hx
                    · exact HD.out.2 x hx
                    · have : x = c := by simpa using hx
                      rw [this]; exact ⟨hg1, hg2⟩
                case measure => simp [intOf]; omega
              · have HO2 := Lib.hid (show o = none by
                  rw [HO.out, if_neg]
                  rintro ⟨h, -⟩
                  exact hg (h c (List.mem_of_getElem? hc)))
                by_cases hg1 : c.toNat < 48
                · have e1 : decide ((c.toNat : Int) < 48) = true := decide_eq_true (by omega)
                  clear hc hg
                  go_wp2_with fail
                  go_ret2
                  exact NumPost.no HO2.out
                · have e1 : decide ((c.toNat : Int) < 48) = false := decide_eq_false (by omega)
                  have e2 : decide ((c.toNat : Int) > 57) = true := decide_eq_true (by omega)
                  clear hc hg
                  go_wp2_with fail
                  go_ret2
                  exact NumPost.no HO2.out
            · obtain rfl : n = k := by omega
              have HD2 := Lib.hid (show d = decF 0 f ∧ ∀ c ∈ f, digP c by have := HD.out; rw [HN.out.1, List.take_length] at this; exact this)
              clear HD hlt hk
              by_cases hbig : 4611686018427387904 < d
              · have e1 : decide ((d : Int) > 4611686018427387904) = true := decide_eq_true (by omega)
                have HO2 := Lib.hid (show o = none by rw [HO.out, if_neg]; rintro ⟨-, h⟩; rw [← HD2.out.1] at h; omega)
                clear hbig
                go_wp2_with fail
                go_ret2
                exact NumPost.no HO2.out
              · have e1 : decide ((d : Int) > 4611686018427387904) = false := decide_eq_false (by omega)
                have HO2 := Lib.hid (show o = some (if b then -(d : Int) else d) by rw [HO.out, HD2.out.1, if_pos ⟨HD2.out.2, by rw [← HD2.out.1]; omega⟩])
                have h5 := HN.out.2.2
                cases b with
                | true =>
                  have e2 : decide (n < m) = true := decide_eq_true (by simp at h5; omega)
                  clear h5
                  go_wp2_with fail
                  go_ret2
                  exact NumPost.yes (by rw [HO2.out]; rfl)
                | false =>
                  have e2 : decide (n < m) = false := decide_eq_false (by simp at h5; omega)
                  clear h5
                  go_wp2_with fail
                  go_ret2
                  exact NumPost.yes (by rw [HO2.out]; rfl)
end Go.Proofs.YtpcdbkaeijhmfaaGreatDoor
