/- script: unquote. -/
import Derived.Test.YtpcdbkaeijhmfaaGreatDoorHPb
namespace Go.Proofs.YtpcdbkaeijhmfaaGreatDoor
set_option maxRecDepth 100000
set_option linter.unusedVariables false
set_option linter.unusedSimpArgs false
open Go.RowKit
def digits16 : By := [48, 49, 50, 51, 52, 53, 54, 55, 56, 57, 97, 98, 99, 100, 101, 102]
theorem index_hex (c : UInt8) : Lib.indexByte digits16 c = match hexB c with | some n => (n : Int) | none => -1 := by
  have h : ∀ n, n < 256 → Lib.indexByte digits16 (UInt8.ofNat n) = match hexB (UInt8.ofNat n) with | some n => (n : Int) | none => -1 := by decide +kernel
  have := h c.toNat c.toNat_lt
  rwa [UInt8.ofNat_toNat] at this
theorem hex_lt {c : UInt8} {n : Nat} (h : hexB c = some n) : n < 16 := by
  unfold hexB at h
  split at h
  · cases h; omega
  · split at h
    · cases h; omega
    · cases h
theorem bits_hex (x y : Nat) (hx : x < 16) (hy : y < 16) : bits BinOp.or IntKind.i64 ((x : Int) * 16) (y : Int) = ((16 * x + y : Nat) : Int) := by
  have h : ∀ x : Nat, x < 16 → ∀ y : Nat, y < 16 → bits BinOp.or IntKind.i64 ((x : Int) * 16) (y : Int) = ((16 * x + y : Nat) : Int) := by decide +kernel
  exact h x hx y hy
theorem infoU : (Tryz.prog.info? 5).map (fun i => (i.zero, i.size, i.bytes)) = some (some (.int .u8 0), 1, 1) := by kernel_rfl
theorem suffix_one (r : By) (c : UInt8) : Lib.hasSuffix r [c] = decide (r.getLast? = some c) := by
  unfold Lib.hasSuffix
  rw [Bool.eq_iff_iff, decide_eq_true_iff, List.isSuffixOf_iff_suffix]
  rw [List.getLast?_eq_some_iff]
  constructor
  · rintro ⟨t, h⟩; exact ⟨t, h.symm⟩
  · rintro ⟨t, h⟩; exact ⟨t, h.symm⟩
/-- What CutPrefix and CutSuffix make of a word. -/
theorem cut_quotes (l : By) : ∃ f p q, Lib.trimPrefix l [34] = f ∧ Lib.hasPrefix l [34] = p ∧ Lib.hasSuffix f [34] = q ∧ f.length ≤ l.length ∧ (Lib.trimSuffix f [34]).length ≤ l.length ∧ txtB l = if p = true ∧ q = true then unqB (Lib.trimSuffix f [34]) else none := by
  refine ⟨_, _, _, rfl, rfl, rfl, ?_⟩
  cases l with
  | nil => exact ⟨Nat.le_refl _, Nat.le_refl _, rfl⟩
  | cons c r =>
    by_cases h : c = 34
    · subst h
      have h1 : Lib.hasPrefix (34 :: r) [34] = true := by simp [Lib.hasPrefix]
      have h2 : Lib.trimPrefix (34 :: r) [34] = r := by simp [Lib.trimPrefix, h1]
      rw [h1, h2]
      refine ⟨by simp, ?_, ?_⟩
      · unfold Lib.trimSuffix
        split
        · simp
          omega
        · simp
      · by_cases hq : r.getLast? = some 34
        · have e : Lib.hasSuffix r [34] = true := by rw [suffix_one]; exact decide_eq_true hq
          have e2 : Lib.trimSuffix r [34] = r.dropLast := by
            unfold Lib.trimSuffix
            rw [if_pos e]
            simp [List.dropLast_eq_take]
          rw [e, e2]
          simp only [and_self, if_true]
          unfold txtB
          simp only
          rw [if_pos ⟨by trivial, hq⟩]
        · have e : Lib.hasSuffix r [34] = false := by rw [suffix_one]; exact decide_eq_false hq
          rw [e, if_neg (by simp)]
          unfold txtB
          simp only
          rw [if_neg fun h => hq h.2]
    · have h1 : Lib.hasPrefix (c :: r) [34] = false := by simp [Lib.hasPrefix, List.isPrefixOf, Ne.symm h]
      have h2 : Lib.trimPrefix (c :: r) [34] = c :: r := by simp [Lib.trimPrefix, h1]
      rw [h1, h2]
      refine ⟨Nat.le_refl _, ?_, ?_⟩
      · unfold Lib.trimSuffix
        split
        · simp
        · simp
      · rw [if_neg (by simp)]
        unfold txtB
        simp only
        rw [if_neg fun h' => h h'.1]
def UnqPost (o : Option By) (w : World) (e : Ending) (w' : World) : Prop :=
  ∃ v, e = .returned (.tuple #[v, .bool o.isSome]) ∧ w'.ownsRow w.heap.size 5 1 v (o.getD []).length (bv (o.getD [])) ∧ Frm (fun _ => False) w w'
theorem UnqPost.no {o : Option By} {w w' : World} (h : o = none) (hF : Frm (fun _ => False) w w') : UnqPost o w (.returned (.tuple #[.slice none 0 0, .bool false])) w' := by subst h; exact ⟨_, rfl, World.ownsRow_nil _ _ _ _, hF⟩
theorem unqB_esc (f : By) (k : Nat) (a b : UInt8) (h0 : f[k]? = some 92) (h1 : f[k + 1]? = some a) (h2 : f[k + 2]? = some b) : unqB (f.drop k) = match hexB a, hexB b with | some h, some l => (unqB (f.drop (k + 3))).map (UInt8.ofNat (16 * h + l) :: ·) | _, _ => none := by
  obtain ⟨k0, e0⟩ := List.getElem?_eq_some_iff.1 h0
  obtain ⟨k1, e1⟩ := List.getElem?_eq_some_iff.1 h1
  obtain ⟨k2, e2⟩ := List.getElem?_eq_some_iff.1 h2
  rw [List.drop_eq_getElem_cons k0, e0, List.drop_eq_getElem_cons k1, e1, List.drop_eq_getElem_cons k2, e2, unqB]
  rfl
theorem unqB_one (f : By) (k : Nat) (c : UInt8) (h0 : f[k]? = some c) (h : c ≠ 92 ∨ f.length ≤ k + 2) : unqB (f.drop k) = if plainB c = true then (unqB (f.drop (k + 1))).map (c :: ·) else none := by
  obtain ⟨k0, e0⟩ := List.getElem?_eq_some_iff.1 h0
  rw [List.drop_eq_getElem_cons k0, e0, unqB]
  intro a b r e1 e2
  subst e1
  have := congrArg List.length e2
  simp at this
  rcases h with h | h
  · exact h rfl
  · omega
theorem index_any (a : UInt8) (w : World) : Calls Tryz.prog 68 #[.string ⟨#[48, 49, 50, 51, 52, 53, 54, 55, 56, 57, 97, 98, 99, 100, 101, 102]⟩, .int .u8 a.toNat] w fun e w' => e = .returned (.int .i64 (match hexB a with | some n => (n : Int) | none => -1)) ∧ w' = w := by
  have h := Tryz.strings_IndexByte (ba digits16) a.toNat w
  rw [ba_data, show ((a.toNat : Int).toNat).toUInt8 = a by simp, index_hex] at h
  exact h
set_option maxHeartbeats 1600000 in
theorem unquote_any (l : By) (w : World) (hl : l.length ≤ 1000000) : Calls Tryz.prog 69 #[.string (ba l)] w (UnqPost (txtB l) w) := by
  obtain ⟨i0, hi, hz0, hz1, hz2⟩ := info_parts infoU
  obtain ⟨f, p, q, h1, h2, h3, h4, h5, h6⟩ := cut_quotes l
  have hcp : ∀ w, Calls Tryz.prog 86 #[.string (ba l), .string ⟨#[34]⟩] w fun e w' => e = .returned (.tuple #[.string (ba f), .bool p]) ∧ w' = w := fun w => by
    have := Tryz.strings_CutPrefix (ba l) ⟨#[34]⟩ w
    rw [ba_data, show (⟨#[34]⟩ : ByteArray).data.toList = [34] from rfl, h1, h2] at this
    exact this
  have hcs : ∀ w, Calls Tryz.prog 87 #[.string (ba f), .string ⟨#[34]⟩] w fun e w' => e = .returned (.tuple #[.string (ba (Lib.trimSuffix f [34])), .bool q]) ∧ w' = w := fun w => by
    have := Tryz.strings_CutSuffix (ba f) ⟨#[34]⟩ w (by rw [ba_size]; omega)
    rw [ba_data, show (⟨#[34]⟩ : ByteArray).data.toList = [34] from rfl, h3] at this
    exact this
  rw [h6]
  clear h6 h1 h2 h3 h4
  generalize Lib.trimSuffix f [34] = g at *
  generalize ba f = F at *
  generalize ba l = L at *
  obtain ⟨o, ho⟩ : ∃ o, o = if p = true ∧ q = true then unqB g else none := ⟨_, rfl⟩
  rw [← ho]
  have Hc := Lib.hid (And.intro hcp hcs)
  have hix := run_at (P := Tryz.prog) Tryz.underlying9 g
  have hsz : (ba g).size = g.length := rfl
  obtain ⟨n, hn⟩ : ∃ n, n = g.length := ⟨_, rfl⟩
  rw [← hn] at hsz
  have hn9 : n ≤ 1000000 := by omega
  by_cases hpq : p = true ∧ q = true
  · obtain ⟨rfl, rfl⟩ := hpq
    have Ho := Lib.hid (show o = unqB g by rw [ho, if_pos ⟨rfl, rfl⟩])
    have Hx := Lib.hid (And.intro hix hn)
    clear hix hn ho hcp hcs h5
    generalize ba g = G at *
    go_enter Tryz.func69, Tryz.ntmps69
    go_wp2_with fail
    refine (Hc.out.1 _).mono ?_
    rintro e w' ⟨rfl, rfl⟩
    go_wp2_with fail
    refine (Hc.out.2 _).mono ?_
    rintro e w' ⟨rfl, rfl⟩
    go_wp2_with fail
    go_loopw [7, 8] (fun t i wr => ∃ k : Nat, k ≤ n ∧ i = .int .i64 k ∧ Hid (∃ pre : By, pre.length ≤ k ∧ unqB g = (unqB (g.drop k)).map (pre ++ ·) ∧ wr.ownsRow w'.heap.size 5 1 t pre.length (bv pre) ∧ Frm (fun _ => False) w' wr)) (fun _ i _ => n - (intOf i).toNat)
    case atStart => exact ⟨0, Nat.zero_le _, rfl, Lib.hid ⟨[], Nat.le_refl _, by simp, World.ownsRow_nil _ _ _ _, Frm.refl _ _⟩⟩
    case round =>
      obtain ⟨k, hk, rfl, hT⟩ := hrel
      by_cases hlt : k < n
      · obtain ⟨c, hc⟩ : ∃ c, g[k]? = some c := ⟨_, List.getElem?_eq_getElem (by have := Hx.out.2; omega)⟩
        have hc1 := Hx.out.1 k c hc
        have hk0 : 0 ≤ (k : Int) := by omega
        by_cases hesc : c = 92 ∧ k + 2 < n
        · obtain ⟨rfl, hk2⟩ := hesc
          obtain ⟨a, ha⟩ : ∃ a, g[k + 1]? = some a := ⟨_, List.getElem?_eq_getElem (by have := Hx.out.2; omega)⟩
          obtain ⟨b, hb⟩ : ∃ b, g[k + 2]? = some b := ⟨_, List.getElem?_eq_getElem (by have := Hx.out.2; omega)⟩
          have ha1 : ∀ w, (Instr.index 9 (.string G) (.int .i64 ((k : Int) + 1))).run Tryz.prog w = .ok (.int .u8 a.toNat) w := Hx.out.1 (k + 1) a ha
          have hb1 : ∀ w, (Instr.index 9 (.string G) (.int .i64 ((k : Int) + 2))).run Tryz.prog w = .ok (.int .u8 b.toNat) w := Hx.out.1 (k + 2) b hb
          have hc1 : ∀ w, (Instr.index 9 (.string G) (.int .i64 (k : Int))).run Tryz.prog w = .ok (.int .u8 92) w := hc1
          have hs := unqB_esc g k a b hc ha hb
          have hi1 := index_any a wr
          have hi2 := index_any b wr
          obtain ⟨pre, hpl, hpre, ho, hF⟩ := hT.out
          obtain ⟨A5, c5, rfl, -, -⟩ := own_form ho
          obtain ⟨m, hm⟩ : ∃ m, m = pre.length := ⟨_, rfl⟩
          rw [← hm] at ho hpl ⊢
          have HA := Lib.hid (And.intro hpl (And.intro hpre (And.intro ho (And.intro hF (And.intro hs hm)))))
          clear hc ha hb hs hpre ho hF hT hm
          cases hx : hexB a with
          | none =>
            rw [hx] at hi1
            cases hy : hexB b with
            | none =>
              rw [hy] at hi2
              have Hf := Lib.hid (show o = none by rw [Ho.out, HA.out.2.1, HA.out.2.2.2.2.1, hx]; rfl)
              clear hx hy
              go_wp2_with fail
              refine hi1.mono ?_
              rintro e w1 ⟨rfl, rfl⟩
              go_wp2_with fail
              refine hi2.mono ?_
              rintro e w1 ⟨rfl, rfl⟩
              go_wp2_with fail
              go_ret2
              exact UnqPost.no Hf.out HA.out.2.2.2.1
            | some y =>
              rw [hy] at hi2
              have Hf := Lib.hid (show o = none by rw [Ho.out, HA.out.2.1, HA.out.2.2.2.2.1, hx]; rfl)
              clear hx hy
              go_wp2_with fail
              refine hi1.mono ?_
              rintro e w1 ⟨rfl, rfl⟩
              go_wp2_with fail
              refine hi2.mono ?_
              rintro e w1 ⟨rfl, rfl⟩
              go_wp2_with fail
              go_ret2
              exact UnqPost.no Hf.out HA.out.2.2.2.1
          | some x =>
            rw [hx] at hi1
            cases hy : hexB b with
            | none =>
              rw [hy] at hi2
              have Hf := Lib.hid (show o = none by rw [Ho.out, HA.out.2.1, HA.out.2.2.2.2.1, hx, hy]; rfl)
              clear hx hy
              go_wp2_with fail
              refine hi1.mono ?_
              rintro e w1 ⟨rfl, rfl⟩
              go_wp2_with fail
              refine hi2.mono ?_
              rintro e w1 ⟨rfl, rfl⟩
              go_wp2_with fail
              go_ret2
              exact UnqPost.no Hf.out HA.out.2.2.2.1
            | some y =>
              rw [hy] at hi2
              have hx16 := hex_lt hx
              have hy16 := hex_lt hy
              have hbits := bits_hex x y hx16 hy16
              obtain ⟨Z, hZ⟩ : ∃ Z, Z = 16 * x + y := ⟨_, rfl⟩
              rw [← hZ] at hbits
              have hZm : (Z : Int) % 256 = (Z : Int) := by omega
              have Hf := Lib.hid (show unqB g = (unqB (g.drop (k + 3))).map ((pre ++ [UInt8.ofNat Z]) ++ ·) by
                rw [HA.out.2.1, HA.out.2.2.2.2.1, hx, hy, hZ]
                cases unqB (g.drop (k + 3)) <;> simp)
              have HZ := Lib.hid (show Z < 256 by omega)
              clear hx hy hZ
              go_wp2_with fail
              refine hi1.mono ?_
              rintro e w1 ⟨rfl, rfl⟩
              go_wp2_with fail
              refine hi2.mono ?_
              rintro e w1 ⟨rfl, rfl⟩
              go_wp2_with (at_builtin; go_loud (refine wpList_append_sl (by rfl) _ _ 34 (by rfl) w'.heap.size 5 i0 (.int .u8 0) 1 Tryz.underlying34 hi hz0 hz1 hz2 (by rfl) _ m _ (by rfl) (((Frm.refl (fun _ => False) w1).alloc _).own HA.out.2.2.1 fun _ _ => id) (fun q => q = w1.heap.size) _ [.int .u8 (Z : Nat)] (by rfl) (Sl.blk1 w1 _ _) (by intro u hu; rw [List.mem_singleton.1 hu]; rfl) (by unfold maxLen; simp; omega) (by simp; omega) (by have := HA.out.2.2.2.1.size; simp; omega) ?_); go_loud (intro A6 N6 c6 w6 HN hNc hc6 hown hg hat))
              obtain rfl : N6 = m + 1 := HN.out
              have HE := Lib.hid (And.intro hown (((HA.out.2.2.2.1).alloc _).grown hg fun q hq => .inr (HA.out.2.2.1.lt q hq).1))
              clear hown hg hat HN
              go_wp2_with fail
              go_roundw
              case rel => exact ⟨k + 3, by omega, by go_num, Lib.hid ⟨_, by rw [List.length_append]; have := HA.out.1; have := HA.out.2.2.2.2.2; simp; omega, Hf.out, by
                have h1 := HE.out.1
                have e : bv pre ++ [.int .u8 (Z : Nat)] = bv (pre ++ [UInt8.ofNat Z]) := by
                  have := HZ.out
                  simp [bv, UInt8.toNat_ofNat_of_lt' (show Z < 256 by omega)]
                rw [e] at h1
                simpa [HA.out.2.2.2.2.2] using h1, HE.out.2⟩⟩
              case measure => simp [intOf]; omega
        · have hs := unqB_one g k c hc (by
            by_cases h : c = 92
            · right
              have := Hx.out.2
              have : ¬ (k + 2 < n) := fun h2 => hesc ⟨h, h2⟩
              omega
            · exact .inl h)
          obtain ⟨pre, hpl, hpre, ho, hF⟩ := hT.out
          obtain ⟨A5, c5, rfl, -, -⟩ := own_form ho
          obtain ⟨m, hm⟩ : ∃ m, m = pre.length := ⟨_, rfl⟩
          rw [← hm] at ho hpl ⊢
          have HA := Lib.hid (And.intro hpl (And.intro hpre (And.intro ho (And.intro hF (And.intro hs hm)))))
          have hpa := plain_any c wr
          have hcut : ((c.toNat : Int) == 92) = false ∨ c = 92 ∧ decide ((k : Int) + 2 < (n : Int)) = false := by
            by_cases h : c = 92
            · right
              refine ⟨h, ?_⟩
              have : ¬ (k + 2 < n) := fun h2 => hesc ⟨h, h2⟩
              simp; omega
            · left
              simp only [beq_eq_false_iff_ne, ne_eq]
              intro h2
              exact h (UInt8.toNat_inj.1 (show c.toNat = 92 by omega))
          have HC := Lib.hid (And.intro hc1 hpa)
          clear hc hs hpre ho hF hT hm hesc hpa
          have hcl : c.toNat < 256 := c.toNat_lt
          go_upto_region 10 with fail
          go_cut [45] (fun t wc => wc = wr ∧ t = .bool false)
          case first =>
            rcases hcut with h | ⟨rfl, h⟩
            · go_wp2_with fail
              all_goals
                go_meet
                case rel => exact ⟨rfl, rfl⟩
            · have hkn : ¬ (k + 2 < n) := by have := of_decide_eq_false h; omega
              go_wp2_with fail
              all_goals
                go_meet
                case rel => exact ⟨rfl, rfl⟩
          case rest =>
            obtain ⟨rfl, rfl⟩ := hcut
            cases hp : plainB c with
            | false =>
              have Hf := Lib.hid (show o = none by rw [Ho.out, HA.out.2.1, HA.out.2.2.2.2.1, hp]; rfl)
              have hpa := HC.out.2
              rw [hp] at hpa
              clear hp
              go_wp2_with fail
              refine hpa.mono ?_
              rintro e w1 ⟨rfl, rfl⟩
              go_wp2_with fail
              go_ret2
              exact UnqPost.no Hf.out HA.out.2.2.2.1
            | true =>
              have Hf := Lib.hid (show unqB g = (unqB (g.drop (k + 1))).map ((pre ++ [c]) ++ ·) by
                rw [HA.out.2.1, HA.out.2.2.2.2.1, hp]
                cases unqB (g.drop (k + 1)) <;> simp)
              have hpa := HC.out.2
              rw [hp] at hpa
              clear hp
              go_wp2_with fail
              refine hpa.mono ?_
              rintro e w1 ⟨rfl, rfl⟩
              go_wp2_with (at_builtin; go_loud (refine wpList_append_sl (by rfl) _ _ 34 (by rfl) w'.heap.size 5 i0 (.int .u8 0) 1 Tryz.underlying34 hi hz0 hz1 hz2 (by rfl) _ m _ (by rfl) (((Frm.refl (fun _ => False) wc).alloc _).own HA.out.2.2.1 fun _ _ => id) (fun q => q = wc.heap.size) _ [.int .u8 (c.toNat : Nat)] (by rfl) (Sl.blk1 wc _ _) (by intro u hu; rw [List.mem_singleton.1 hu]; rfl) (by unfold maxLen; simp; omega) (by simp; omega) (by have := HA.out.2.2.2.1.size; simp; omega) ?_); go_loud (intro A6 N6 c6 w6 HN hNc hc6 hown hg hat))
              obtain rfl : N6 = m + 1 := HN.out
              have HE := Lib.hid (And.intro hown (((HA.out.2.2.2.1).alloc _).grown hg fun q hq => .inr (HA.out.2.2.1.lt q hq).1))
              clear hown hg hat HN
              go_wp2_with fail
              go_roundw
              case rel => exact ⟨k + 1, by omega, by go_num, Lib.hid ⟨_, by rw [List.length_append]; have := HA.out.1; have := HA.out.2.2.2.2.2; simp; omega, Hf.out, by
                have h1 := HE.out.1
                have e : bv pre ++ [.int .u8 (c.toNat : Nat)] = bv (pre ++ [c]) := by simp [bv]
                rw [e] at h1
                simpa [HA.out.2.2.2.2.2] using h1, HE.out.2⟩⟩
              case measure => simp [intOf]; omega
      · obtain rfl : k = n := by omega
        go_wp2_with fail
        go_ret2
        obtain ⟨pre, hpl, hpre, ho, hF⟩ := hT.out
        rw [List.drop_of_length_le (by have := Hx.out.2; omega)] at hpre
        have e : o = some pre := by rw [Ho.out, hpre]; simp [unqB]
        rw [e]
        exact ⟨_, rfl, ho, hF⟩
  · have Hf := Lib.hid (show o = none by rw [ho, if_neg hpq])
    clear hix hn ho hcp hcs h5
    go_enter Tryz.func69, Tryz.ntmps69
    go_wp2_with fail
    refine (Hc.out.1 _).mono ?_
    rintro e w' ⟨rfl, rfl⟩
    go_wp2_with fail
    refine (Hc.out.2 _).mono ?_
    rintro e w' ⟨rfl, rfl⟩
    cases p with
    | false =>
      go_wp2_with fail
      go_ret2
      exact UnqPost.no Hf.out (Frm.refl _ _)
    | true =>
      cases q with
      | true => exact absurd ⟨rfl, rfl⟩ hpq
      | false =>
        clear hpq
        go_wp2_with fail
        go_ret2
        exact UnqPost.no Hf.out (Frm.refl _ _)
end Go.Proofs.YtpcdbkaeijhmfaaGreatDoor
