/- script: plain, number. -/
import Derived.IntWalk
import Derived.Deep.DeepCutAuto
import Derived.Test.YtpcdbkaeijhmfaaGreatDoorHShelf
import Derived.Test.YtpcdbkaeijhmfaaGreatDoorGA
namespace Go.Proofs.YtpcdbkaeijhmfaaGreatDoor
set_option maxRecDepth 100000
set_option linter.unusedVariables false
set_option linter.unusedSimpArgs false
open Go.RowKit
/-- A text as a string. -/
def ba (l : By) : ByteArray := ⟨l.toArray⟩
theorem ba_size (l : By) : (ba l).size = l.length := rfl
theorem ba_toList (l : By) : (ba l).toList = l := ByteArray.toList_mk l
theorem ba_list (s : ByteArray) : ba s.data.toList = s := by cases s; simp [ba]
theorem ba_data (l : By) : (ba l).data.toList = l := rfl
theorem ret_bool {a b : Bool} (h : a = b) : Ending.returned (.bool a) = .returned (.bool b) := by rw [h]
theorem plain_any (c : UInt8) (w : World) : Calls Tryz.prog 22 #[.int .u8 c.toNat] w fun e w' => e = .returned (.bool (plainB c)) ∧ w = w' := by
  unfold plainB
  have hc := c.toNat_lt
  generalize c.toNat = n at *
  obtain ⟨r, hr⟩ : ∃ r, r = decide (32 ≤ n ∧ n ≤ 126 ∧ n ≠ 34 ∧ n ≠ 92) := ⟨_, rfl⟩
  rw [← hr]
  have HR := Lib.hid hr
  clear hr
  go_enter Tryz.func22, Tryz.ntmps22
  go_wp2_with fail
  all_goals
    go_ret
    refine ⟨ret_bool ?_, rfl⟩
    rw [HR.out]
    first
    | (symm; rw [decide_eq_true_iff]; omega)
    | (symm; rw [decide_eq_false_iff_not]; omega)
    | (rw [Bool.eq_iff_iff]; simp only [Bool.and_eq_true, bne_iff_ne, decide_eq_true_iff]; omega)
/-- What the walk meets at 's[i]'. -/
theorem run_at {P : Program} {t : TypeId} (ht : P.underlying t = some .string) (l : By) (k : Nat) (c : UInt8) (h : l[k]? = some c) (w : World) : (Instr.index t (.string (ba l)) (.int .i64 k)).run P w = .ok (.int .u8 c.toNat) w := by
  obtain ⟨hk, he⟩ := List.getElem?_eq_some_iff.1 h
  have hk' : k < (ba l).size := hk
  rw [run_index_string w t (ba l) .i64 k ht, dif_pos ⟨by omega, by omega⟩]
  congr 3
  rw [← he]
  rfl
theorem cut_minus (l : By) : ∃ f b, Lib.trimPrefix l [45] = f ∧ Lib.hasPrefix l [45] = b ∧ numB l = figB b f ∧ f.length ≤ l.length := by
  refine ⟨_, _, rfl, rfl, ?_⟩
  cases l with
  | nil => exact ⟨rfl, Nat.le_refl _⟩
  | cons c r =>
    by_cases h : c = 45
    · subst h
      have h1 : Lib.hasPrefix (45 :: r) [45] = true := by simp [Lib.hasPrefix]
      have h2 : Lib.trimPrefix (45 :: r) [45] = r := by simp [Lib.trimPrefix, h1]
      rw [h1, h2]
      exact ⟨rfl, by simp⟩
    · have h1 : Lib.hasPrefix (c :: r) [45] = false := by simp [Lib.hasPrefix, List.isPrefixOf, Ne.symm h]
      have h2 : Lib.trimPrefix (c :: r) [45] = c :: r := by simp [Lib.trimPrefix, h1]
      rw [h1, h2]
      exact ⟨by unfold numB; simp only; rw [if_neg h], Nat.le_refl _⟩
theorem valGo_step (f : By) (k N : Nat) (c : UInt8) (h : f[k]? = some c) : valGo N (f.drop k) = if 48 ≤ c.toNat ∧ c.toNat ≤ 57 then (if 10 * N + (c.toNat - 48) ≤ 4611686018427387904 then valGo (10 * N + (c.toNat - 48)) (f.drop (k + 1)) else none) else none := by
  obtain ⟨hk, he⟩ := List.getElem?_eq_some_iff.1 h
  rw [List.drop_eq_getElem_cons hk, he, valGo]
def NumPost (o : Option Int) (w : World) (e : Ending) (w' : World) : Prop := e = .returned (.tuple #[.int .i64 (o.getD 0), .bool o.isSome]) ∧ w = w'
theorem NumPost.no {o : Option Int} {w : World} (h : o = none) : NumPost o w (.returned (.tuple #[.int .i64 0, .bool false])) w := by subst h; exact ⟨rfl, rfl⟩
theorem NumPost.yes {o : Option Int} {w : World} {n : Int} (h : o = some n) : NumPost o w (.returned (.tuple #[.int .i64 n, .bool true])) w := by subst h; exact ⟨rfl, rfl⟩
set_option maxHeartbeats 1600000 in
theorem number_any (l : By) (w : World) (hl : l.length ≤ 1000000) : Calls Tryz.prog 71 #[.string (ba l)] w (NumPost (numB l) w) := by
  obtain ⟨f, b, h1, h2, h3, h4⟩ := cut_minus l
  have hcp := fun w => Tryz.strings_CutPrefix (ba l) ⟨#[45]⟩ w
  rw [ba_data, show (⟨#[45]⟩ : ByteArray).data.toList = [45] from rfl, h1, h2] at hcp
  rw [h3]
  have hcp : ∀ w, Calls Tryz.prog 86 #[.string (ba l), .string ⟨#[45]⟩] w fun e w' => e = .returned (.tuple #[.string (ba f), .bool b]) ∧ w' = w := hcp
  have Hc := Lib.hid hcp
  obtain ⟨n, hn⟩ : ∃ n, n = f.length := ⟨_, rfl⟩
  have hn9 : n ≤ 1000000 := by omega
  have hix := run_at (P := Tryz.prog) Tryz.underlying9 f
  have hsz : (ba f).size = n := hn.symm
  have htl : (ba f).toList = f := ba_toList f
  generalize ba l = L at *
  clear h1 h2 h3 h4 hl hcp
  obtain ⟨o, ho⟩ : ∃ o, o = figB b f := ⟨_, rfl⟩
  rw [← ho]
  have Hno := Lib.hid (fun (h : o = none) w => NumPost.no (w := w) h)
  have Hyes := Lib.hid (fun (n : Int) (h : o = some n) w => NumPost.yes (w := w) h)
  cases f with
  | nil =>
    have hem : (ba []).toList.isEmpty = true := by rw [htl]; rfl
    have Ho := Lib.hid (show o = none from ho)
    clear hn hn9 hix ho htl hsz
    generalize ba [] = S at *
    go_enter Tryz.func71, Tryz.ntmps71
    go_wp2_with fail
    refine (Hc.out _).mono ?_
    rintro e w' ⟨rfl, rfl⟩
    go_wp2_with fail
    go_ret2
    exact Hno.out Ho.out _
  | cons c r =>
    have hem : (ba (c :: r)).toList.isEmpty = false := by rw [htl]; rfl
    have h0 : ∀ w, (Instr.index 9 (.string (ba (c :: r))) (.int .i64 0)).run Tryz.prog w = .ok (.int .u8 c.toNat) w := hix 0 c rfl
    have h1n : 1 ≤ n := by rw [hn]; simp
    clear htl
    by_cases hz : c = 48 ∧ (b = true ∨ r ≠ [])
    · have Ho := Lib.hid (show o = none by rw [ho]; unfold figB; simp only; rw [if_pos hz])
      obtain ⟨rfl, hz⟩ := hz
      have h0 : ∀ w, (Instr.index 9 (.string (ba (48 :: r))) (.int .i64 0)).run Tryz.prog w = .ok (.int .u8 48) w := h0
      rcases hz with rfl | hz
      · clear ho hix hn
        generalize ba (48 :: r) = S at *
        go_enter Tryz.func71, Tryz.ntmps71
        go_wp2_with fail
        refine (Hc.out _).mono ?_
        rintro e w' ⟨rfl, rfl⟩
        go_wp2_with fail
        go_ret2
        exact Hno.out Ho.out _
      · have hn2 : 2 ≤ n := by
          cases r with
          | nil => exact absurd rfl hz
          | cons _ _ => rw [hn]; simp
        have g1 : decide ((1 : Int) < (n : Int)) = true := by simp; omega
        clear ho hix hn hz
        generalize ba (48 :: r) = S at *
        go_enter Tryz.func71, Tryz.ntmps71
        go_wp2_with fail
        refine (Hc.out _).mono ?_
        rintro e w' ⟨rfl, rfl⟩
        cases b
        all_goals
          go_wp2_with fail
          go_ret2
          exact Hno.out Ho.out _
    · have Ho := Lib.hid (show o = (valGo 0 (c :: r)).map fun n => if b then -(n : Int) else n by rw [ho]; unfold figB; simp only; rw [if_neg hz])
      have hst := Lib.hid (valGo_step (c :: r))
      have hgt : c ≠ 48 ∨ (c = 48 ∧ b = false ∧ n = 1) := by
        by_cases hc : c = 48
        · right
          refine ⟨hc, ?_, ?_⟩
          · cases b with
            | false => rfl
            | true => exact absurd ⟨hc, .inl rfl⟩ hz
          · cases r with
            | nil => rw [hn]; rfl
            | cons _ _ => exact absurd ⟨hc, .inr (by simp)⟩ hz
        · exact .inl hc
      have Hix := Lib.hid (And.intro hix hn)
      clear hix hn ho hz
      generalize ba (c :: r) = S at *
      go_enter Tryz.func71, Tryz.ntmps71
      go_wp2_with fail
      refine (Hc.out _).mono ?_
      rintro e w' ⟨rfl, rfl⟩
      go_upto_region 2 with fail
      go_cut [29] (fun t wc => wc = w' ∧ t = .bool false)
      case first =>
        rcases hgt with hc | ⟨rfl, rfl, rfl⟩
        · have g0 : ((c.toNat : Int) == 48) = false := by
            simp only [beq_eq_false_iff_ne, ne_eq]
            intro h
            exact hc (UInt8.toNat_inj.1 (show c.toNat = 48 by omega))
          clear hc
          go_wp2_with fail
          all_goals
            go_meet
            case rel => exact ⟨rfl, rfl⟩
        · have h0 : ∀ w, (Instr.index 9 (.string S) (.int .i64 0)).run Tryz.prog w = .ok (.int .u8 48) w := h0
          go_wp2_with fail
          all_goals
            go_meet
            case rel => exact ⟨rfl, rfl⟩
      case rest =>
        obtain ⟨rfl, rfl⟩ := hcut
        clear hgt h0 hem
        go_wp2_with fail
        go_loop [6, 32] (fun t i => ∃ k N : Nat, k ≤ n ∧ i = .int .i64 k ∧ t = .int .i64 N ∧ N ≤ 4611686018427387904 ∧ Hid (valGo 0 (c :: r) = valGo N ((c :: r).drop k))) (fun _ i => n - (intOf i).toNat)
        case atStart => exact ⟨0, 0, Nat.zero_le _, rfl, rfl, by omega, Lib.hid rfl⟩
        case round =>
          obtain ⟨k, N, hk, rfl, rfl, hN, hT⟩ := hrel
          by_cases hlt : k < n
          · obtain ⟨d, hd⟩ : ∃ d, (c :: r)[k]? = some d := ⟨_, List.getElem?_eq_getElem (by have := Hix.out.2; omega)⟩
            have hd1 := Hix.out.1 k d hd
            have hs1 := hst.out k N d hd
            have Hs := Lib.hid hs1
            have hk0 : 0 ≤ (k : Int) := by omega
            have hdl : d.toNat < 256 := d.toNat_lt
            clear hs1 hd
            generalize d.toNat = D at *
            by_cases h9 : 48 ≤ D ∧ D ≤ 57
            · have Hs := Lib.hid (And.intro h9 Hs.out)
              obtain ⟨h9a, h9b⟩ := h9
              go_wp2_with fail
              case roundEnd =>
                rename_i hle
                go_round
                case rel => exact ⟨k + 1, 10 * N + (D - 48), by omega, by go_num, by go_num, by omega, Lib.hid (by rw [hT.out, Hs.out.2, if_pos Hs.out.1, if_pos (by omega)])⟩
                case measure => simp [intOf]; omega
              all_goals
                rename_i hgt
                have Hs2 := Lib.hid (show o = none by rw [Ho.out, hT.out, Hs.out.2, if_pos Hs.out.1, if_neg (by omega)]; rfl)
                go_ret2
                exact Hno.out Hs2.out _
            · have Hs2 := Lib.hid (show o = none by rw [Ho.out, hT.out, Hs.out, if_neg h9]; rfl)
              by_cases hl9 : D < 48
              · clear h9
                go_wp2_with fail
                go_ret2
                exact Hno.out Hs2.out _
              · have hg9 : 57 < D := by omega
                clear h9
                go_wp2_with fail
                go_ret2
                exact Hno.out Hs2.out _
          · obtain rfl : k = n := by omega
            have Hs2 := Lib.hid (show o = some (if b then -(N : Int) else N) by
              have h1 := hT.out
              rw [List.drop_of_length_le (by have := Hix.out.2; omega)] at h1
              rw [Ho.out, h1]; rfl)
            cases b with
            | true =>
              go_wp2_with fail
              go_ret2
              exact Hyes.out _ Hs2.out _
            | false =>
              go_wp2_with fail
              go_ret2
              exact Hyes.out _ Hs2.out _
end Go.Proofs.YtpcdbkaeijhmfaaGreatDoor
