/- The document's script: Quote. -/
import Derived.Test.YtpcdbkaeijhmfaaGreatDoorGI
import Derived.Test.YtpcdbkaeijhmfaaGreatDoorHQu
import Derived.Test.YtpcdbkaeijhmfaaGreatDoorGA
namespace Go.Proofs.YtpcdbkaeijhmfaaGreatDoor
set_option maxRecDepth 100000
set_option linter.unusedVariables false
set_option linter.unusedSimpArgs false
open Go.RowKit
attribute [local go_sem] Oper.semAt_some
theorem u8_inn (n : Int) (h0 : 0 ≤ n) (h : n < 256) : IntKind.u8.wrap n = n := by
  simp [IntKind.wrap, IntKind.bits, IntKind.signed]
  omega
theorem hex_at (n : Nat) (h : n < 16) : ({ data := #[48, 49, 50, 51, 52, 53, 54, 55, 56, 57, 97, 98, 99, 100, 101, 102] } : ByteArray).extract n (n + 1) = ba [hexD n] := by
  have h1 : ∀ n, n < 16 → ((digits16.take (n + 1)).drop n) = [hexD n] := by decide +kernel
  rw [← h1 n h]
  exact ba_extract digits16 n (n + 1)
set_option maxHeartbeats 3200000 in
theorem quoteR_any (A : Option Addr) (n c : Nat) (K : Nat → Prop) (x : By) (w : World) (h : Sl w K (.slice A n c) (bv x)) (hn : x.length ≤ 1000000) (hK : ∀ q, K q → q < w.heap.size) :
    Calls Tryz.prog 10 #[.slice A n c] w fun e w' => e = .returned (.string (ba (quoteB x))) ∧ Frm (fun _ => False) w w' := by
  have H := Lib.hid (And.intro h (And.intro hn hK))
  have hnx : n = x.length := by
    obtain ⟨A', n', c', e, h1, -⟩ := h
    cases e
    simpa [bv] using h1
  have hnc : n ≤ c ∧ c ≤ 9223372036854775807 := by
    obtain ⟨A', n', c', e, h1, h2, h3, -⟩ := h
    cases e
    exact ⟨h2, h3⟩
  obtain ⟨hnc1, hnc2⟩ := hnc
  have Hnx := Lib.hid hnx
  have hn9 : n ≤ 1000000 := by omega
  clear h hK hnx hn
  go_enter Tryz.func10, Tryz.ntmps10
  go_wp2_with fail
  go_loopw [4, 5] (fun t i wr => ∃ k : Nat, k ≤ n ∧ i = .int .i64 k ∧ t = .string (ba (quoteGo (x.take k))) ∧ Hid (Frm (fun _ => False) w wr)) (fun _ i _ => n - (intOf i).toNat)
  case atStart => exact ⟨0, Nat.zero_le _, rfl, rfl, Lib.hid (Frm.refl _ w)⟩
  case round =>
    obtain ⟨k, hk, rfl, rfl, HF⟩ := hrel
    by_cases hlt : k < n
    · obtain ⟨y, hy⟩ : ∃ y, x[k]? = some y := ⟨_, List.getElem?_eq_getElem (by have := Hnx.out; omega)⟩
      obtain ⟨g, o, rfl, hc⟩ : ∃ g o, A = some ⟨g, o, none⟩ ∧ wr.cell? ⟨g, o + k, none⟩ = some (.int .u8 y.toNat) := by
        obtain ⟨A', n', c', e, h1, h2, h3, h4⟩ := H.out.1
        cases e
        obtain ⟨g, o, rfl, hKg, hcs⟩ := h4.resolve_left (by omega)
        refine ⟨g, o, rfl, ?_⟩
        have h5 := hcs k (by have := Hnx.out; simp [bv]; omega)
        rw [HF.out.cell h5 id]
        obtain ⟨hk', he⟩ := List.getElem?_eq_some_iff.1 hy
        simp [bv, he]
      have Hs := Lib.hid (show quoteGo (x.take (k + 1)) = quoteGo (x.take k) ++ quote1 y by rw [List.take_add_one, hy]; exact quoteGo_snoc _ _)
      have hk0 : 0 ≤ (k : Int) := by omega
      have hl9 : (quoteGo (x.take k)).length ≤ 3000001 := by have := quoteGo_len (x.take k); rw [List.length_take] at this; omega
      obtain ⟨Y, hY⟩ : ∃ Y, Y = quoteGo (x.take k) := ⟨_, rfl⟩
      rw [← hY] at hl9 ⊢
      have HY := Lib.hid hY
      have hcl : y.toNat < 256 := y.toNat_lt
      obtain ⟨d, hd⟩ : ∃ d, d = y.toNat := ⟨_, rfl⟩
      rw [← hd] at hc hcl
      have Hd := Lib.hid hd
      clear hy hY hd
      cases hp : plainB y with
      | true =>
        have Hp := Lib.hid hp
        have hpd : 32 ≤ d ∧ d ≤ 126 ∧ d ≠ 34 ∧ d ≠ 92 := by rw [Hd.out]; exact of_decide_eq_true hp
        obtain ⟨p1, p2, p3, p4⟩ := hpd
        have e1 : decide ((d : Int) < 32) = false := decide_eq_false (by omega)
        have e2 : decide ((d : Int) > 126) = false := decide_eq_false (by omega)
        have e3 : ((d : Int) == 34) = false := by simp; omega
        have e4 : ((d : Int) == 92) = false := by simp; omega
        clear hp p1 p2 p3 p4
        have hcv : (convert 34 9 (.slice (some ⟨g, o + k, none⟩) 1 (c - k))).run Tryz.prog wr = .ok (.string (ba [y])) wr :=
          run_conv (P := Tryz.prog) (K := fun _ => True) Tryz.underlying34 Tryz.underlying5 Tryz.underlying9 (l := [y]) ⟨_, 1, c - k, rfl, rfl, by omega, by omega, .inr ⟨g, o + k, rfl, trivial, fun i hi => by
            obtain rfl : i = 0 := by simpa [bv] using hi
            rw [Nat.add_zero, hc, Hd.out]; rfl⟩⟩
        have n1 : ¬ (9223372036854775807 < (ba Y).size + (ba [y]).size) := by rw [ba_size, ba_size]; simp; omega
        have c1 : ba Y ++ ba [y] = ba (Y ++ [y]) := ba_app Y [y]
        go_wp2_with fail
        go_roundw
        case rel => exact ⟨k + 1, by omega, by go_num, by rw [Hs.out, ← HY.out, quote1, if_pos Hp.out], HF⟩
        case measure => simp [intOf]; omega
      | false =>
        have Hp := Lib.hid hp
        have hpd : ¬ (32 ≤ d ∧ d ≤ 126 ∧ d ≠ 34 ∧ d ≠ 92) := by rw [Hd.out]; exact of_decide_eq_false hp
        have hq1 : d / 16 < 16 := by omega
        have hq2 : d % 16 < 16 := by omega
        have hx1 := hex_at (d / 16) hq1
        have hx2 := hex_at (d % 16) hq2
        have H1 := Lib.hid (show quote1 y = [92] ++ [hexD (d / 16)] ++ [hexD (d % 16)] by rw [quote1, if_neg (by rw [hp]; decide), ← Hd.out]; rfl)
        obtain ⟨D1, hD1⟩ : ∃ D : By, D = [hexD (d / 16)] := ⟨_, rfl⟩
        obtain ⟨D2, hD2⟩ : ∃ D : By, D = [hexD (d % 16)] := ⟨_, rfl⟩
        rw [← hD1] at hx1
        rw [← hD2] at hx2
        have HDD := Lib.hid (And.intro hD1 hD2)
        have hl1 : D1.length = 1 := by rw [hD1]; rfl
        have hl2 : D2.length = 1 := by rw [hD2]; rfl
        obtain ⟨X0, hX0⟩ : ∃ X, X = Y ++ [92] := ⟨_, rfl⟩
        obtain ⟨X1, hX1⟩ : ∃ X, X = X0 ++ D1 := ⟨_, rfl⟩
        obtain ⟨X2, hX2⟩ : ∃ X, X = X1 ++ D2 := ⟨_, rfl⟩
        have k0 : X0.length = Y.length + 1 := by rw [hX0]; simp
        have k1 : X1.length = Y.length + 2 := by rw [hX1, List.length_append]; omega
        have n1 : ¬ (9223372036854775807 < (ba Y).size + 1) := by rw [ba_size]; omega
        have c1 : ba Y ++ ({ data := #[92] } : ByteArray) = ba X0 := by rw [hX0]; exact ba_app Y [92]
        have n2 : ¬ (9223372036854775807 < (ba X0).size + (ba D1).size) := by rw [ba_size, ba_size]; omega
        have c2 : ba X0 ++ ba D1 = ba X1 := by rw [hX1]; exact ba_app _ _
        have n3 : ¬ (9223372036854775807 < (ba X1).size + (ba D2).size) := by rw [ba_size, ba_size]; omega
        have c3 : ba X1 ++ ba D2 = ba X2 := by rw [hX2]; exact ba_app _ _
        have HE := Lib.hid (show X2 = quoteGo (x.take (k + 1)) by rw [Hs.out, H1.out, ← HY.out, hX2, hX1, hX0, hD1, hD2]; simp)
        clear hX0 hX1 hX2 k0 k1
        clear hp hD1 hD2 hl1 hl2 hl9
        go_upto_region 7 with fail
        go_cut [30] (fun t wc => wc = wr ∧ t = .bool true)
        case first =>
          clear hx1 hx2 n1 n2 n3 c1 c2 c3
          by_cases q1 : d < 32
          · have e1 : decide ((d : Int) < 32) = true := decide_eq_true (by omega)
            clear hpd
            go_wp2_with fail
            go_meet
            case rel => exact ⟨rfl, rfl⟩
          · have e1 : decide ((d : Int) < 32) = false := decide_eq_false (by omega)
            by_cases q2 : 126 < d
            · have e2 : decide ((d : Int) > 126) = true := decide_eq_true (by omega)
              clear hpd
              go_wp2_with fail
              go_meet
              case rel => exact ⟨rfl, rfl⟩
            · have e2 : decide ((d : Int) > 126) = false := decide_eq_false (by omega)
              by_cases q3 : d = 34
              · have e3 : ((d : Int) == 34) = true := by simp; omega
                clear hpd q1 q2 q3
                go_wp2_with fail
                go_meet
                case rel => exact ⟨rfl, rfl⟩
              · have e3 : ((d : Int) == 34) = false := by simp; omega
                have e4 : ((d : Int) == 92) = true := by simp; omega
                clear hpd q1 q2 q3
                go_wp2_with fail
                go_meet
                case rel => exact ⟨rfl, rfl⟩
        case rest =>
          obtain ⟨hwc, rfl⟩ := hcut
          obtain rfl := hwc.symm
          clear hpd
          go_upto_region 8 with fail
          refine plan_begin (by kernel_rfl) 19 (by kernel_rfl) ?_
          obtain ⟨W, hW⟩ : ∃ W, W = wr.drew := ⟨_, rfl⟩
          have HW := Lib.hid (show Frm (fun _ => False) w W from hW ▸ HF.out.drew)
          rw [← hW]
          clear hW HF
          have u1 : IntKind.u8.wrap ((d : Int) / 16) = (d : Int) / 16 := u8_inn _ (by omega) (by omega)
          have u2 : IntKind.u8.wrap ((d : Int) / 16 + 1) = (d : Int) / 16 + 1 := u8_inn _ (by omega) (by omega)
          have u3 : (d : Int).tmod 16 = (d : Int) % 16 := Int.tmod_eq_emod_of_nonneg (by omega)
          have u4 : IntKind.u8.wrap ((d : Int) % 16 + 1) = (d : Int) % 16 + 1 := u8_inn _ (by omega) (by omega)
          have s1 : ∀ w, (Instr.slice 9 (.string { data := #[48, 49, 50, 51, 52, 53, 54, 55, 56, 57, 97, 98, 99, 100, 101, 102] }) (some (.int .u8 ((d : Int) / 16))) (some (.int .u8 ((d : Int) / 16 + 1))) none).run Tryz.prog w = .ok (.string (ba D1)) w := fun w => by
            have h := run_midk (P := Tryz.prog) Tryz.underlying9 .u8 .u8 digits16 (d / 16) (d / 16 + 1) (by omega) (by show d / 16 + 1 ≤ 16; omega) w
            rw [← ba_extract] at h
            rw [← hx1]
            exact h
          have s2 : ∀ w, (Instr.slice 9 (.string { data := #[48, 49, 50, 51, 52, 53, 54, 55, 56, 57, 97, 98, 99, 100, 101, 102] }) (some (.int .u8 ((d : Int) % 16))) (some (.int .u8 ((d : Int) % 16 + 1))) none).run Tryz.prog w = .ok (.string (ba D2)) w := fun w => by
            have h := run_midk (P := Tryz.prog) Tryz.underlying9 .u8 .u8 digits16 (d % 16) (d % 16 + 1) (by omega) (by show d % 16 + 1 ≤ 16; omega) w
            rw [← ba_extract] at h
            rw [← hx2]
            exact h
          clear hx1 hx2
          refine plan_still 19 0 18 1 (by kernel_rfl) (by kernel_rfl) (by kernel_rfl) (by kernel_rfl) (by kernel_rfl) (by kernel_rfl) (by kernel_rfl) (fun Kp hKp => ?_)
          simp only [List.append_eq, List.cons_append, List.nil_append, List.take_succ_cons, List.take_zero, List.drop_succ_cons, List.drop_zero, List.drop_nil, List.take_nil]
          repeat still_step
          refine wpStill_nil ?_
          refine hKp _ ?_
          clear hKp Kp
          refine plan_one 18 (by kernel_rfl) rfl ?_
          intro K hK
          go_wp2_with fail
          refine plan_done (by kernel_rfl) ?_
          go_wp2_with fail
          go_roundw
          case rel => exact ⟨k + 1, by omega, by go_num, by rw [← HE.out], HW⟩
          case measure => simp [intOf]; omega
    · obtain rfl : n = k := by omega
      have hl9 : (quoteGo (x.take n)).length ≤ 3000001 := by have := quoteGo_len (x.take n); rw [List.length_take] at this; omega
      obtain ⟨Y, hY⟩ : ∃ Y, Y = quoteGo (x.take n) := ⟨_, rfl⟩
      rw [← hY] at hl9 ⊢
      have HY := Lib.hid (show quoteB x = Y ++ [34] by rw [hY, Hnx.out, List.take_length]; exact quoteB_eq x)
      have n1 : ¬ (9223372036854775807 < (ba Y).size + 1) := by rw [ba_size]; omega
      have c1 : ba Y ++ ({ data := #[34] } : ByteArray) = ba (Y ++ [34]) := ba_app Y [34]
      clear hY hl9
      go_wp2_with fail
      go_ret
      exact ⟨by rw [HY.out]; rfl, HF.out⟩
end Go.Proofs.YtpcdbkaeijhmfaaGreatDoor
