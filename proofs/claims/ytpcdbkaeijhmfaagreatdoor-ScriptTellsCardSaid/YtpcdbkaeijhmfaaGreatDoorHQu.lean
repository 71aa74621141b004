/- script: Quote. -/
import Derived.Test.YtpcdbkaeijhmfaaGreatDoorGF
namespace Go.Proofs.YtpcdbkaeijhmfaaGreatDoor
set_option maxRecDepth 100000
set_option linter.unusedVariables false
set_option linter.unusedSimpArgs false
open Go.RowKit
def quoteGo (x : By) : By := 34 :: x.flatMap quote1
theorem quoteB_eq (x : By) : quoteB x = quoteGo x ++ [34] := rfl
theorem quote1_len (c : UInt8) : (quote1 c).length ≤ 3 := by unfold quote1; split <;> simp
theorem quoteGo_snoc (x : By) (c : UInt8) : quoteGo (x ++ [c]) = quoteGo x ++ quote1 c := by simp [quoteGo]
theorem quoteGo_len (x : By) : (quoteGo x).length ≤ 3 * x.length + 1 := by
  unfold quoteGo
  rw [List.length_cons]
  induction x with
  | nil => simp
  | cons c r ih => rw [List.flatMap_cons, List.length_append, List.length_cons]; have := quote1_len c; omega
theorem hexD_at : ∀ n : Nat, n < 256 → digits16[n / 16]? = some (hexD (n / 16)) ∧ digits16[n % 16]? = some (hexD (n % 16)) ∧ bits BinOp.and IntKind.u8 (n : Int) 15 = ((n % 16 : Nat) : Int) := by decide +kernel
set_option maxHeartbeats 3200000 in
theorem quote_any (A : Option Addr) (n c : Nat) (K : Nat → Prop) (x : By) (w : World) (h : Sl w K (.slice A n c) (bv x)) (hn : x.length ≤ 1000000) (hK : ∀ q, K q → q < w.heap.size) :
    Calls Tryz.prog 9 #[.slice A n c] w fun e w' => e = .returned (.string (ba (quoteB x))) ∧ Frm (fun _ => False) w w' := by
  have H := Lib.hid (And.intro h (And.intro hn hK))
  have hnx : n = x.length := by
    obtain ⟨A', n', c', e, h1, -⟩ := h
    cases e
    simpa [bv] using h1
  have Hnx := Lib.hid hnx
  obtain ⟨i0, hi, hz0, hz1, hz2⟩ := info_parts infoU
  clear h hK hnx
  go_enter Tryz.func9, Tryz.ntmps9
  go_wp2_with fail
  go_loopw [3, 9] (fun t i wr => ∃ k : Nat, k ≤ n ∧ i = .int .i64 k ∧ Hid (∃ m, m = (quoteGo (x.take k)).length ∧ wr.ownsRow w.heap.size 5 1 t m (bv (quoteGo (x.take k))) ∧ Frm (fun _ => False) w wr)) (fun _ i _ => n - (intOf i).toNat)
  case atStart => exact ⟨0, Nat.zero_le _, rfl, Lib.hid ⟨1, rfl, own_new1 rfl (Nat.le_refl _), (Frm.refl _ w).alloc _⟩⟩
  case round =>
    obtain ⟨k, hk, rfl, hT⟩ := hrel
    obtain ⟨m, hm, ho, hF⟩ := hT.out
    obtain ⟨A5, c5, rfl, -, -⟩ := own_form ho
    by_cases hlt : k < n
    · obtain ⟨y, hy⟩ : ∃ y, x[k]? = some y := ⟨_, List.getElem?_eq_getElem (by have := Hnx.out; omega)⟩
      obtain ⟨g, o, rfl, hKg, hc⟩ : ∃ g o, A = some ⟨g, o, none⟩ ∧ K g ∧ wr.cell? ⟨g, o + k, none⟩ = some (.int .u8 y.toNat) := by
        obtain ⟨A', n', c', e, h1, h2, h3, h4⟩ := H.out.1
        cases e
        obtain ⟨g, o, rfl, hKg, hcs⟩ := h4.resolve_left (by omega)
        refine ⟨g, o, rfl, hKg, ?_⟩
        have h5 := hcs k (by have := Hnx.out; simp [bv]; omega)
        rw [hF.cell h5 id]
        obtain ⟨hk', he⟩ := List.getElem?_eq_some_iff.1 hy
        simp [bv, he]
      have hpa := plain_any y wr
      have HLt := Lib.hid (show k < n from hlt)
      have hk0 : 0 ≤ (k : Int) := by omega
      have hk9 : k ≤ 1000000 := by have := Hnx.out; omega
      have Hs := Lib.hid (show quoteGo (x.take (k + 1)) = quoteGo (x.take k) ++ quote1 y by rw [List.take_add_one, hy]; exact quoteGo_snoc _ _)
      have HA := Lib.hid (And.intro hm (And.intro ho (And.intro hF Hnx.out)))
      have hm9 : m ≤ 3000001 := by have := quoteGo_len (x.take k); rw [← hm, List.length_take] at this; omega
      clear hT hm ho hF hy
      cases hp : plainB y with
      | true =>
        rw [hp] at hpa
        have Hp := Lib.hid hp
        clear hp
        go_wp2_with fail
        refine hpa.mono ?_
        rintro e w1 ⟨rfl, rfl⟩
        go_wp2_with (at_builtin; go_loud (refine wpList_append_sl (by rfl) _ _ 34 (by rfl) w.heap.size 5 i0 (.int .u8 0) 1 Tryz.underlying34 hi hz0 hz1 hz2 (by rfl) _ m _ (by rfl) (((Frm.refl (fun _ => False) wr).alloc _).own HA.out.2.1 fun _ _ => id) (fun q => q = wr.heap.size) _ [.int .u8 (y.toNat : Nat)] (by rfl) (Sl.blk1 wr _ _) (by intro u hu; rw [List.mem_singleton.1 hu]; rfl) (by unfold maxLen; simp; omega) (by simp; omega) (by have := HA.out.2.2.1.size; simp; omega) ?_); go_loud (intro A6 N6 c6 w6 HN hNc hc6 hown hg hat))
        obtain rfl : N6 = m + 1 := HN.out
        have HE := Lib.hid (And.intro hown (((HA.out.2.2.1).alloc _).grown hg fun q hq => .inr (HA.out.2.1.lt q hq).1))
        clear hown hg hat HN
        go_wp2_with fail
        go_roundw
        case rel => exact ⟨k + 1, by have := HLt.out; omega, by go_num, Lib.hid ⟨m + 1, by rw [Hs.out, List.length_append, ← HA.out.1, quote1, if_pos Hp.out]; rfl, by
          have h1 := HE.out.1
          have e : bv (quoteGo (x.take k)) ++ [.int .u8 (y.toNat : Nat)] = bv (quoteGo (x.take (k + 1))) := by rw [Hs.out, quote1, if_pos Hp.out]; simp [bv]
          rw [e] at h1
          exact h1, HE.out.2⟩⟩
        case measure => have := HLt.out; simp [intOf]; omega
      | false =>
        rw [hp] at hpa
        have Hp := Lib.hid hp
        clear hp
        have hcl : y.toNat < 256 := y.toNat_lt
        obtain ⟨q1, q2, hband⟩ := hexD_at y.toNat hcl
        have hq1 : 0 ≤ (y.toNat : Int) / 16 ∧ (y.toNat : Int) / 16 < 16 := by omega
        have i1 : ∀ w, (Instr.index 9 (.string ⟨#[48, 49, 50, 51, 52, 53, 54, 55, 56, 57, 97, 98, 99, 100, 101, 102]⟩) (.int .u8 ((y.toNat : Int) / 16))).run Tryz.prog w = .ok (.int .u8 (hexD (y.toNat / 16)).toNat) w := fun w => by
          obtain ⟨hk, he⟩ := List.getElem?_eq_some_iff.1 q1
          have hk' : y.toNat / 16 < (ba digits16).size := hk
          show (Instr.index 9 (.string (ba digits16)) (.int .u8 ((y.toNat / 16 : Nat) : Int))).run Tryz.prog w = _
          rw [run_index_string w _ (ba digits16) .u8 (y.toNat / 16 : Nat) Tryz.underlying9, dif_pos ⟨by omega, by omega⟩]
          congr 3
          rw [← he]
          rfl
        have i2 : ∀ w, (Instr.index 9 (.string ⟨#[48, 49, 50, 51, 52, 53, 54, 55, 56, 57, 97, 98, 99, 100, 101, 102]⟩) (.int .u8 ((y.toNat : Int) % 16))).run Tryz.prog w = .ok (.int .u8 (hexD (y.toNat % 16)).toNat) w := fun w => by
          obtain ⟨hk, he⟩ := List.getElem?_eq_some_iff.1 q2
          have hk' : y.toNat % 16 < (ba digits16).size := hk
          show (Instr.index 9 (.string (ba digits16)) (.int .u8 ((y.toNat % 16 : Nat) : Int))).run Tryz.prog w = _
          rw [run_index_string w _ (ba digits16) .u8 (y.toNat % 16 : Nat) Tryz.underlying9, dif_pos ⟨by omega, by omega⟩]
          congr 3
          rw [← he]
          rfl
        clear q1 q2
        go_wp2_with fail
        refine hpa.mono ?_
        rintro e w1 ⟨rfl, rfl⟩
        go_upto_region 7 with fail
        go_region_law (refine step_append_sl (by rfl) _ _ 34 (by rfl) w.heap.size 5 i0 (.int .u8 0) 1 Tryz.underlying34 hi hz0 hz1 hz2 (by rfl) _ m _ (by rfl) (((Frm.refl (fun _ => False) wr).drew.alloc _).own HA.out.2.1 fun _ _ => id) (fun q => q = wr.heap.size) _ [.int .u8 92, .int .u8 (hexD (y.toNat / 16)).toNat, .int .u8 (hexD (y.toNat % 16)).toNat] (by rfl) (by exact Sl.blk wr.drew _ _ rfl ⟨rfl, by omega⟩) (by simp [Value.oneCell']) (by unfold maxLen; simp; omega) (by simp; omega) (by have := HA.out.2.2.1.size; simp; omega) ?_; intro A6 N6 c6 w6 HN hNc hc6 hown hg hat)
        all_goals
          obtain rfl : N6 = m + 3 := HN.out
          have HE := Lib.hid (And.intro hown (((HA.out.2.2.1).drew.alloc _).grown hg fun q hq => .inr (HA.out.2.1.lt q hq).1))
          clear hown hg hat HN i1 i2
          go_wp2_with fail
          go_roundw
          case rel => exact ⟨k + 1, by have := HLt.out; omega, by go_num, Lib.hid ⟨m + 3, by rw [Hs.out, List.length_append, ← HA.out.1, quote1, if_neg (by rw [Hp.out]; decide)]; rfl, by
            have h1 := HE.out.1
            have e : bv (quoteGo (x.take k)) ++ [.int .u8 92, .int .u8 (hexD (y.toNat / 16)).toNat, .int .u8 (hexD (y.toNat % 16)).toNat] = bv (quoteGo (x.take (k + 1))) := by rw [Hs.out, quote1, if_neg (by rw [Hp.out]; decide)]; simp [bv]
            rw [e] at h1
            exact h1, HE.out.2⟩⟩
          case measure => have := HLt.out; simp [intOf]; omega
    · obtain rfl : k = n := by omega
      have HA := Lib.hid (And.intro hm (And.intro ho hF))
      have hm9 : m ≤ 3000001 := by have := quoteGo_len (x.take k); rw [← hm, List.length_take] at this; omega
      clear hT hm ho hF
      go_wp2_with (at_builtin; go_loud (refine wpList_append_sl (by rfl) _ _ 34 (by rfl) w.heap.size 5 i0 (.int .u8 0) 1 Tryz.underlying34 hi hz0 hz1 hz2 (by rfl) _ m _ (by rfl) (((Frm.refl (fun _ => False) wr).alloc _).own HA.out.2.1 fun _ _ => id) (fun q => q = wr.heap.size) _ [.int .u8 34] (by rfl) (Sl.blk1 wr _ _) (by intro u hu; rw [List.mem_singleton.1 hu]; rfl) (by unfold maxLen; simp; omega) (by simp; omega) (by have := HA.out.2.2.size; simp; omega) ?_); go_loud (intro A6 N6 c6 w6 HN hNc hc6 hown hg hat))
      obtain rfl : N6 = m + 1 := HN.out
      have e : bv (quoteGo (x.take k)) ++ [.int .u8 34] = bv (quoteB x) := by
        rw [quoteB_eq, List.take_of_length_le (by have := Hnx.out; omega)]; simp [bv]
      rw [e] at hown
      have hcv := run_conv Tryz.underlying34 Tryz.underlying5 Tryz.underlying9 (OSl.of_own hown (K := fun _ => True) fun _ _ => trivial).sl
      have HE := Lib.hid ((((HA.out.2.2).alloc _).grown hg fun q hq => .inr (HA.out.2.1.lt q hq).1))
      clear hown hg hat HN e
      rw [hcv]
      clear hcv
      go_wp2_with fail
      go_ret
      exact ⟨rfl, HE.out⟩
end Go.Proofs.YtpcdbkaeijhmfaaGreatDoor
