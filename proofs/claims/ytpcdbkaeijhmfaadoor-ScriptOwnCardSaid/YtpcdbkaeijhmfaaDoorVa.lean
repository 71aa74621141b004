/- slices.Values of strings. -/
import Derived.Test.YtpcdbkaeijhmfaaDoorTx
import Derived.Test.YtpcdbkaeijhmfaaDoorRngst
namespace Go.Proofs.YtpcdbkaeijhmfaaDoor
set_option maxRecDepth 100000
set_option linter.unusedVariables false
set_option linter.unusedSimpArgs false
open Go.RowKit
/-- A slice of strings, at a place. -/
theorem strs_at {w : World} {K : Nat → Prop} {A : Option Addr} {n c : Nat} {ws : List By} (h : Sl w K (.slice A n c) (svb ws)) (k : Nat) (hk : k < n) : ∃ x g o, ws[k]? = some x ∧ A = some ⟨g, o, none⟩ ∧ K g ∧ w.cell? ⟨g, o + k, none⟩ = some (.string (ba x)) := by
  obtain ⟨A', n', c', e, h1, h2, h3, h4⟩ := h
  cases e
  rw [svb_length] at h1
  obtain ⟨g, o, rfl, hK, hc⟩ := h4.resolve_left (by omega)
  have hk' : k < ws.length := by omega
  refine ⟨ws[k], g, o, List.getElem?_eq_getElem hk', rfl, hK, ?_⟩
  rw [hc k (by simp; omega)]
  simp [svb]
theorem strs_len {w : World} {K : Nat → Prop} {A : Option Addr} {n c : Nat} {ws : List By} (h : Sl w K (.slice A n c) (svb ws)) : n = ws.length := by
  obtain ⟨A', n', c', e, h1, -⟩ := h
  cases e
  rwa [svb_length] at h1
theorem values_any (v : Value) (w : World) (hv : v.oneCell' = true) : Calls Tryd.prog 36 #[v] w fun e w' => e = .returned (.func (.func 51) #[] #[.pointer (some ⟨w.heap.size, 0, none⟩)]) ∧ w' = w.alloc (.cells #[v] 46) := by
  go_enter Tryd.func36, Tryd.ntmps36
  go_wp2
  go_ret
  exact ⟨rfl, rfl⟩
set_option maxRecDepth 100000 in
set_option maxHeartbeats 4000000 in
theorem values1_in (n : Nat) (hn : 3 ≤ n) (l b n₀ N c : Nat) (A : Option Addr) (L : List By) (Kq : Nat → Prop) (Gx : By → Prop) (hGx : ∀ x ∈ L, Gx x) (J : List By → World → Prop) (hl : L.length ≤ 100000000)
    (hY : ∀ pre x W1, J pre W1 → Gx x → pre.length < L.length → YieldAt Fence.wide (n - 1) Tryd.prog l #[sEnc x] W1 fun e W' => e = .returned (.bool true) ∧ J (pre ++ [x]) W' ∧ Frm (fun q => ¬ (q = b ∨ Kq q)) W1 W')
    (W : World) (hb : Blk W b 46 #[.slice A N c]) (hs : Sl W Kq (.slice A N c) (svb L)) (hK : ∀ q, Kq q → q < W.heap.size) (h0 : J [] W) :
    CallsIn Fence.wide n Tryd.prog 51 #[.func (.yield l) #[] #[], .pointer (some ⟨b, 0, none⟩)] W fun e W' => (∃ v, e = .returned v) ∧ ∃ ys, ys = L ∧ J ys W' := by
  refine callsIn_of_wp Tryd.func51 rfl trivial ?_ rfl
  simp only [Tryd.ntmps51, List.size_toArray, List.length_cons, List.length_nil, Nat.reduceAdd, Nat.reduceSub, Array.replicate_succ, Array.replicate_zero, List.push_toArray, List.append_toArray, List.nil_append, List.cons_append]
  have hc0 : W.cell? ⟨b, 0, none⟩ = some (.slice A N c) := hb.cell 0
  have hN := strs_len hs
  have hN9 : N ≤ 100000000 := by omega
  have Hgx := Lib.hid hGx
  clear hGx
  have HL := Lib.hid (And.intro hl (And.intro hY (And.intro hb (And.intro hs (And.intro hK (And.intro h0 hN))))))
  clear hl hY hb hs hK h0 hN
  gi_wp2
  gi_loopw [7] (fun i wr => ∃ k : Nat, k ≤ N ∧ i = .int .i64 k ∧ Hid (J (L.take k) wr ∧ Frm (fun q => ¬ (q = b ∨ Kq q)) W wr)) (fun i _ => N - (intOf i).toNat)
  case atStart => exact ⟨0, Nat.zero_le _, rfl, Lib.hid ⟨HL.out.2.2.2.2.2.1, Frm.refl _ _⟩⟩
  case round =>
    obtain ⟨k, hk, rfl, hT⟩ := hrel
    by_cases hlt : k < N
    · obtain ⟨hl, hY, hb, hs, hK, h0, hN⟩ := HL.out
      obtain ⟨hJ, hF⟩ := hT.out
      obtain ⟨x, g, o, hx, rfl, hKg, hc⟩ := strs_at hs k hlt
      have hc1 := hF.cell hc (by show ¬ ¬ (_ ∨ _); exact fun h => h (.inr hKg))
      have hY1 := hY (L.take k) x wr hJ (Hgx.out x (List.mem_of_getElem? hx)) (by rw [List.length_take]; omega)
      simp only [sEnc] at hY1
      obtain ⟨fn, tmps, assign, body, hy, hRd⟩ := hY1
      have ht : L.take k ++ [x] = L.take (k + 1) := by
        obtain ⟨hk', rfl⟩ := List.getElem?_eq_some_iff.1 hx
        exact (List.take_succ_eq_append_getElem hk').symm
      have HA := Lib.hid (And.intro hF ht)
      clear hl hY hb hs hK h0 hN hJ hF hx hc hT
      gi_wp2_with fail
      refine ⟨fun _ => by omega, hRd.mono ?_⟩
      rintro e4 w4 ⟨rfl, hJ4, hk4⟩
      have H4 := Lib.hid (And.intro hJ4 (HA.out.1.trans' hk4))
      clear hJ4 hk4 hRd hy hc1
      gi_wp2_with fail
      go_roundw
      case rel => exact ⟨k + 1, by omega, by go_num, Lib.hid ⟨by rw [← HA.out.2]; exact H4.out.1, H4.out.2⟩⟩
      case measure => simp [intOf]; omega
    · obtain rfl : k = N := by omega
      gi_wp2_with fail
      refine bodyPost_end (results_none rfl _ _ _) rfl ?_
      refine ⟨⟨_, rfl⟩, _, rfl, ?_⟩
      have := hT.out.1
      rwa [List.take_of_length_le (by have := HL.out.2.2.2.2.2.2; omega)] at this
/-- A loop over the values of a slice of strings. -/
theorem values_seq (n b N c : Nat) (hn : 3 ≤ n) (A : Option Addr) (L : List By) (Kq : Nat → Prop) (Gx : By → Prop) (hGx : ∀ x ∈ L, Gx x) (w : World) (hl : L.length ≤ 100000000) (hb : Blk w b 46 #[.slice A N c]) (hs : Sl w Kq (.slice A N c) (svb L)) (hK : ∀ q, Kq q → q < w.heap.size) :
    SeqW Fence.wide n Tryd.prog 51 #[.pointer (some ⟨b, 0, none⟩)] (fun x : By => #[sEnc x]) (fun X Y => Frm (fun _ => False) X Y) (fun X Y => Frm (fun q => ¬ (q = b ∨ Kq q)) X Y) (fun x _ => Gx x)
      (fun ys => ys = L) L.length w := fun l J W hW hJ hY h0 =>
  values1_in n hn l b 0 N c A L Kq Gx hGx J hl hY W (hb.kept hW id) (hs.keptTo fun q hq => ⟨hW.block q (hK q hq) id, hq⟩) (fun q hq => Nat.lt_of_lt_of_le (hK q hq) hW.size) h0
end Go.Proofs.YtpcdbkaeijhmfaaDoor
