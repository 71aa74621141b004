/- The walks of teaselref03's Great and Join. -/
import Derived.Test.YtecpbnkkgdppoaaBa
namespace Go.Proofs.Ytecpbnkkgdppoaa
open Go.RowKit
abbrev Hdr := Option Addr × Nat × Nat
def hdr (x : Hdr) : Value := .slice x.1 x.2.1 x.2.2

def sumH (xs : List Hdr) : Nat := (xs.map fun x => x.2.1).sum
theorem Each.hdrs {w : World} {K : Nat → Prop} {vs : List Value} {L : List (List UInt8)} (h : Each w K vs L) : ∃ xs : List Hdr, vs = xs.map hdr ∧ sumH xs = tot L := by
  induction vs generalizing L with
  | nil =>
    have : L = [] := List.eq_nil_of_length_eq_zero (by have := h.1; simpa using this.symm)
    subst this
    exact ⟨[], rfl, rfl⟩
  | cons v vs ih =>
    cases L with
    | nil => exact absurd h.1 (by simp)
    | cons l L =>
      obtain ⟨xs, rfl, hs⟩ := ih h.tail
      obtain ⟨A, n, c, rfl, hn, _⟩ := h.head
      exact ⟨(A, n, c) :: xs, rfl, by rw [tot_cons, ← hs]; simp [sumH]; simpa using hn⟩
theorem sumH_append (a b : List Hdr) : sumH (a ++ b) = sumH a + sumH b := by simp [sumH]
def capH (xs : List Hdr) : Nat := (xs.map fun x => min x.2.1 4000).sum
theorem capH_append (a b : List Hdr) : capH (a ++ b) = capH a + capH b := by simp [capH]
theorem capH_le (xs : List Hdr) (h : capH xs ≤ 3000) : sumH xs ≤ 3000 := by
  have : capH xs = sumH xs := by
    induction xs with
    | nil => rfl
    | cons x xs ih =>
      have e1 : capH (x :: xs) = min x.2.1 4000 + capH xs := by simp [capH]
      have e2 : sumH (x :: xs) = x.2.1 + sumH xs := by simp [sumH]
      rw [e1] at h
      rw [e1, e2, ih (by omega)]
      omega
  omega
def GreatPost (xs : List Hdr) (w : World) (e : Ending) (w' : World) : Prop :=
  ∃ g : Bool, e = .returned (.bool g) ∧ w = w' ∧ (g = false → xs.length ≤ 80 ∧ sumH xs ≤ 3000)
set_option maxRecDepth 100000 in
set_option maxHeartbeats 400000 in
theorem great_hdr (n c : Nat) (A : Option Addr) (xs : List Hdr) (hxs : n = xs.length) (hnc : n ≤ 9223372036854775807) (w : World)
    (hc : n = 0 ∨ ∃ g o, A = some ⟨g, o, none⟩ ∧ ∀ j (h : j < xs.length), w.cell? ⟨g, o + j, none⟩ = some (hdr xs[j])) (hlen : ∀ x ∈ xs, x.2.1 ≤ 9223372036854775807) :
    Calls Try.prog 8 #[.slice A n c] w (GreatPost xs w) := by
  have Hx := Lib.hid hxs
  have Hc := Lib.hid hc
  have Hl := Lib.hid hlen
  clear hxs hc hlen
  go_enter Try.func8, Try.ntmps8
  go_wp2
  go_loop [3, 4] (fun t i => ∃ k s : Nat, k ≤ n ∧ k ≤ 81 ∧ i = .int .i64 k ∧ t = .int .i64 s ∧ s ≤ 7000 ∧ Hid (s = capH (xs.take k))) (fun _ i => n - (intOf i).toNat)
  case atStart => exact ⟨0, 0, Nat.zero_le _, by omega, rfl, rfl, by omega, rfl⟩
  case round =>
    obtain ⟨k, s, hk, hk81, rfl, rfl, hs, Hs⟩ := hrel
    by_cases hlt : k < n
    · by_cases h80 : k ≤ 80
      · by_cases h3 : s ≤ 3000
        · have hkx : k < xs.length := by have := Hx.out; omega
          obtain ⟨g, o, rfl, hcs⟩ := Hc.out.resolve_left (by omega)
          have hcx : w.cell? ⟨g, o + k, none⟩ = some (hdr xs[k]) := hcs k hkx
          have hts : xs.take (k + 1) = xs.take k ++ [xs[k]] := List.take_succ_eq_append_getElem hkx
          have hs1 : capH (xs.take (k + 1)) = capH (xs.take k) + min xs[k].2.1 4000 := by rw [hts, capH_append]; simp [capH]
          have hxl : xs[k].2.1 ≤ 9223372036854775807 := Hl.out _ (List.getElem_mem hkx)
          have Ht := Lib.hid hs1
          clear hts hcs hs1
          simp only [hdr] at hcx
          generalize xs[k] = x at *
          obtain ⟨a1, n1, c1⟩ := x
          dsimp only at hxl Ht
          by_cases h4 : (n1 : Int) < 4000
          · go_wp2
            go_round
            case rel => exact ⟨k + 1, s + n1, by omega, by omega, by go_num, by go_num, by omega, by show s + n1 = _; rw [Ht.out, ← Hs.out]; omega⟩
            case measure => simp [intOf]; omega
          · go_wp2
            go_round
            case rel => exact ⟨k + 1, s + 4000, by omega, by omega, by go_num, by go_num, by omega, by show s + 4000 = _; rw [Ht.out, ← Hs.out]; omega⟩
            case measure => simp [intOf]; omega
        · go_wp2
          all_goals
            go_ret
            exact ⟨true, rfl, rfl, fun h => by cases h⟩
      · go_wp2
        all_goals
          go_ret
          exact ⟨true, rfl, rfl, fun h => by cases h⟩
    · obtain rfl : k = n := by omega
      go_wp2
      all_goals
        go_ret
        refine ⟨_, rfl, rfl, fun h => ?_⟩
        have h1 := Hx.out
        have h2 := Hs.out
        rw [List.take_of_length_le (by omega)] at h2
        simp at h <;> exact ⟨by omega, capH_le _ (by omega)⟩
theorem Each.lens {w : World} {K : Nat → Prop} {xs : List Hdr} {L : List (List UInt8)} (h : Each w K (xs.map hdr) L) : ∀ x ∈ xs, x.2.1 ≤ 9223372036854775807 := by
  intro x hx
  obtain ⟨i, hi, rfl⟩ := List.getElem_of_mem hx
  have hl : xs.length = L.length := by simpa using h.1
  obtain ⟨A, n, c, hv, hn, hc, hm, _⟩ := h.2 i (hdr xs[i]) L[i] (by simp [hi]) (List.getElem?_eq_getElem (by omega))
  simp only [hdr, Value.slice.injEq] at hv
  omega
def GreatsPost (L : List (List UInt8)) (w : World) (e : Ending) (w' : World) : Prop :=
  ∃ g : Bool, e = .returned (.bool g) ∧ w = w' ∧ (g = false → L.length ≤ 80 ∧ tot L ≤ 3000)
/-- A slice that reads as xs: its header, and its cells by their headers. -/
theorem Sl.hdrs {w : World} {K : Nat → Prop} {v : Value} {xs : List Hdr} (h : Sl w K v (xs.map hdr)) : ∃ A n c, v = .slice A n c ∧ n = xs.length ∧ n ≤ c ∧ c ≤ 9223372036854775807 ∧
    (n = 0 ∨ ∃ g o, A = some ⟨g, o, none⟩ ∧ K g ∧ ∀ j (h : j < xs.length), w.cell? ⟨g, o + j, none⟩ = some (hdr xs[j])) := by
  obtain ⟨A, n, c, rfl, hn, hc, hm, hx⟩ := h
  refine ⟨A, n, c, rfl, by simpa using hn, hc, hm, hx.imp id ?_⟩
  rintro ⟨g, o, rfl, hK, hcs⟩
  exact ⟨g, o, rfl, hK, fun j hj => by rw [hcs j (by simpa using hj)]; simp⟩
theorem great_any (v : Value) (K K' : Nat → Prop) (vs : List Value) (L : List (List UInt8)) (w : World) (h : Sl w K v vs) (he : Each w K' vs L) :
    Calls Try.prog 8 #[v] w (GreatsPost L w) := by
  obtain ⟨xs, rfl, hs⟩ := he.hdrs
  obtain ⟨A, n, c, rfl, hn, hc, hm, hx⟩ := h.hdrs
  refine (great_hdr n c A xs hn (by omega) w (hx.imp id fun ⟨g, o, hA, _, hcs⟩ => ⟨g, o, hA, hcs⟩) he.lens).mono ?_
  rintro e w' ⟨g, rfl, rfl, hg⟩
  exact ⟨g, rfl, rfl, fun h => by have := hg h; have h1 : xs.length = L.length := by simpa using he.1
                                  rw [← hs, ← h1]; exact this⟩
theorem tot_flat (L : List (List UInt8)) : L.flatten.length = tot L := by
  induction L with
  | nil => rfl
  | cons l L ih => simp [ih]
theorem bv_append (a b : List UInt8) : bv (a ++ b) = bv a ++ bv b := by simp [bv]
theorem tot_append (a b : List (List UInt8)) : tot (a ++ b) = tot a + tot b := by simp [tot]
theorem tot_take_le (L : List (List UInt8)) (k : Nat) : tot (L.take k) ≤ tot L := by
  conv => rhs; rw [← List.take_append_drop k L]
  rw [tot_append]; omega
def JoinPost (L : List (List UInt8)) (w : World) (e : Ending) (w' : World) : Prop :=
  ∃ v, e = .returned v ∧ OSl w' (fun k => w.heap.size ≤ k) 5 v (bv L.flatten) ∧ Frm (fun _ => False) w w'
def JoinRel (L : List (List UInt8)) (w : World) (k : Nat) (t : Value) (wr : World) : Prop :=
  ∃ s : Nat, s ≤ 100000000 ∧ wr.ownsRow w.heap.size 5 1 t s (bv (L.take k).flatten) ∧ Frm (fun _ => False) w wr
set_option maxRecDepth 100000 in
set_option maxHeartbeats 400000 in
theorem join_any (v : Value) (K K' : Nat → Prop) (vs : List Value) (L : List (List UInt8)) (w : World) (h : Sl w K v vs) (he : Each w K' vs L) (hK : ∀ k, K k → k < w.heap.size) (hK' : ∀ k, K' k → k < w.heap.size) (ht : tot L ≤ 100000000) :
    Calls Try.prog 28 #[v] w (JoinPost L w) := by
  obtain ⟨i0, hi, hz0, hz1, hz2⟩ := info_parts infoU
  obtain ⟨A, n, c, rfl, hn, hc, hm, hx⟩ := h
  have Hn := Lib.hid hn
  have Hx := Lib.hid hx
  clear hn hx
  go_enter Try.func28, Try.ntmps28
  go_wp2
  go_loopw [3, 4] (fun t i wr => ∃ k : Nat, k ≤ n ∧ i = .int .i64 k ∧ JoinRel L w k t wr) (fun _ i _ => n - (intOf i).toNat)
  case atStart => exact ⟨0, Nat.zero_le _, rfl, 0, by omega, World.ownsRow_nil _ _ _ _, Frm.refl _ _⟩
  case round =>
    obtain ⟨k, hk, rfl, hrel⟩ := hrel
    by_cases hlt : k < n
    · have hkv : k < vs.length := by have := Hn.out; omega
      have hkL : k < L.length := by have := he.1; omega
      obtain ⟨g, o, rfl, hg, hcs⟩ := Hx.out.resolve_left (by omega)
      obtain ⟨s, hs, hown, hF⟩ := hrel
      have hcx : wr.cell? ⟨g, o + k, none⟩ = some vs[k] := hF.cell (hcs k hkv) id
      have hsl : Sl wr K' vs[k] (bv L[k]) := (he.2 k vs[k] L[k] (List.getElem?_eq_getElem hkv) (List.getElem?_eq_getElem hkL)).kept fun x hx => hF.block x (hK' x hx) id
      have hfl : (L.take (k + 1)).flatten = (L.take k).flatten ++ L[k] := by
        rw [List.take_succ_eq_append_getElem hkL, List.flatten_append]
        simp only [List.flatten_cons, List.flatten_nil, List.append_nil]
      have hsum : s + (bv L[k]).length ≤ 100000000 := by
        have h1 := hown.1
        have h2 := tot_take_le L (k + 1)
        rw [← tot_flat (L.take (k + 1)), hfl] at h2
        simp at h1 h2 ⊢
        omega
      have hbz := hF.size
      have H := Lib.hid (And.intro hfl hsum)
      clear hcs hfl hsum
      generalize hl : L[k] = l at *
      generalize vs[k] = u at *
      obtain ⟨A2, n2, c2, rfl, hn2, hc2, hm2, hx2⟩ := id hsl
      clear hn2 hx2
      go_wp2_with (at_builtin; refine wpList_append_sl (by rfl) _ _ 22 (by rfl) w.heap.size 5 i0 (.int .u8 0) 1 Try.underlying22 hi hz0 hz1 hz2 (by rfl) _ s _ (by rfl) hown K' _ _ (by rfl) hsl (bv_one _) (by unfold maxLen; have := H.out.2; omega) (by have := H.out.2; omega) hbz ?_; intro A1 N c1 w1 HN hNc hc1 hown1 hg1 hat1)
      go_roundw
      case rel => exact ⟨k + 1, by omega, by go_num, N, by have := HN.out; have := H.out.2; omega, by rw [H.out.1, bv_append]; exact hown1, hF.grown hg1 fun x hx => .inr (hown.lt x hx).1⟩
      case measure => simp [intOf]; omega
    · obtain rfl : k = n := by omega
      obtain ⟨s, hs, hown, hF⟩ := hrel
      rw [List.take_of_length_le (by have := Hn.out; have := he.1; omega)] at hown
      go_wp2
      go_ret
      exact ⟨_, rfl, OSl.of_own hown fun x hx => (hown.lt x hx).1, hF⟩
end Go.Proofs.Ytecpbnkkgdppoaa
