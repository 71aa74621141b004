/- The walks of teaselref26 and teaselref13.Same. -/
import Derived.Test.YtgjkjcdohfccaaaSk
namespace Go.Proofs.Ytgjkjcdohfccaaa
open Go.RowKit
theorem says_walk (K : Nat → Prop) (va : Value) (an : List Bool) (n : Nat) (w : World) (h : Sl w K va (bvs an)) (hn : n ≤ 1000000) (hl : an.length ≤ 1000000) :
    Calls Try.prog 9 #[va, .int .i64 n] w fun e w' => e = .returned (.bool (says an n)) ∧ w = w' := by
  obtain ⟨A, m, c, rfl, hm, hc, hcm, hx⟩ := h
  rw [bvs_length] at hm
  cases an with
  | nil =>
    have hm0 : m = 0 := by simpa using hm
    subst hm0
    clear hx hm
    go_enter Try.func9, Try.ntmps9
    go_wp2
    go_ret
    exact ⟨rfl, rfl⟩
  | cons x xs =>
    have hm1 : 1 ≤ m := by rw [hm]; simp
    obtain ⟨g, o, rfl, hK, hcs⟩ := hx.resolve_left (by omega)
    have hlt : n % m < m := Nat.mod_lt _ (by omega)
    have hc1 : w.cell? ⟨g, o + n % m, none⟩ = some (.bool (says (x :: xs) n)) := by
      have hj : n % m < (x :: xs).length := by omega
      rw [hcs (n % m) (by rw [bvs_length]; exact hj)]
      have e1 : says (x :: xs) n = (x :: xs)[n % m]'hj := by
        subst hm
        unfold says
        rw [List.getD, List.getElem?_eq_getElem hj]; rfl
      rw [e1]
      simp only [bvs, List.getElem_map]
    have hmz : ((m : Int) == 0) = false := by simp; omega
    have Hm := Lib.hid hm
    clear hcs hm
    generalize says (x :: xs) n = t at *
    go_enter Try.func9, Try.ntmps9
    go_wp2
    go_ret
    exact ⟨rfl, rfl⟩
def tkL (an : List Bool) (l : List (Int × Int)) : List (Int × Int) := (l.zipIdx.filter fun p => says an p.2).map (·.1)
theorem tkL_snoc (an : List Bool) (l : List (Int × Int)) (x : Int × Int) : tkL an (l ++ [x]) = if says an l.length = true then tkL an l ++ [x] else tkL an l := by
  unfold tkL
  rw [List.zipIdx_append]
  cases h : says an l.length <;> simp [h]
theorem tkL_len (an : List Bool) (l : List (Int × Int)) : (tkL an l).length ≤ l.length := by
  unfold tkL
  rw [List.length_map]
  exact Nat.le_trans (List.length_filter_le _ _) (by simp)
def TookPost (an : List Bool) (l : List (Int × Int)) (w : World) (e : Ending) (w' : World) : Prop :=
  ∃ v, e = .returned (.tuple #[v, .int .i64 ((l.length - (tkL an l).length : Nat) : Int)]) ∧ w'.ownsRow w.heap.size 29 2 v (tkL an l).length (flat (tkL an l)) ∧ Frm (fun _ => False) w w'
def TookRel (an : List Bool) (l : List (Int × Int)) (w : World) (k : Nat) (t : Value) (wr : World) : Prop :=
  wr.ownsRow w.heap.size 29 2 t (tkL an (l.take k)).length (flat (tkL an (l.take k))) ∧ Frm (fun _ => False) w wr
set_option maxHeartbeats 1000000 in
theorem rtook_any (K K' : Nat → Prop) (va vl : Value) (an : List Bool) (l : List (Int × Int)) (w : World) (h : Sl w K va (bvs an)) (h' : SlZ w K' 2 vl (flat l)) (hK : ∀ k, K k → k < w.heap.size) (hK' : ∀ k, K' k → k < w.heap.size) (hl : an.length ≤ 1000000) (hl' : l.length ≤ 100000) :
    Calls Try.prog 11 #[va, vl] w (TookPost an l w) := by
  obtain ⟨A, n, c, rfl, hn, hc, hm, hx⟩ := h'.hits
  have hsay : ∀ (k : Nat) (wr : World), Frm (fun _ => False) w wr → k < 1000000 → Calls Try.prog 9 #[va, .int .i64 k] wr fun e w' => e = .returned (.bool (says an k)) ∧ wr = w' := fun k wr hF hk =>
    says_walk K va an k wr (h.keptTo fun q hq => ⟨hF.block q (hK q hq) id, hq⟩) (by omega) hl
  obtain ⟨i0, hi, hz0, hz1, hz2⟩ := infoH
  have H := Lib.hid (And.intro hn (And.intro hx hsay))
  have hz := tkL_len an l
  have Hz := Lib.hid hz
  clear h h' hn hx hsay hz
  go_enter Try.func11, Try.ntmps11
  go_wp2_with fail
  go_loopw [6, 7] (fun t i wr => ∃ k : Nat, k ≤ n ∧ i = .int .i64 k ∧ TookRel an l w k t wr) (fun _ i _ => n - (intOf i).toNat)
  case atStart => exact ⟨0, Nat.zero_le _, rfl, World.ownsRow_nil _ _ _ _, Frm.refl _ _⟩
  case round =>
    obtain ⟨k, hk, rfl, hown, hF⟩ := hrel
    by_cases hlt : k < n
    · obtain ⟨hn, hx, hsay⟩ := H.out
      obtain ⟨g, o, rfl, hKg, hcs⟩ := hx.resolve_left (by omega)
      have hkl : k < l.length := by omega
      obtain ⟨c0, c1⟩ := hcs k hkl
      have d0 := hF.cell c0 id
      have d1 := hF.cell c1 id
      have hts : l.take (k + 1) = l.take k ++ [l[k]] := List.take_succ_eq_append_getElem hkl
      have htk := tkL_snoc an (l.take k) l[k]
      rw [← hts, List.length_take, Nat.min_eq_left (by omega)] at htk
      have hlen := tkL_len an (l.take k)
      rw [List.length_take] at hlen
      have hlen' : (tkL an (l.take k)).length ≤ k := by omega
      have hs := hsay k wr hF (by omega)
      have Ht := Lib.hid (And.intro htk hs)
      have hzz := hF.size
      have hwl := World.block_lt_of_cell? _ _ d0
      clear hcs hts htk hs hlen c0 c1 hn hx hsay
      generalize hlk : l[k] = p at *
      obtain ⟨v, u⟩ := p
      dsimp only at d0 d1
      go_wp2_with fail
      refine Ht.out.2.mono ?_
      rintro e w' ⟨rfl, rfl⟩
      cases hsy : says an k
      · have this := Ht.out.1
        rw [hsy, if_neg (by simp)] at this
        rw [← this] at hown
        have Hn := Lib.hid (And.intro hown hF)
        clear hown this
        go_wp2_with fail
        go_roundw
        case rel => exact ⟨k + 1, by omega, by go_num, Hn.out⟩
        case measure => simp [intOf]; omega
      · have Ho := Lib.hid hown
        clear hown
        go_wp2_with (at_builtin; refine wpList_append_slz (by rfl) _ _ 23 (by rfl) w.heap.size 29 i0 _ 2 16 Try.underlying23 hi hz0 hz1 hz2 (by rfl) (by decide) _ _ _ (by rfl) (by exact Ho.out.alloc _) (fun q => q = wr.heap.size) _ 1 [.int .i64 v, .int .i64 u] (by rfl) (by exact SlZ.blk2 wr _ _ _) (by rfl) (by simp [Value.oneCell']) (by unfold maxLen; omega) (by omega) (by simp; omega) ?_; intro A1 N1 c1 w1 HN hNc1 hc1 hown1 hg1 hat1)
        go_roundw
        case rel =>
          refine ⟨k + 1, by omega, by go_num, ?_, (hF.alloc _).grown hg1 fun q hq => .inr (Ho.out.lt q hq).1⟩
          have := Ht.out.1
          rw [hsy, if_pos rfl] at this
          have hN := HN.out
          subst hN
          rw [this]
          simpa [flat_append, flat] using hown1
        case measure => simp [intOf]; omega
    · obtain rfl : k = n := by omega
      have hn := H.out.1
      subst hn
      rw [List.take_length] at hown
      obtain ⟨At, ct, rfl, _, _⟩ := own_form hown
      have Ho := Lib.hid hown
      clear hown
      generalize hq : (tkL an l).length = q at *
      have e1 : ((l.length - q : Nat) : Int) = (l.length : Int) - (q : Int) := by have := Hz.out; omega
      have e2 : IntKind.i64.wrap ((l.length : Int) - (q : Int)) = (l.length : Int) - (q : Int) := IntWalk.i64_in _ (by have := Hz.out; omega)
      go_wp2_with fail
      go_ret2
      exact ⟨.slice At q ct, by rw [hq, e1]; rfl, by rw [hq]; exact Ho.out, hF⟩
def withinB (an : List Bool) (f : Nat) : Bool := (List.range an.length).all fun i => (List.range f).any fun k => says an (i + k)
theorem any_succ (p : Nat → Bool) (k : Nat) : (List.range (k + 1)).any p = ((List.range k).any p || p k) := by simp [List.range_succ]
theorem all_succ (p : Nat → Bool) (k : Nat) : (List.range (k + 1)).all p = ((List.range k).all p && p k) := by simp [List.range_succ]
set_option maxHeartbeats 1000000 in
theorem rwithin_any (K : Nat → Prop) (va : Value) (an : List Bool) (f : Nat) (w : World) (h : Sl w K va (bvs an)) (hl : an.length ≤ 100000) (hf : f ≤ 100000) :
    Calls Try.prog 22 #[va, .int .i64 f] w fun e w' => e = .returned (.bool (withinB an f)) ∧ w = w' := by
  have hsay : ∀ (k : Nat), k ≤ 1000000 → Calls Try.prog 9 #[va, .int .i64 k] w fun e w' => e = .returned (.bool (says an k)) ∧ w = w' := fun k hk => says_walk K va an k w h hk (by omega)
  obtain ⟨A, n, c, rfl, hn, hc, hcm, hx⟩ := h
  rw [bvs_length] at hn
  have H := Lib.hid (And.intro hn hsay)
  clear hx hn hsay
  go_enter Try.func22, Try.ntmps22
  go_wp2_with fail
  go_loopw [5] (fun i wr => ∃ k : Nat, k ≤ n ∧ i = .int .i64 k ∧ wr = w ∧ ((List.range k).all fun i => (List.range f).any fun k => says an (i + k)) = true) (fun i _ => n - (intOf i).toNat)
  case atStart => exact ⟨0, Nat.zero_le _, rfl, rfl, rfl⟩
  case round =>
    obtain ⟨i, hi, rfl, rfl, hall⟩ := hrel
    have hs1 := all_succ (fun i => (List.range f).any fun k => says an (i + k)) i
    rw [hall] at hs1
    simp only [Bool.true_and] at hs1
    have Hs := Lib.hid (And.intro hall hs1)
    clear hall hs1
    by_cases hlt : i < n
    · go_wp2_with fail
      go_loopw [6, 7] (fun y j wr' => ∃ k : Nat, k ≤ f ∧ j = .int .i64 k ∧ wr' = wr ∧ y = .bool ((List.range k).any fun k => says an (i + k))) (fun _ j _ => f - (intOf j).toNat)
      case atStart => exact ⟨0, Nat.zero_le _, rfl, rfl, rfl⟩
      case round =>
        obtain ⟨k, hk, rfl, rfl, rfl⟩ := hrel
        by_cases hkf : k < f
        · have ha := any_succ (fun k => says an (i + k)) k
          cases hy : (List.range k).any fun k => says an (i + k)
          · have hsk := H.out.2 (i + k) (by have := H.out.1; omega)
            have e1 : IntKind.i64.wrap ((i : Int) + (k : Int)) = ((i + k : Nat) : Int) := by rw [IntWalk.i64_in _ (by have := H.out.1; omega)]; omega
            have Hk := Lib.hid (And.intro hsk (And.intro ha hy))
            clear hsk ha hy
            go_wp2_with fail
            refine Hk.out.1.mono ?_
            rintro e w' ⟨rfl, rfl⟩
            go_wp2_with fail
            go_roundw
            case rel => exact ⟨k + 1, by omega, by go_num, trivial, by rw [Hk.out.2.1, Hk.out.2.2]; rfl⟩
            case measure => simp [intOf]; omega
          · have Hk := Lib.hid (And.intro ha hy)
            clear ha hy
            go_wp2_with fail
            go_roundw
            case rel => exact ⟨k + 1, by omega, by go_num, trivial, by rw [Hk.out.1, Hk.out.2]; rfl⟩
            case measure => simp [intOf]; omega
        · obtain rfl : k = f := by omega
          cases hy : (List.range k).any fun k => says an (i + k)
          · have hw : withinB an k = false := by
              unfold withinB
              rw [List.all_eq_false]
              exact ⟨i, by simp; have := H.out.1; omega, by simp [hy]⟩
            go_wp2_with fail
            go_ret
            exact ⟨by rw [hw]; rfl, rfl⟩
          · have hn1 := Hs.out.2
            rw [hy] at hn1
            have Hn := Lib.hid hn1
            clear hn1 hy
            go_wp2_with fail
            go_roundw
            case rel => exact ⟨i + 1, by omega, by go_num, trivial, Hn.out⟩
            case measure => simp [intOf]; omega
    · obtain rfl : i = n := by omega
      have hw : withinB an f = true := by unfold withinB; rw [← H.out.1]; exact Hs.out.1
      go_wp2_with fail
      go_ret
      exact ⟨by rw [hw]; rfl, rfl⟩
def winRef (an : List Bool) : Option Nat := ((List.range (an.length + 1)).map (· + 1)).find? (withinB an)
set_option maxHeartbeats 1000000 in
theorem rWithin_any (K : Nat → Prop) (va : Value) (an : List Bool) (w : World) (h : Sl w K va (bvs an)) (hl : an.length ≤ 10000) :
    Calls Try.prog 16 #[va] w fun e w' => e = .returned (.tuple #[.int .i64 ((winRef an).getD 0 : Nat), .bool (winRef an).isSome]) ∧ w = w' := by
  have hwi : ∀ (f : Nat), f ≤ 100000 → Calls Try.prog 22 #[va, .int .i64 f] w fun e w' => e = .returned (.bool (withinB an f)) ∧ w = w' := fun f hf => rwithin_any K va an f w h (by omega) hf
  obtain ⟨A, n, c, rfl, hn, hc, hcm, hx⟩ := h
  rw [bvs_length] at hn
  have H := Lib.hid (And.intro hn hwi)
  clear hx hn hwi
  go_enter Try.func16, Try.ntmps16
  go_wp2_with fail
  go_loopw [4] (fun i wr => ∃ k : Nat, k ≤ n + 1 ∧ i = .int .i64 ((k : Int) + 1) ∧ wr = w ∧ ∀ f, 1 ≤ f → f ≤ k → withinB an f = false) (fun i _ => n + 2 - (intOf i).toNat)
  case atStart => exact ⟨0, Nat.zero_le _, rfl, rfl, fun f h1 h2 => by omega⟩
  case round =>
    obtain ⟨k, hk, rfl, rfl, hno⟩ := hrel
    have Hno := Lib.hid hno
    clear hno
    have e1 : IntKind.i64.wrap ((n : Int) + 1) = (n : Int) + 1 := IntWalk.i64_in _ (by have := H.out.1; omega)
    have e2 : IntKind.i64.wrap ((k : Int) + 1 + 1) = (k : Int) + 1 + 1 := IntWalk.i64_in _ (by have := H.out.1; omega)
    by_cases hlt : k < n + 1
    · have hd : decide ((k : Int) + 1 ≤ (n : Int) + 1) = true := by simp; omega
      have hwi := H.out.2 (k + 1) (by have := H.out.1; omega)
      rw [show ((k + 1 : Nat) : Int) = (k : Int) + 1 from by omega] at hwi
      have Hw := Lib.hid hwi
      clear hwi
      go_wp2_with fail
      refine Hw.out.mono ?_
      rintro e w' ⟨rfl, rfl⟩
      cases hb : withinB an (k + 1)
      · go_wp2_with fail
        go_roundw
        case rel => exact ⟨k + 1, by omega, by go_num, trivial, fun f h1 h2 => by
          rcases Nat.lt_or_ge f (k + 1) with h3 | h3
          · exact Hno.out f h1 (by omega)
          · obtain rfl : f = k + 1 := by omega
            exact hb⟩
        case measure => simp [intOf]; omega
      · have hw : winRef an = some (k + 1) := by
          unfold winRef
          rw [List.find?_eq_some_iff_getElem]
          refine ⟨hb, k, by simp; have := H.out.1; omega, by simp, fun j hj => ?_⟩
          simp
          exact Hno.out (j + 1) (by omega) (by omega)
        have Hw := Lib.hid hw
        clear hw hb
        go_wp2_with fail
        go_ret2
        exact ⟨by rw [Hw.out]; simp, rfl⟩
    · obtain rfl : k = n + 1 := by omega
      have hd : decide (((n + 1 : Nat) : Int) + 1 ≤ (n : Int) + 1) = false := by simp; omega
      have hw : winRef an = none := by
        unfold winRef
        rw [List.find?_eq_none]
        intro x hx
        simp at hx
        obtain ⟨j, hj, rfl⟩ := hx
        simp
        exact Hno.out (j + 1) (by omega) (by have := H.out.1; omega)
      have Hw := Lib.hid hw
      clear hw
      go_wp2_with fail
      go_ret2
      exact ⟨by rw [Hw.out]; rfl, rfl⟩
def SamePost (xs ys : List (Int × Int)) (w : World) (e : Ending) (w' : World) : Prop := e = .returned (.bool (decide (xs = ys))) ∧ ∃ k, w' = w.drewN k
set_option maxHeartbeats 1000000 in
theorem same_any (v u : Value) (K K' : Nat → Prop) (xs ys : List (Int × Int)) (w : World) (h : SlZ w K 2 v (flat xs)) (h' : SlZ w K' 2 u (flat ys)) :
    Calls Try.prog 12 #[v, u] w (SamePost xs ys w) := by
  obtain ⟨A, n, c, rfl, hn, hc, hm, hx⟩ := h.hits
  obtain ⟨B, m, d, rfl, hn', hc', hm', hx'⟩ := h'.hits
  clear h h'
  by_cases hnm : n = m
  · subst hnm
    have hd : decide (n = n) = true := by simp
    have H := Lib.hid (And.intro hn (And.intro hn' (And.intro hx hx')))
    clear hn hn' hx hx'
    go_enter Try.func12, Try.ntmps12
    go_wp2_with fail
    go_loopw [5] (fun i wr => ∃ k q : Nat, k ≤ n ∧ i = .int .i64 k ∧ xs.take k = ys.take k ∧ wr = w.drewN q) (fun i _ => n - (intOf i).toNat)
    case atStart => exact ⟨0, 0, Nat.zero_le _, rfl, by simp, rfl⟩
    case round =>
      obtain ⟨k, q, hk, rfl, ht, rfl⟩ := hrel
      by_cases hlt : k < n
      · obtain ⟨hn, hn', hx, hx'⟩ := H.out
        obtain ⟨g, o, rfl, _, hx⟩ := hx.resolve_left (by omega)
        obtain ⟨g', o', rfl, _, hx'⟩ := hx'.resolve_left (by omega)
        have hkx : k < xs.length := by omega
        have hky : k < ys.length := by omega
        obtain ⟨c1, c2⟩ := hx k hkx
        obtain ⟨c3, c4⟩ := hx' k hky
        have e1 : xs.take (k + 1) = xs.take k ++ [xs[k]] := List.take_succ_eq_append_getElem hkx
        have e2 : ys.take (k + 1) = ys.take k ++ [ys[k]] := List.take_succ_eq_append_getElem hky
        have hne : xs[k] ≠ ys[k] → xs ≠ ys := fun h1 h2 => by subst h2; exact h1 rfl
        have H2 := Lib.hid (And.intro ht (And.intro e1 (And.intro e2 hne)))
        clear hx hx' hn hn' ht e1 e2 hne
        generalize xs[k] = x at *
        generalize ys[k] = y at *
        obtain ⟨x1, x2⟩ := x
        obtain ⟨y1, y2⟩ := y
        dsimp only at c1 c2 c3 c4
        have fin : ((x1, x2) : Int × Int) ≠ (y1, y2) → decide (xs = ys) = false := fun h => by simpa using H2.out.2.2.2 h
        have H3 := Lib.hid fin
        clear fin
        cases h1 : (x1 == y1)
        · have hf := H3.out (by intro h; injection h with h h'; subst h; simp at h1)
          have Hf := Lib.hid hf
          clear hf
          go_wp2_with fail
          go_quiet (fail)
          rename_i nq
          go_wp2_with fail
          go_ret
          exact ⟨by rw [Hf.out]; rfl, q + nq, by rw [World.drewN_drewN]⟩
        · cases h2 : (x2 == y2)
          · have hf := H3.out (by intro h; injection h with h h'; subst h'; simp at h2)
            have Hf := Lib.hid hf
            clear hf
            go_wp2_with fail
            go_quiet (fail)
            rename_i nq
            go_wp2_with fail
            go_ret
            exact ⟨by rw [Hf.out]; rfl, q + nq, by rw [World.drewN_drewN]⟩
          · have hx1 : x1 = y1 := by simpa using h1
            have hx2 : x2 = y2 := by simpa using h2
            have Hxy := Lib.hid (And.intro hx1 hx2)
            clear hx1 hx2
            go_wp2_with fail
            go_quiet (fail)
            rename_i nq
            go_wp2_with fail
            go_roundw
            case rel => exact ⟨k + 1, q + nq, by omega, by go_num, by rw [H2.out.2.1, H2.out.2.2.1, H2.out.1, Hxy.out.1, Hxy.out.2], rfl⟩
            case measure => simp [intOf]; omega
      · obtain rfl : k = n := by omega
        have hf : decide (xs = ys) = true := by
          obtain ⟨hn, hn', _⟩ := H.out
          rw [List.take_of_length_le (by omega), List.take_of_length_le (by omega)] at ht
          simpa using ht
        have Hf := Lib.hid hf
        clear ht hf
        go_wp2_with fail
        go_ret
        exact ⟨by rw [Hf.out]; rfl, q, rfl⟩
  · have hb : ((n : Int) != (m : Int)) = true := by simp; omega
    have hf : decide (xs = ys) = false := by
      simp only [decide_eq_false_iff_not]
      intro h; subst h; omega
    have Hf := Lib.hid hf
    clear hnm hf hx hx' hn hn'
    go_enter Try.func12, Try.ntmps12
    go_wp2_with fail
    go_ret
    exact ⟨by rw [Hf.out]; rfl, 0, rfl⟩
end Go.Proofs.Ytgjkjcdohfccaaa
