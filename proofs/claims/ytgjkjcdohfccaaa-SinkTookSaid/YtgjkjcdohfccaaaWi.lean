/- The walks of sink.Within: a range over a function. -/
import Derived.Test.YtgjkjcdohfccaaaSk
import Derived.RangeFuncNested
import Derived.RangeFuncBound
import Derived.RangeFuncCalls
import Derived.RangeFuncLeaves
import Derived.Shelf.Abstract
import Derived.Shelf.RegionOpen
import Derived.OwnWalkIn
import Derived.TacticsInMore
import Derived.LoopNIn
import Derived.LoopIn
namespace Go.Proofs.Ytgjkjcdohfccaaa
open Go.RowKit Go.Shelf
attribute [local go_sem] Oper.semAt_some
def idx (an : List Bool) : Int := match an.findIdx? id with | some k => k | none => -1
set_option maxHeartbeats 400000 in
theorem index_any (K : Nat → Prop) (va : Value) (an : List Bool) (w : World) (h : Sl w K va (bvs an)) (hl : an.length ≤ 1000000) :
    Calls Try.prog 23 #[va, .bool true] w fun e w' => e = .returned (.int .i64 (idx an)) ∧ w = w' := by
  obtain ⟨A, n, c, rfl, hn, hc, hcm, hx⟩ := h
  rw [bvs_length] at hn
  have H := Lib.hid (And.intro hn hx)
  clear hn hx
  go_enter Try.func23, Try.ntmps23
  go_wp2_with fail
  go_loopw [8] (fun i wr => ∃ k : Nat, k ≤ n ∧ i = .int .i64 k ∧ wr = w ∧ ∀ j (h : j < an.length), j < k → an[j] = false) (fun i _ => n - (intOf i).toNat)
  case atStart => exact ⟨0, Nat.zero_le _, rfl, rfl, fun j _ h => by omega⟩
  case round =>
    obtain ⟨k, hk, rfl, rfl, hno⟩ := hrel
    have Hno := Lib.hid hno
    clear hno
    by_cases hlt : k < n
    · obtain ⟨hn, hx⟩ := H.out
      obtain ⟨g, o, rfl, _, hx⟩ := hx.resolve_left (by omega)
      have hkl : k < an.length := by omega
      have c0 : wr.cell? ⟨g, o + k, none⟩ = some (.bool an[k]) := by rw [hx k (by simpa using hkl)]; simp [bvs]
      clear hx hn
      cases hb : an[k] with
      | true =>
        rw [hb] at c0
        have hi : idx an = k := by
          unfold idx
          have : an.findIdx? id = some k := by
            rw [List.findIdx?_eq_some_iff_getElem]
            exact ⟨hkl, by simpa using hb, fun j hj => by simp [Hno.out j (by omega) hj]⟩
          rw [this]
        have Hi := Lib.hid hi
        clear hi hb
        go_wp2_with fail
        go_ret
        exact ⟨by rw [Hi.out]; rfl, rfl⟩
      | false =>
        rw [hb] at c0
        have hnx : ∀ j (h : j < an.length), j < k + 1 → an[j] = false := fun j h hj => by
          rcases Nat.lt_or_ge j k with h1 | h1
          · exact Hno.out j h h1
          · obtain rfl : j = k := by omega
            exact hb
        have Hnx := Lib.hid hnx
        clear hnx hb
        go_wp2_with fail
        go_roundw
        case rel => exact ⟨k + 1, by omega, by go_num, trivial, Hnx.out⟩
        case measure => simp [intOf]; omega
    · obtain rfl : k = n := by omega
      have hi : idx an = -1 := by
        unfold idx
        have : an.findIdx? id = none := by
          rw [List.findIdx?_eq_none_iff]
          intro x hx
          obtain ⟨j, hj, rfl⟩ := List.getElem_of_mem hx
          simpa using Hno.out j hj (by have := H.out.1; omega)
        rw [this]
      have Hi := Lib.hid hi
      clear hi
      go_wp2_with fail
      go_ret
      exact ⟨by rw [Hi.out]; rfl, rfl⟩
theorem contains_idx (an : List Bool) : an.contains true = decide (idx an ≥ 0) := by
  unfold idx
  cases h : an.findIdx? id with
  | none =>
    rw [List.findIdx?_eq_none_iff] at h
    have : an.contains true = false := by
      simp only [List.contains_eq_any_beq, List.any_eq_false]
      intro x hx; simp; have := h x hx; simpa using this
    rw [this]; rfl
  | some k =>
    rw [List.findIdx?_eq_some_iff_getElem] at h
    obtain ⟨hk, h1, _⟩ := h
    have : an.contains true = true := by
      simp only [List.contains_iff_mem]
      have h2 : an[k] = true := by simpa using h1
      exact h2 ▸ List.getElem_mem hk
    rw [this]; simp
def ContPost (z : Int) (w : World) (e : Ending) (w' : World) : Prop := e = .returned (.bool (decide (z ≥ 0))) ∧ w = w'
theorem contains_any (K : Nat → Prop) (va : Value) (an : List Bool) (w : World) (h : Sl w K va (bvs an)) (hl : an.length ≤ 1000000) :
    Calls Try.prog 20 #[va, .bool true] w (ContPost (idx an) w) := by
  have hi := index_any K va an w h hl
  obtain ⟨A, n, c, rfl, hr⟩ := h
  clear hr
  generalize idx an = z at *
  have Hi := Lib.hid hi
  clear hi
  go_enter Try.func20, Try.ntmps20
  go_wp2_with fail
  refine Hi.out.mono ?_
  rintro e w' ⟨rfl, rfl⟩
  go_wp2_with fail
  go_ret
  exact ⟨rfl, rfl⟩
def saysTo (an : List Bool) (N : Nat) : List Bool := (List.range N).map (says an)
theorem saysTo_succ (an : List Bool) (k : Nat) : saysTo an (k + 1) = saysTo an k ++ [says an k] := by simp [saysTo, List.range_succ]
@[simp] theorem saysTo_length (an : List Bool) (k : Nat) : (saysTo an k).length = k := by simp [saysTo]
theorem saysTo_pre {an : List Bool} {m : Nat} : ∀ {k : Nat}, k ≤ m → saysTo an k <+: saysTo an m := by
  induction m with
  | zero => intro k h; obtain rfl : k = 0 := by omega
            exact List.prefix_refl _
  | succ m ih =>
    intro k h
    by_cases hk : k = m + 1
    · subst hk; exact List.prefix_refl _
    · exact (ih (by omega)).trans (by rw [saysTo_succ]; exact List.prefix_append _ _)
set_option maxRecDepth 100000 in
set_option maxHeartbeats 2000000 in
theorem round1_in (n : Nat) (hn : 1 ≤ n) (l Bn Br b N : Nat) (Kf K : Nat → Prop) (va : Value) (an : List Bool) (J Jx : List Bool → World → Prop) (hJ : ∀ s A k, J s A → J s (A.drewN k))
    (hY : ∀ pre x W, J pre W → pre.length < N → YieldAt Fence.wide (n - 1) Try.prog l #[.bool x] W fun e W' =>
      (e = .returned (.bool true) ∧ J (pre ++ [x]) W' ∧ Frm Kf W W') ∨ (e = .returned (.bool false) ∧ Jx (pre ++ [x]) W'))
    (W : World) (hBn : W.cell? ⟨Bn, 0, none⟩ = some (.int .i64 N)) (hBr : W.cell? ⟨Br, 0, none⟩ = some (.pointer (some ⟨b, 0, none⟩))) (hb : W.cell? ⟨b, 0, none⟩ = some va) (hs : Sl W K va (bvs an)) (hk : ¬ Kf Br ∧ ¬ Kf b ∧ ∀ k, K k → ¬ Kf k) (hKl : ∀ k, K k → k < W.heap.size) (hN : N ≤ 100000) (hl : an.length ≤ 100000) (h0 : J [] W) :
    CallsIn Fence.wide n Try.prog 24 #[.func (.yield l) #[] #[], .pointer (some ⟨Bn, 0, none⟩), .pointer (some ⟨Br, 0, none⟩)] W fun e W' => (∃ v, e = .returned v) ∧
      ((∃ ys, ys = saysTo an N ∧ J ys W') ∨ (∃ pre, pre <+: saysTo an N ∧ Jx pre W')) := by
  refine callsIn_of_wp Try.func24 rfl trivial ?_ rfl
  simp only [Try.ntmps24, List.size_toArray, List.length_cons, List.length_nil, Nat.reduceAdd, Nat.reduceSub, Array.replicate_succ, Array.replicate_zero, List.push_toArray, List.append_toArray, List.nil_append, List.cons_append]
  have H := Lib.hid (And.intro hs (And.intro hk hKl))
  clear hs hk hKl
  gi_wp2
  gi_loopw [6] (fun i wr => ∃ k : Nat, k ≤ N ∧ i = .int .i64 k ∧ J (saysTo an k) wr ∧ Frm Kf W wr) (fun i _ => N - (intOf i).toNat)
  case atStart => exact ⟨0, Nat.zero_le _, rfl, h0, Frm.refl _ _⟩
  case round =>
    obtain ⟨k, hk, rfl, hJs, hnx⟩ := hrel
    by_cases hlt : k < N
    · obtain ⟨hs, ⟨hk1, hk2, hk3⟩, hKl⟩ := H.out
      have hBrr := hnx.cell hBr hk1
      have hbr := hnx.cell hb hk2
      have hans := answer_any K b va an k wr hbr (hs.keptTo fun q hq => ⟨hnx.block q (hKl q hq) (hk3 q hq), hq⟩) (by omega) (by omega)
      have Ha := Lib.hid hans
      clear hans hs hk3 hKl hbr
      gi_wp2_with fail
      refine ⟨trivial, ?_⟩
      refine (callsIn_wide.2 Ha.out).mono ?_
      rintro e w1 ⟨rfl, k1, rfl⟩
      have hJk := hJ _ _ k1 hJs
      have hnk : Frm Kf W (wr.drewN k1) := hnx.drewN k1
      clear hJs hnx hBrr
      generalize wr.drewN k1 = wq at *
      have hY1 := hY _ (says an k) wq hJk (by rw [saysTo_length]; exact hlt)
      have Hy := Lib.hid (saysTo_succ an k)
      obtain ⟨fn, tmps, assign, body, hy, hRd⟩ := hY1
      gi_wp2
      refine hRd.mono ?_
      rintro e W3 (⟨rfl, hJ3, hk3⟩ | ⟨rfl, hJx3⟩)
      · gi_wp2
        go_roundw
        case rel => exact ⟨k + 1, by omega, by go_num, by rw [Hy.out]; exact hJ3, hnk.trans' hk3⟩
        case measure => simp [intOf]; omega
      · gi_wp2
        refine bodyPost_ret (results_none rfl _ _ _) rfl ?_
        exact ⟨⟨_, rfl⟩, .inr ⟨_, by rw [← Hy.out]; exact saysTo_pre (by omega), hJx3⟩⟩
    · obtain rfl : k = N := by omega
      gi_wp2
      go_end0
      exact ⟨⟨_, rfl⟩, .inl ⟨_, rfl, hJs⟩⟩
theorem round_any (p : Option Addr) (n : Int) (w : World) :
    Calls Try.prog 21 #[.pointer p, .int .i64 n] w fun e w' => e = .returned (.func (.func 24) #[] #[.pointer (some ⟨w.heap.size + 1, 0, none⟩), .pointer (some ⟨w.heap.size, 0, none⟩)]) ∧
      w' = (w.alloc (.cells #[.pointer p] 51)).alloc (.cells #[.int .i64 n] 3) := by
  go_enter Try.func21, Try.ntmps21
  go_wp2
  go_ret
  exact ⟨rfl, rfl⟩
end Go.Proofs.Ytgjkjcdohfccaaa
