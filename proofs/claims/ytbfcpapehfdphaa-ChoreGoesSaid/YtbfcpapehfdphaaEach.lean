/- The walk of each's iterator. -/
import Derived.Test.YtbfcpapehfdphaaEr
import Derived.RangeFuncNested
import Derived.RangeFuncBound
import Derived.RangeFuncCalls
import Derived.RangeFuncLeaves
import Derived.Shelf.Abstract
import Derived.Shelf.RegionOpen
import Derived.OwnWalkIn
import Derived.TacticsInMore
import Derived.LoopNIn
import Derived.LoopIn
namespace Go.Proofs.Ytbfcpapehfdphaa
open Go.RowKit Go.Shelf
attribute [local go_sem] Oper.semAt_some
def pEnc (x : Pk) : Value := .agg #[.int .i64 x.p.room, x.v, .bool x.p.closed]
theorem each_any (A : Option Addr) (n c : Nat) (w : World) : Calls Try.prog 31 #[.slice A n c] w fun e w' => e = .returned (.func (.func 38) #[] #[.pointer (some ⟨w.heap.size, 0, none⟩)]) ∧ w' = w.alloc (.cells #[.slice A n c] 26) := by
  go_enter Try.func31, Try.ntmps31
  go_wp2
  go_ret
  exact ⟨rfl, rfl⟩
set_option maxRecDepth 100000 in
set_option maxHeartbeats 2000000 in
theorem each1_in {α : Type} (f : α → Pk) (m : Nat) (hm : 1 ≤ m) (l Bs n₀ n c : Nat) (A : Option Addr) (xs : List α) (hreach : n ≤ 1000000) (J Jx : List α → World → Prop) (W : World) (hJ : AbidesFrom W.heap.size J)
    (hY : ∀ pre x W1, J pre W1 → pre.length < n → YieldAt Fence.wide (m - 1) Try.prog l #[pEnc (f x)] W1 fun e W' => (e = .returned (.bool true) ∧ J (pre ++ [x]) W' ∧ Below n₀ W1 W') ∨ (e = .returned (.bool false) ∧ Jx (pre ++ [x]) W'))
    (hBs : W.cell? ⟨Bs, 0, none⟩ = some (.slice A n c)) (hP : PAt W (fun q => q < n₀) (.slice A n c) (xs.map f)) (hn0 : n₀ ≤ W.heap.size) (h0 : J [] W) :
    CallsIn Fence.wide m Try.prog 38 #[.func (.yield l) #[] #[], .pointer (some ⟨Bs, 0, none⟩)] W fun e W' => (∃ v, e = .returned v) ∧ ((∃ ys, ys = xs ∧ J ys W') ∨ (∃ pre, pre <+: xs ∧ Jx pre W')) := by
  refine callsIn_of_wp Try.func38 rfl trivial ?_ rfl
  simp only [Try.ntmps38, List.size_toArray, List.length_cons, List.length_nil, Nat.reduceAdd, Nat.reduceSub, Array.replicate_succ, Array.replicate_zero, List.push_toArray, List.append_toArray, List.nil_append, List.cons_append]
  obtain ⟨hps, hnc, hcm, hcs⟩ := hP.cells
  have HP := Lib.hid (And.intro hps (And.intro hcs (And.intro hP.2 (And.intro hJ (And.intro hY hn0)))))
  clear hps hcs hP hJ hY hn0
  gi_wp2
  gi_loopw [7] (fun i wr => ∃ k : Nat, k ≤ n ∧ i = .int .i64 k ∧ J (xs.take k) wr ∧ Below n₀ W wr) (fun i _ => n - (intOf i).toNat)
  case atStart => exact ⟨0, Nat.zero_le _, rfl, h0, Below.refl _ _⟩
  case round =>
    obtain ⟨k, hk, rfl, hJs, hnx⟩ := hrel
    by_cases hlt : k < n
    · obtain ⟨hps, hcs, hsl, hJ, hY, hn0⟩ := HP.out
      rw [List.length_map] at hps
      have hkx : k < xs.length := by omega
      obtain ⟨g, o, rfl, hg, d0, d1, d2⟩ := hcs k (by rw [List.length_map]; exact hkx)
      rw [List.getElem_map] at d0 d1 d2
      have hts : xs.take (k + 1) = xs.take k ++ [xs[k]] := List.take_succ_eq_append_getElem hkx
      replace d0 := (hnx.cell (p := ⟨g, o + k * 3, none⟩) hg).trans d0
      replace d1 := (hnx.cell (p := ⟨g, o + k * 3 + 1, none⟩) hg).trans d1
      replace d2 := (hnx.cell (p := ⟨g, o + k * 3 + 2, none⟩) hg).trans d2
      obtain ⟨a1, n1, c1, hv, -⟩ := hsl (f xs[k]) (List.mem_map_of_mem (List.getElem_mem hkx))
      have hy1 := hY (xs.take k) xs[k] (wr.alloc (.cells #[.int .i64 (f xs[k]).p.room, (f xs[k]).v, .bool (f xs[k]).p.closed] 46)) (hJ _ _ _ none hJs (World.grownBy_alloc _ _ _) (fun r e => by cases e)) (by rw [List.length_take]; omega)
      unfold pEnc at hy1
      rw [hv] at d1 hy1
      obtain ⟨fn, tmps, assign, body, hy, hR⟩ := hy1
      have Ht := Lib.hid hts
      have hb1 : Below n₀ W (wr.alloc (.cells #[.int .i64 (f xs[k]).p.room, .slice a1 n1 c1, .bool (f xs[k]).p.closed] 46)) := hnx.trans ((Below.refl _ wr).alloc (Nat.le_trans hn0 hnx.size) _)
      clear hts hps hcs hsl hJ hY hn0 hv
      generalize (f xs[k]).p = p at *
      obtain ⟨xr, xi, xc⟩ := p
      dsimp only at *
      gi_wp2
      refine hR.mono ?_
      rintro e W3 (⟨rfl, hJ3, hk3⟩ | ⟨rfl, hJx3⟩)
      · gi_wp2
        go_roundw
        case rel => exact ⟨k + 1, by omega, by simp, by rw [Ht.out]; exact hJ3, hb1.trans hk3⟩
        case measure => simp [intOf]; omega
      · gi_wp2
        refine bodyPost_ret (results_none rfl _ _ _) rfl ?_
        exact ⟨⟨_, rfl⟩, .inr ⟨_, by rw [← Ht.out]; exact List.take_prefix _ _, hJx3⟩⟩
    · obtain rfl : k = n := by omega
      gi_wp2
      go_end0
      exact ⟨⟨_, rfl⟩, .inl ⟨_, List.take_of_length_le (by have := HP.out.1; rw [List.length_map] at this; omega), hJs⟩⟩
theorem each_stops {α : Type} (f : α → Pk) (m : Nat) (hm : 1 ≤ m) (Bs n₀ n c : Nat) (A : Option Addr) (xs : List α) (hreach : n ≤ 1000000) (w : World) (hBl : Bs < w.heap.size) (hn₀ : n₀ ≤ w.heap.size)
    (hBs : w.cell? ⟨Bs, 0, none⟩ = some (.slice A n c)) (hP : PAt w (fun q => q < n₀) (.slice A n c) (xs.map f)) :
    SeqStopsK Fence.wide m Try.prog 38 #[.pointer (some ⟨Bs, 0, none⟩)] (fun x : α => #[pEnc (f x)]) (Below n₀) (fun ys => ys = xs) (fun pre => pre <+: xs) n w := fun l J Jx W hW hJ _ hY h0 =>
  each1_in f m hm l Bs n₀ n c A xs hreach J Jx W hJ hY ((hW.cell (p := ⟨Bs, 0, none⟩) hBl).trans hBs) (hP.keptTo fun q hq => ⟨hW.block q (by omega), hq⟩) (Nat.le_trans hn₀ hW.size) h0
theorem blk_kept {X Y : World} {g : Nat} {cs : Array Value} {t : TypeId} {fr : Nat × Nat} {row : Option Nat} (h : X.heap[g]? = some (.cells cs t fr)) (hg : X.grownBy Y row) (hr : ∀ r, row = some r → ∃ o, X.heap[r]? = some o ∧ o.isCells = false) : Y.heap[g]? = some (.cells cs t fr) := by
  refine (hg.block g (lt_heap h) ?_).trans h
  rintro rfl
  obtain ⟨o, ho, hc⟩ := hr _ rfl
  rw [h] at ho
  cases ho
  cases hc
end Go.Proofs.Ytbfcpapehfdphaa
