/- The walks of source.Left: a range over a function. -/
import Derived.Test.YtddhejgbidmmjaaWb
import Derived.RangeFuncNested
import Derived.RangeFuncBound
import Derived.RangeFuncCalls
import Derived.RangeFuncLeaves
import Derived.Shelf.Abstract
import Derived.Shelf.RegionOpen
import Derived.OwnWalkIn
import Derived.TacticsInMore
import Derived.LoopNIn
import Derived.LoopIn
namespace Go.Proofs.Ytddhejgbidmmjaa
open Go.RowKit Go.Shelf
attribute [local go_sem] Oper.semAt_some
abbrev Hdr := Option Addr × Nat × Nat
def hdr (x : Hdr) : Value := .slice x.1 x.2.1 x.2.2

set_option maxRecDepth 100000 in
set_option maxHeartbeats 2000000 in
theorem all1_in (F : Fence) (m : Nat) (h7 : F.fn 21) (hro : F.round = none) (hn : 1 ≤ m) (l Bs n₀ b n c : Nat) (A : Option Addr) (xs : List Hdr) (hxs : n = xs.length) (hreach : n ≤ 100000000) (J Jx : List Hdr → World → Prop)
    (hY : ∀ pre x W, J pre W → pre.length < n → YieldAt F (m - 1) Try.prog l #[hdr x] W fun e W' =>
      (e = .returned (.bool true) ∧ J (pre ++ [x]) W' ∧ Below n₀ W W') ∨ (e = .returned (.bool false) ∧ Jx (pre ++ [x]) W'))
    (W : World) (hBs : W.cell? ⟨Bs, 0, none⟩ = some (.pointer (some ⟨b, 0, none⟩))) (hb : W.cell? ⟨b, 0, none⟩ = some (.slice A n c)) (hc : n = 0 ∨ ∃ g o, A = some ⟨g, o, none⟩ ∧ g < n₀ ∧ ∀ j (h : j < xs.length), W.cell? ⟨g, o + j, none⟩ = some (hdr xs[j])) (h0 : J [] W) :
    CallsIn F m Try.prog 21 #[.func (.yield l) #[] #[], .pointer (some ⟨Bs, 0, none⟩)] W fun e W' => (∃ v, e = .returned v) ∧
      ((∃ ys, ys = xs ∧ J ys W') ∨ (∃ pre, pre <+: xs ∧ Jx pre W')) := by
  refine callsIn_of_wp Try.func21 rfl h7 ?_ hro
  simp only [Try.ntmps21, List.size_toArray, List.length_cons, List.length_nil, Nat.reduceAdd, Nat.reduceSub, Array.replicate_succ, Array.replicate_zero, List.push_toArray, List.append_toArray, List.nil_append, List.cons_append]
  have Hx := Lib.hid hxs
  have Hc := Lib.hid hc
  clear hxs hc
  gi_wp2
  gi_loopw [10] (fun i wr => ∃ k : Nat, k ≤ n ∧ i = .int .i64 k ∧ J (xs.take k) wr ∧ Below n₀ W wr) (fun i _ => n - (intOf i).toNat)
  case atStart => exact ⟨0, Nat.zero_le _, rfl, h0, Below.refl _ _⟩
  case round =>
    obtain ⟨k, hk, rfl, hJs, hnx⟩ := hrel
    by_cases hlt : k < n
    · have hkx : k < xs.length := by have := Hx.out; omega
      obtain ⟨g, o, rfl, hg, hcs⟩ := Hc.out.resolve_left (by omega)
      have hcx : wr.cell? ⟨g, o + k, none⟩ = some (hdr xs[k]) := (hnx.cell (p := ⟨g, o + k, none⟩) hg).trans (hcs k hkx)
      clear hcs
      have hts : xs.take (k + 1) = xs.take k ++ [xs[k]] := List.take_succ_eq_append_getElem hkx
      obtain ⟨fn, tmps, assign, body, hy, hR⟩ := hY _ xs[k] wr hJs (by rw [List.length_take]; omega)
      have Ht := Lib.hid hts
      clear hts
      simp only [hdr] at hy hcx
      generalize xs[k] = x at *
      obtain ⟨a1, n1, c1⟩ := x
      gi_wp2
      refine hR.mono ?_
      rintro e W3 (⟨rfl, hJ3, hk3⟩ | ⟨rfl, hJx3⟩)
      · gi_wp2
        go_roundw
        case rel => exact ⟨k + 1, by omega, by simp, by rw [Ht.out]; exact hJ3, hnx.trans hk3⟩
        case measure => simp [intOf]; omega
      · gi_wp2
        refine bodyPost_ret (results_none rfl _ _ _) rfl ?_
        exact ⟨⟨_, rfl⟩, .inr ⟨_, by rw [← Ht.out]; exact List.take_prefix _ _, hJx3⟩⟩
    · obtain rfl : k = n := by omega
      gi_wp2
      go_end0
      exact ⟨⟨_, rfl⟩, .inl ⟨_, List.take_of_length_le (by have := Hx.out; omega), hJs⟩⟩

theorem all_in (F : Fence) (m : Nat) (h5 : F.fn 20) (hro : F.round = none) (p : Option Addr) (w : World) :
    CallsIn F m Try.prog 20 #[.pointer p] w fun e w' => e = .returned (.func (.func 21) #[] #[.pointer (some ⟨w.heap.size, 0, none⟩)]) ∧ w' = w.alloc (.cells #[.pointer p] 50) := by
  refine callsIn_of_wp Try.func20 rfl h5 ?_ hro
  simp only [Try.ntmps20, List.size_toArray, List.length_cons, List.length_nil, Nat.reduceAdd, Nat.reduceSub, Array.replicate_succ, Array.replicate_zero, List.push_toArray, List.append_toArray, List.nil_append, List.cons_append]
  gi_wp2
  go_ret
  exact ⟨rfl, rfl⟩

theorem all_stops (F : Fence) (m : Nat) (h7 : F.fn 21) (hro : F.round = none) (hn : 1 ≤ m) (Bs n₀ b n c : Nat) (A : Option Addr) (xs : List Hdr) (hxs : n = xs.length) (hreach : n ≤ 100000000) (w : World) (hBs' : Bs < w.heap.size) (hn₀ : n₀ ≤ w.heap.size) (hb' : b < n₀)
    (hBs : w.cell? ⟨Bs, 0, none⟩ = some (.pointer (some ⟨b, 0, none⟩))) (hb : w.cell? ⟨b, 0, none⟩ = some (.slice A n c)) (hc : n = 0 ∨ ∃ g o, A = some ⟨g, o, none⟩ ∧ g < n₀ ∧ ∀ j (h : j < xs.length), w.cell? ⟨g, o + j, none⟩ = some (hdr xs[j])) :
    SeqStopsK F m Try.prog 21 #[.pointer (some ⟨Bs, 0, none⟩)] (fun x : Hdr => #[hdr x]) (Below n₀) (fun ys => ys = xs) (fun pre => pre <+: xs) n w := fun l J Jx W hW _ _ hY h0 =>
  all1_in F m h7 hro hn l Bs n₀ b n c A xs hxs hreach J Jx hY W ((hW.cell (p := ⟨Bs, 0, none⟩) hBs').trans hBs) ((hW.cell (p := ⟨b, 0, none⟩) (by simp; omega)).trans hb)
    (hc.imp id fun ⟨g, o, hA, hg, hcs⟩ => ⟨g, o, hA, hg, fun j hj => (hW.cell (p := ⟨g, o + j, none⟩) (by simp; omega)).trans (hcs j hj)⟩) h0

def LeftPost (n m : Nat) (w : World) (e : Ending) (w' : World) : Prop := e = .returned (.tuple #[.int .i64 n, .int .i64 m]) ∧ Frm (fun _ => False) w w'
def sumW (xs : List Hdr) : Int := xs.foldl (fun s x => wrap64 (s + x.2.1)) 0
theorem sumW_snoc (xs : List Hdr) (x : Hdr) : sumW (xs ++ [x]) = wrap64 (sumW xs + x.2.1) := by simp [sumW]
theorem blk_kept {X Y : World} {g : Nat} {cs : Array Value} {t : TypeId} {fr : Nat × Nat} {row : Option Nat} (h : X.heap[g]? = some (.cells cs t fr)) (hg : X.grownBy Y row) (hr : ∀ r, row = some r → ∃ o, X.heap[r]? = some o ∧ o.isCells = false) : Y.heap[g]? = some (.cells cs t fr) := by
  refine (hg.block g (lt_heap h) ?_).trans h
  rintro rfl
  obtain ⟨o, ho, hc⟩ := hr _ rfl
  rw [h] at ho
  cases ho
  cases hc
def sumH (xs : List Hdr) : Nat := (xs.map fun x => x.2.1).sum
theorem sumW_eq (xs : List Hdr) (h : sumH xs ≤ 100000000) : sumW xs = sumH xs := by
  have key : ∀ (xs : List Hdr) (a : Nat), a + sumH xs ≤ 100000000 → xs.foldl (fun s x => wrap64 (s + (x.2.1 : Int))) (a : Int) = ((a + sumH xs : Nat) : Int) := by
    intro xs
    induction xs with
    | nil => intro a _; simp [sumH]
    | cons x xs ih =>
      intro a ha
      have hx : sumH (x :: xs) = x.2.1 + sumH xs := by simp [sumH]
      rw [hx] at ha ⊢
      rw [List.foldl_cons, IntWalk.wrap64_in _ ⟨by omega, by omega⟩, show ((a : Int) + (x.2.1 : Int)) = ((a + x.2.1 : Nat) : Int) from by omega, ih (a + x.2.1) (by omega), Nat.add_assoc]
  have := key xs 0 (by omega)
  simpa [sumW] using this
theorem left_fin {F : Fence} {m D n : Nat} {ys : List Hdr} {w W : World} {t : Array Value} (hs : sumH ys ≤ 100000000) (hn : n = ys.length) (h0 : W.heap[w.heap.size]? = some (.cells #[.int .i64 ys.length] 3 (0, 0))) (h1 : W.heap[w.heap.size + 1]? = some (.cells #[.int .i64 (sumW ys)] 3 (0, 0)))
    (hK : W.heap[D]? = some (.deferred (some []))) (hB : Below w.heap.size w W) (hD : w.heap.size + 3 ≤ D) (h2 : t.getD 2 undef = .pointer (some ⟨w.heap.size, 0, none⟩)) (h3 : t.getD 3 undef = .pointer (some ⟨w.heap.size + 1, 0, none⟩)) :
    bodyPostM F m Try.prog Try.f12 (LeftPost n (sumH ys) w) Exit.ret { tmps := t, defers := [{ target := .collected D, args := #[] }] } W := by
  subst hn
  refine ⟨by simp, .inl ⟨_, _, rfl, run_takeDeferred hK, ?_⟩⟩
  have hc0 : (W.putObj D (.deferred none)).cell? ⟨w.heap.size, 0, none⟩ = some (.int .i64 ys.length) :=
    (World.cell?_of_block (w := W) (World.putObj_heap_other (by simp; omega))).trans (cell_of_one h0)
  have hc1 : (W.putObj D (.deferred none)).cell? ⟨w.heap.size + 1, 0, none⟩ = some (.int .i64 (sumW ys)) :=
    (World.cell?_of_block (w := W) (World.putObj_heap_other (by simp; omega))).trans (cell_of_one h1)
  have hb : Below w.heap.size w (W.putObj D (.deferred none)) := hB.trans (belowK_b (w := w) (Nat.le_refl _) W D _ _ (by omega) hK rfl rfl)
  rw [sumW_eq _ hs] at hc1
  exact ⟨_, by simp [results, Try.results12, go_sem, -Array.getD_eq_getD_getElem?, h2, h3, hc0, hc1], rfl, Frm.of_below hb⟩
set_option maxRecDepth 100000 in
set_option maxHeartbeats 2000000 in
theorem left_in (F : Fence) (m : Nat) (h12 : F.fn 12) (h20 : F.fn 20) (h21 : F.fn 21) (hro : F.round = none) (hn : 4 ≤ m) (b n c : Nat) (A : Option Addr) (xs : List Hdr) (hxs : n = xs.length) (hreach : n ≤ 100000000) (hsum : sumH xs ≤ 100000000) (w : World)
    (hb : w.cell? ⟨b, 0, none⟩ = some (.slice A n c)) (hc : n = 0 ∨ ∃ g o, A = some ⟨g, o, none⟩ ∧ g < w.heap.size ∧ ∀ j (h : j < xs.length), w.cell? ⟨g, o + j, none⟩ = some (hdr xs[j])) :
    CallsIn F m Try.prog 12 #[.pointer (some ⟨b, 0, none⟩)] w (LeftPost n (sumH xs) w) := by
  have h1 : 1 ≤ m := by omega
  have hbl : b < w.heap.size := World.block_lt_of_cell? _ _ hb
  have Hx := Lib.hid hxs
  have Hc := Lib.hid hc
  have Hs := Lib.hid hsum
  clear hxs hc hsum
  refine callsIn_of_wp_marks Try.func12 rfl h12 ?_ hro
  simp only [Try.ntmps12, List.size_toArray, List.length_cons, List.length_nil, Nat.reduceAdd, Nat.reduceSub, Array.replicate_succ, Array.replicate_zero, List.push_toArray, List.append_toArray, List.nil_append, List.cons_append]
  gi_wp2_with (gi_at_call 20; refine (all_in F (m - 1) h20 hro _ _).mono ?_; rintro e w' ⟨rfl, rfl⟩)
  have hA3 : ∀ k, k < w.heap.size → ((((w.alloc (Obj.cells #[Value.int IntKind.i64 0] 3)).alloc (Obj.cells #[Value.int IntKind.i64 0] 3)).alloc (Obj.cells #[Value.pointer (some { block := b, off := 0 })] 50))).heap[k]? = w.heap[k]? := fun k hk => by
    rw [Below.heap_alloc _ _ _ (by simp; omega), Below.heap_alloc _ _ _ (by simp; omega), Below.heap_alloc _ _ _ hk]
  have hk0 : ((((w.alloc (Obj.cells #[Value.int IntKind.i64 0] 3)).alloc (Obj.cells #[Value.int IntKind.i64 0] 3)).alloc (Obj.cells #[Value.pointer (some { block := b, off := 0 })] 50))).heap[w.heap.size]? = some (.cells #[.int .i64 0] 3 (0, 0)) := by
    rw [Below.heap_alloc _ _ _ (by simp; omega), Below.heap_alloc _ _ _ (by simp)]; exact heap_alloc_new w _
  have hk1 : ((((w.alloc (Obj.cells #[Value.int IntKind.i64 0] 3)).alloc (Obj.cells #[Value.int IntKind.i64 0] 3)).alloc (Obj.cells #[Value.pointer (some { block := b, off := 0 })] 50))).heap[w.heap.size + 1]? = some (.cells #[.int .i64 0] 3 (0, 0)) := by
    rw [Below.heap_alloc _ _ _ (by simp)]; have := heap_alloc_new (w.alloc (Obj.cells #[Value.int IntKind.i64 0] 3)) (Obj.cells #[Value.int IntKind.i64 0] 3); simpa using this
  have hk2 : ((((w.alloc (Obj.cells #[Value.int IntKind.i64 0] 3)).alloc (Obj.cells #[Value.int IntKind.i64 0] 3)).alloc (Obj.cells #[Value.pointer (some { block := b, off := 0 })] 50))).cell? ⟨w.heap.size + 1 + 1, 0, none⟩ = some (.pointer (some ⟨b, 0, none⟩)) := by
    have := World.cell?_alloc_new ((w.alloc (Obj.cells #[Value.int IntKind.i64 0] 3)).alloc (Obj.cells #[Value.int IntKind.i64 0] 3)) #[Value.pointer (some { block := b, off := 0 })] 50 0; simpa using this
  have hsz : ((((w.alloc (Obj.cells #[Value.int IntKind.i64 0] 3)).alloc (Obj.cells #[Value.int IntKind.i64 0] 3)).alloc (Obj.cells #[Value.pointer (some { block := b, off := 0 })] 50))).heap.size = w.heap.size + 3 := by simp
  have hB : Below w.heap.size w ((((w.alloc (Obj.cells #[Value.int IntKind.i64 0] 3)).alloc (Obj.cells #[Value.int IntKind.i64 0] 3)).alloc (Obj.cells #[Value.pointer (some { block := b, off := 0 })] 50))) :=
    (((Below.refl _ _).alloc (Nat.le_refl _) _).alloc (by simp) _).alloc (by simp; omega) _
  generalize (((w.alloc (Obj.cells #[Value.int IntKind.i64 0] 3)).alloc (Obj.cells #[Value.int IntKind.i64 0] 3)).alloc (Obj.cells #[Value.pointer (some { block := b, off := 0 })] 50)) = W0 at *
  refine wpIn_rangeFunc_ownF hro h1 (gf := 21) (lb := #[.pointer (some ⟨w.heap.size + 1 + 1, 0, none⟩)]) rfl h21 (enters_of Try.func21 (by kernel_rfl) rfl)
    (all_stops F (m - 1) h21 hro (by omega) (w.heap.size + 1 + 1) w.heap.size b n c A xs Hx.out hreach W0 (by omega) (by omega) hbl hk2 ((World.cell?_of_block (w := w) (hA3 b hbl)).trans hb)
      (Hc.out.imp id fun ⟨g, o, hA, hg, hcs⟩ => ⟨g, o, hA, hg, fun j hj => (World.cell?_of_block (w := w) (hA3 g hg)).trans (hcs j hj)⟩)) belowK_t (belowK_b (by omega)) (Below.refl _ _) (fun _ => rfl)
    (fun pre W => (W.heap[w.heap.size]? = some (.cells #[.int .i64 pre.length] 3 (0, 0)) ∧ W.heap[w.heap.size + 1]? = some (.cells #[.int .i64 (sumW pre)] 3 (0, 0))) ∧ Below w.heap.size w W)
    (fun _ _ _ => False)
    (OwnFrom.and (Own.from (fun s X Y row hs hg hr => ⟨blk_kept hs.1 hg hr, blk_kept hs.2 hg hr⟩) _) (ownFrom_below (Nat.le_refl _) (by omega)))
    (fun _ _ _ _ _ hs => hs.elim)
    ⟨⟨hk0, hk1⟩, hB⟩
    (fun x => { tmps := #[.pointer (some ⟨b, 0, none⟩), undef, .pointer (some ⟨w.heap.size, 0, none⟩), .pointer (some ⟨w.heap.size + 1, 0, none⟩), hdr x, .pointer (some ⟨b, 0, none⟩), .bool false, .pointer (some ⟨b, 0, none⟩), .pointer (some ⟨b, 0, none⟩), .pointer (some ⟨b, 0, none⟩), .func (.func 21) #[] #[.pointer (some ⟨w.heap.size + 1 + 1, 0, none⟩)], hdr x, undef, undef, undef, undef, undef, undef, undef, undef], defers := [] }) ?assign ?body ?done ?stop
  case assign =>
    intro l x W K hK
    gi_wp2
    exact hK
  case body =>
    rintro l pre x W ⟨⟨hk, hs⟩, hBW⟩ hl
    have hc0 := cell_of_one hk
    have hf0 := free_of_one hk
    have hc1 := cell_of_one hs
    have hf1 := free_of_one hs
    have hl' : pre.length < n := hl
    simp only [hdr]
    obtain ⟨a1, n1, c1⟩ := x
    gi_wp2
    have hb1 := (Below.refl w.heap.size W).setCell (p := ⟨w.heap.size, 0, none⟩) (Nat.le_refl _) (.int .i64 (↑pre.length + 1))
    have hb2 := hb1.setCell (p := ⟨w.heap.size + 1, 0, none⟩) (by simp) (.int .i64 (wrap64 (sumW pre + ↑n1)))
    refine ⟨(KeepsOthers.setCell _ _ _).trans (KeepsOthers.setCell _ _ _), hb2, ⟨?_, ?_⟩, hBW.trans hb2⟩
    · rw [Below.heap_setCell _ _ _ _ (by simp), one_setCell hk]; simp
    · rw [one_setCell ((Below.heap_setCell _ _ _ _ (by simp)).trans hs), sumW_snoc]
  case done =>
    rintro D ys W hD rfl ⟨⟨hk, hs⟩, hBW⟩ hK
    have hc0 := cell_of_one hk
    have hf0 := free_of_one hk
    have hc1 := cell_of_one hs
    have hf1 := free_of_one hs
    gi_wp2
    gi_region
    all_goals gi_wp2
    all_goals
      simp only [setCell_same hc0, setCell_same hc1]
      exact left_fin Hs.out Hx.out hk hs hK hBW.drew (by omega) rfl rfl
  case stop =>
    rintro D c pre W _ _ h _
    exact h.elim
end Go.Proofs.Ytddhejgbidmmjaa
