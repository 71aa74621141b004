/- The walk of sink.Within. -/
import Derived.Test.YtgjkjcdohfccaaaWi
namespace Go.Proofs.Ytgjkjcdohfccaaa
open Go.RowKit Go.Shelf
attribute [local go_sem] Oper.semAt_some
def wstep (p : Nat × Nat) (y : Bool) : Nat × Nat := (max p.1 (if y = true then 0 else p.2 + 1), if y = true then 0 else p.2 + 1)
def wfold (xs : List Bool) : Nat × Nat := xs.foldl wstep (0, 0)
theorem blk_kept {X Y : World} {g : Nat} {cs : Array Value} {t : TypeId} {fr : Nat × Nat} {row : Option Nat} (h : X.heap[g]? = some (.cells cs t fr)) (hg : X.grownBy Y row) (hr : ∀ r, row = some r → ∃ o, X.heap[r]? = some o ∧ o.isCells = false) : Y.heap[g]? = some (.cells cs t fr) := by
  refine (hg.block g (lt_heap h) ?_).trans h
  rintro rfl
  obtain ⟨o, ho, hc⟩ := hr _ rfl
  rw [h] at ho
  cases ho
  cases hc
theorem wfold_snoc (xs : List Bool) (y : Bool) : wfold (xs ++ [y]) = wstep (wfold xs) y := by simp [wfold]
theorem wfold_le (xs : List Bool) : (wfold xs).1 ≤ xs.length ∧ (wfold xs).2 ≤ xs.length := by
  rw [← List.reverse_reverse xs]
  generalize xs.reverse = l
  induction l with
  | nil => exact ⟨Nat.le_refl _, Nat.le_refl _⟩
  | cons y l ih =>
    rw [List.reverse_cons, wfold_snoc, wstep]
    simp only [List.length_append, List.length_reverse, List.length_singleton] at *
    split <;> simp <;> omega
def winOf (an : List Bool) : Nat × Bool := if an.isEmpty = true then (1, true) else if an.contains true = false then (0, false) else ((wfold (saysTo an (2 * an.length))).1 + 1, true)
def WinPost (an : List Bool) (w : World) (e : Ending) (w' : World) : Prop := e = .returned (.tuple #[.int .i64 (winOf an).1, .bool (winOf an).2]) ∧ Frm (fun _ => False) w w'
def KfW (s k : Nat) : Prop := k = s + 1 ∨ k = s + 2 ∨ s + 5 ≤ k
theorem frm_putObj (s : Nat) {W : World} {l : Nat} (o : Obj) (h : s + 5 ≤ l) : Frm (KfW s) W (W.putObj l o) :=
  ⟨rfl, rfl, rfl, by simp [World.putObj], fun k _ hk => World.putObj_heap_other (by rintro rfl; exact hk (.inr (.inr h)))⟩
def WI (w : World) (pre : List Bool) (W : World) : Prop :=
  (W.heap[w.heap.size + 1]? = some (.cells #[.int .i64 (wfold pre).1] 3 (0, 0)) ∧ W.heap[w.heap.size + 1 + 1]? = some (.cells #[.int .i64 (wfold pre).2] 3 (0, 0))) ∧ Below w.heap.size w W
def WO (w : World) (pre : List Bool) (W W1 : World) : Prop := KeepsOthers W W1 ∧ Frm (KfW w.heap.size) W W1 ∧ WI w pre W1
theorem body_f {w W : World} {pre : List Bool} {x : Bool} {q1 q2 a b : Nat} {v1 v2 : Int} (hk : W.heap[w.heap.size + 1]? = some (.cells #[.int .i64 q1] 3 (0, 0))) (hs : W.heap[w.heap.size + 1 + 1]? = some (.cells #[.int .i64 q2] 3 (0, 0))) (hB : Below w.heap.size w W)
    (hsn : wfold (pre ++ [x]) = (a, b)) (h1 : v1 = a) (h2 : v2 = b) : WO w (pre ++ [x]) W ((W.setCell ⟨w.heap.size + 1 + 1, 0, none⟩ (.int .i64 v2)).setCell ⟨w.heap.size + 1, 0, none⟩ (.int .i64 v1)) := by
  subst h1 h2
  refine ⟨(KeepsOthers.setCell _ _ _).trans (KeepsOthers.setCell _ _ _), ((Frm.refl _ W).setCell _ (.inl (.inr (.inl rfl))) _).setCell _ (.inl (.inl rfl)) _, ⟨?_, ?_⟩, hB.trans (((Below.refl _ _).setCell (by simp; omega) _).setCell (by simp) _)⟩
  · rw [one_setCell ((Below.heap_setCell _ _ _ _ (by simp)).trans hk), hsn]
  · rw [Below.heap_setCell _ _ _ _ (by simp), one_setCell hs, hsn]
theorem body_t {w W : World} {pre : List Bool} {x : Bool} {q1 q2 a b : Nat} {v1 v2 : Int} {u : Value} (hk : W.heap[w.heap.size + 1]? = some (.cells #[.int .i64 q1] 3 (0, 0))) (hs : W.heap[w.heap.size + 1 + 1]? = some (.cells #[.int .i64 q2] 3 (0, 0))) (hB : Below w.heap.size w W)
    (hsn : wfold (pre ++ [x]) = (a, b)) (h1 : v1 = a) (h2 : v2 = b) : WO w (pre ++ [x]) W (((W.setCell ⟨w.heap.size + 1 + 1, 0, none⟩ u).setCell ⟨w.heap.size + 1 + 1, 0, none⟩ (.int .i64 v2)).setCell ⟨w.heap.size + 1, 0, none⟩ (.int .i64 v1)) := by
  subst h1 h2
  refine ⟨((KeepsOthers.setCell _ _ _).trans (KeepsOthers.setCell _ _ _)).trans (KeepsOthers.setCell _ _ _), (((Frm.refl _ W).setCell _ (.inl (.inr (.inl rfl))) _).setCell _ (.inl (.inr (.inl rfl))) _).setCell _ (.inl (.inl rfl)) _, ⟨?_, ?_⟩, hB.trans ((((Below.refl _ _).setCell (by simp; omega) _).setCell (by simp; omega) _).setCell (by simp) _)⟩
  · rw [one_setCell ((Below.heap_setCell _ _ _ _ (by simp)).trans ((Below.heap_setCell _ _ _ _ (by simp)).trans hk)), hsn]
  · rw [Below.heap_setCell _ _ _ _ (by simp), one_setCell (one_setCell hs), hsn]
theorem round_stops (n : Nat) (hn : 1 ≤ n) (s : Nat) (K : Nat → Prop) (va : Value) (an : List Bool) (N : Nat) (w : World) (hBn : w.cell? ⟨s + 4, 0, none⟩ = some (.int .i64 N)) (hBr : w.cell? ⟨s + 3, 0, none⟩ = some (.pointer (some ⟨s, 0, none⟩))) (hb : w.cell? ⟨s, 0, none⟩ = some va) (hs : Sl w K va (bvs an)) (hK : ∀ k, K k → k < s) (hz : s + 5 ≤ w.heap.size) (hN : N ≤ 100000) (hl : an.length ≤ 100000) :
    SeqStopsK Fence.wide n Try.prog 24 #[.pointer (some ⟨s + 4, 0, none⟩), .pointer (some ⟨s + 3, 0, none⟩)] (fun x : Bool => #[.bool x]) (Frm (KfW s)) (fun ys => ys = saysTo an N) (fun pre => pre <+: saysTo an N) N w := fun l J Jx W hW hJ _ hY h0 =>
  round1_in n hn l (s + 4) (s + 3) s N (KfW s) K va an J Jx (fun s A k hs => hJ s A _ none hs ⟨rfl, rfl, rfl, Nat.le_refl _, fun _ _ _ => rfl⟩ (fun r hr => by cases hr)) hY W
    ((hW.cell (p := ⟨s + 4, 0, none⟩) (by simp; omega)).trans hBn) ((hW.cell (p := ⟨s + 3, 0, none⟩) (by simp; omega)).trans hBr) ((hW.cell (p := ⟨s, 0, none⟩) (by simp; omega)).trans hb) (hs.keptTo fun k hk => ⟨hW.block k (by have := hK k hk; omega), hk⟩) ⟨by unfold KfW; omega, by unfold KfW; omega, fun k hk => by have := hK k hk; unfold KfW; omega⟩ (fun k hk => by have := hK k hk; have := hW.size; omega) hN hl h0
theorem within_fin {F : Fence} {m D : Nat} {an ys : List Bool} {w W : World} {t : Array Value}
    (hK : W.heap[D]? = some (.deferred (some []))) (hB : Frm (fun _ => False) w W) (hD : w.heap.size ≤ D) (hr : winOf an = ((wfold ys).1 + 1, true)) (h2 : t.getD 2 undef = .int .i64 ((wfold ys).1 + 1 : Nat)) (h3 : t.getD 3 undef = .bool true) :
    bodyPostM F m Try.prog Try.f15 (WinPost an w) Exit.ret { tmps := t, defers := [{ target := .collected D, args := #[] }] } W := by
  refine ⟨by simp, .inl ⟨_, _, rfl, run_takeDeferred hK, ?_⟩⟩
  refine ⟨.tuple #[.int .i64 ((wfold ys).1 + 1 : Nat), .bool true], by simp [results, Try.results15, go_sem, -Array.getD_eq_getD_getElem?, h2, h3], by rw [hr], ?_⟩
  exact ⟨hB.os, hB.tape, hB.output, by simpa [World.putObj] using hB.size, fun k hk hn => (World.putObj_heap_other (by omega)).trans (hB.block k hk hn)⟩
structure Made (w : World) (v : Value) (n : Nat) (W : World) : Prop where
  f0 : W.heap[w.heap.size]? = some (.cells #[v] 42 (0, 0))
  f1 : W.heap[w.heap.size + 1]? = some (.cells #[.int .i64 0] 3 (0, 0))
  f2 : W.heap[w.heap.size + 1 + 1]? = some (.cells #[.int .i64 0] 3 (0, 0))
  f3 : W.heap[w.heap.size + 3]? = some (.cells #[.pointer (some ⟨w.heap.size, 0, none⟩)] 51 (0, 0))
  f4 : W.heap[w.heap.size + 4]? = some (.cells #[.int .i64 (2 * (n : Int))] 3 (0, 0))
  sz : W.heap.size = w.heap.size + 5
  fr : Frm (fun _ => False) w W
theorem heap_new_at (w : World) (o : Obj) (k : Nat) (h : k = w.heap.size) : (w.alloc o).heap[k]? = some o := by subst h; exact heap_alloc_new w o
theorem heap_far_at (w : World) (o x : Obj) (k : Nat) (h : w.heap[k]? = some x) : (w.alloc o).heap[k]? = some x := (Below.heap_alloc _ _ _ (lt_heap h)).trans h
theorem round_made (w : World) (v : Value) (n : Nat) :
    Calls Try.prog 21 #[.pointer (some ⟨w.heap.size, 0, none⟩), .int .i64 (2 * (n : Int))] (((w.alloc (.cells #[v] 42)).alloc (.cells #[.int .i64 0] 3)).alloc (.cells #[.int .i64 0] 3))
      fun e W => e = .returned (.func (.func 24) #[] #[.pointer (some ⟨w.heap.size + 4, 0, none⟩), .pointer (some ⟨w.heap.size + 3, 0, none⟩)]) ∧ Made w v n W := by
  refine (round_any _ _ _).mono ?_
  rintro e W ⟨rfl, rfl⟩
  simp only [World.size_alloc]
  refine ⟨trivial, ?_, ?_, ?_, ?_, ?_, by simp, ((((((Frm.refl _ _).alloc _).alloc _).alloc _).alloc _).alloc _)⟩
  · exact heap_far_at _ _ _ _ (heap_far_at _ _ _ _ (heap_far_at _ _ _ _ (heap_far_at _ _ _ _ (heap_new_at _ _ _ rfl))))
  · exact heap_far_at _ _ _ _ (heap_far_at _ _ _ _ (heap_far_at _ _ _ _ (heap_new_at _ _ _ (by simp))))
  · exact heap_far_at _ _ _ _ (heap_far_at _ _ _ _ (heap_new_at _ _ _ (by simp)))
  · exact heap_far_at _ _ _ _ (heap_new_at _ _ _ (by simp))
  · exact heap_new_at _ _ _ (by simp)
set_option maxRecDepth 100000 in
set_option maxHeartbeats 2000000 in
theorem within_in (K : Nat → Prop) (va : Value) (an : List Bool) (w : World) (h : Sl w K va (bvs an)) (hK : ∀ k, K k → k < w.heap.size) (hl : an.length ≤ 10000) (hne : an.isEmpty = false) (hct : an.contains true = true) :
    CallsIn Fence.wide 4 Try.prog 15 #[va] w (WinPost an w) := by
  have hcon := contains_any K va an w h (by omega)
  have hw : winOf an = ((wfold (saysTo an (2 * an.length))).1 + 1, true) := by unfold winOf; rw [hne, hct]; rfl
  rw [contains_idx] at hct
  unfold ContPost at hcon
  rw [hct] at hcon
  obtain ⟨A, n, c, rfl, hn, hc, hcm, hx⟩ := id h
  rw [bvs_length] at hn
  have hnz : ((n : Int) == 0) = false := by
    have : an.length ≠ 0 := by intro h0; rw [List.length_eq_zero_iff] at h0; subst h0; cases hne
    simp; omega
  have H := Lib.hid (And.intro h (And.intro hn (And.intro hK (And.intro hcon hw))))
  have hmul : IntKind.i64.wrap (2 * (n : Int)) = ((2 * n : Nat) : Int) := by rw [IntWalk.i64_in _ (by omega)]; omega
  clear h hn hx hcon hK hct hne hw
  refine callsIn_of_wp_marks Try.func15 rfl trivial ?_ rfl
  simp only [Try.ntmps15, List.size_toArray, List.length_cons, List.length_nil, Nat.reduceAdd, Nat.reduceSub, Array.replicate_succ, Array.replicate_zero, List.push_toArray, List.append_toArray, List.nil_append, List.cons_append]
  gi_wp2_with fail
  refine ⟨trivial, ?_⟩
  refine (callsIn_wide.2 H.out.2.2.2.1).mono ?_
  rintro e w' ⟨rfl, rfl⟩
  gi_wp2_with fail
  refine ⟨trivial, ?_⟩
  refine (callsIn_wide.2 (round_made w (.slice A n c) n)).mono ?_
  rintro e W0 ⟨rfl, hM⟩
  have HM := Lib.hid hM
  clear hM hmul
  gi_wp2_with fail
  have hM := HM.out
  have hs5 := hM.sz
  refine wpIn_rangeFunc_ownF rfl (by omega) (gf := 24) (lb := #[.pointer (some ⟨w.heap.size + 4, 0, none⟩), .pointer (some ⟨w.heap.size + 3, 0, none⟩)]) rfl trivial (enters_of Try.func24 (by kernel_rfl) rfl)
    (round_stops 3 (by omega) w.heap.size K (.slice A n c) an (2 * n) W0 (by have := cell_of_one hM.f4; rw [this]; congr 2) (cell_of_one hM.f3) (cell_of_one hM.f0) (H.out.1.keptTo fun k hk => ⟨hM.fr.block k (H.out.2.2.1 k hk) id, hk⟩) H.out.2.2.1 (by omega) (by have := H.out.2.1; omega) (by omega)) (fun h h' => h.trans' h') (fun W l o o' h1 _ _ _ => frm_putObj w.heap.size o' (by omega)) (Below.refl _ _) (fun _ => rfl)
    (fun pre W => (W.heap[w.heap.size + 1]? = some (.cells #[.int .i64 (wfold pre).1] 3 (0, 0)) ∧ W.heap[w.heap.size + 1 + 1]? = some (.cells #[.int .i64 (wfold pre).2] 3 (0, 0))) ∧ Below w.heap.size w W)
    (fun _ _ _ => False)
    (OwnFrom.and (Own.from (fun s X Y row hs hg hr => ⟨blk_kept hs.1 hg hr, blk_kept hs.2 hg hr⟩) _) (ownFrom_below (Nat.le_refl _) (by omega)))
    (fun _ _ _ _ _ hs => hs.elim)
    ⟨⟨hM.f1, hM.f2⟩, hM.fr.below (Nat.le_refl _) (fun _ h => h.elim)⟩
    (fun x => { tmps := #[.slice A n c, undef, .int .i64 0, .bool false, .pointer (some ⟨w.heap.size, 0, none⟩), .pointer (some ⟨w.heap.size + 1, 0, none⟩), .pointer (some ⟨w.heap.size + 1 + 1, 0, none⟩), .bool x, .slice A n c, .int .i64 n, .bool false, .slice A n c, .bool true, .bool false, .slice A n c, .agg #[.slice A n c], .slice A n c, .int .i64 n, .int .i64 (2 * (n : Int)),
      .func (.func 24) #[] #[.pointer (some ⟨w.heap.size + 4, 0, none⟩), .pointer (some ⟨w.heap.size + 3, 0, none⟩)], .bool x, undef, undef, undef, undef, undef, undef, undef, undef], defers := [] }) ?assign ?body ?done ?stop
  case assign =>
    intro l x W K hK
    gi_wp2
    exact hK
  case body =>
    rintro l pre x W ⟨⟨hk, hs⟩, hBW⟩ hl
    have hc0 := cell_of_one hk
    have hf0 := free_of_one hk
    have hc1 := cell_of_one hs
    have hf1 := free_of_one hs
    obtain ⟨hb1, hb2⟩ := wfold_le pre
    have hl' : pre.length < 2 * n := hl
    have hn' := H.out.2.1
    have hq1 : (wfold pre).1 ≤ 100000 := by omega
    have hq2 : (wfold pre).2 ≤ 100000 := by omega
    have hsn := wfold_snoc pre x
    have Hx := Lib.hid (And.intro hsn (And.intro hk (And.intro hs hBW)))
    clear hb1 hb2 hl hl' hn' hM HM hs5 hsn hk hs hBW
    unfold wstep at Hx
    generalize wfold pre = p at *
    obtain ⟨q1, q2⟩ := p
    dsimp only at *
    obtain ⟨hsn, hk, hs, hBW⟩ := Hx.out
    cases x
    · clear hsn hk hs hBW
      gi_wp2
      all_goals
        obtain ⟨hsn, hk, hs, hBW⟩ := Hx.out
        refine body_f hk hs hBW hsn ?_ ?_ <;> simp <;> omega
    · clear hsn hk hs hBW
      gi_wp2
      all_goals
        obtain ⟨hsn, hk, hs, hBW⟩ := Hx.out
        refine body_t hk hs hBW hsn ?_ ?_ <;> simp <;> omega
  case done =>
    rintro D ys W hD rfl ⟨⟨hk, hs⟩, hBW⟩ hK
    have hc0 := cell_of_one hk
    have hq := (wfold_le (saysTo an (2 * n))).1
    rw [saysTo_length] at hq
    have hn' := H.out.2.1
    have hw := H.out.2.2.2.2
    have Hf := Lib.hid (And.intro hn' (And.intro hK (And.intro hBW hw)))
    have hq1 : (wfold (saysTo an (2 * n))).1 ≤ 100000 := by omega
    clear hq hn' hK hBW hw hk hs hM HM
    gi_wp2
    obtain ⟨hn', hK, hBW, hw⟩ := Hf.out
    rw [← hn'] at hw
    exact within_fin hK (Frm.of_below hBW) (by omega) hw (by show Value.int .i64 _ = _; congr 1) rfl
  case stop =>
    rintro D c pre W _ _ h _
    exact h.elim
set_option maxHeartbeats 400000 in
theorem within_any (K : Nat → Prop) (va : Value) (an : List Bool) (w : World) (h : Sl w K va (bvs an)) (hK : ∀ k, K k → k < w.heap.size) (hl : an.length ≤ 10000) :
    Calls Try.prog 15 #[va] w (WinPost an w) := by
  cases hne : an.isEmpty with
  | true =>
    obtain ⟨A, n, c, rfl, hn, hc, hcm, hx⟩ := h
    rw [bvs_length] at hn
    have hw : winOf an = (1, true) := by unfold winOf; rw [hne]; rfl
    have hn0 : n = 0 := by rw [hn]; simpa using hne
    subst hn0
    have Hw := Lib.hid hw
    clear hn hx hw hne
    go_enter Try.func15, Try.ntmps15
    go_wp2_with fail
    go_ret2
    exact ⟨by rw [Hw.out]; rfl, Frm.refl _ _⟩
  | false =>
    cases hct : an.contains true with
    | true => exact callsIn_wide.1 (within_in K va an w h hK hl hne hct)
    | false =>
      have hcon := contains_any K va an w h (by omega)
      have hw : winOf an = (0, false) := by unfold winOf; rw [hne, hct]; rfl
      rw [contains_idx] at hct
      unfold ContPost at hcon
      rw [hct] at hcon
      obtain ⟨A, n, c, rfl, hn, hc, hcm, hx⟩ := h
      rw [bvs_length] at hn
      have hnz : ((n : Int) == 0) = false := by
        have : an.length ≠ 0 := by intro h0; rw [List.length_eq_zero_iff] at h0; subst h0; cases hne
        simp; omega
      have H := Lib.hid (And.intro hcon hw)
      clear hn hx hcon hct hne hw hK
      go_enter Try.func15, Try.ntmps15
      go_wp2_with fail
      refine H.out.1.mono ?_
      rintro e w' ⟨rfl, rfl⟩
      go_wp2_with fail
      go_ret2
      exact ⟨by rw [H.out.2]; rfl, Frm.refl _ _⟩
end Go.Proofs.Ytgjkjcdohfccaaa
