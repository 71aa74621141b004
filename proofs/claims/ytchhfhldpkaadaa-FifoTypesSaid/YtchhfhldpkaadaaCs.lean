/- slices.Collect at []string, over whatever iterator. -/
import Derived.Test.YtchhfhldpkaadaaLib
import Derived.RangeFuncNested
import Derived.RangeFuncBound
import Derived.RangeFuncCalls
import Derived.RangeFuncLeaves
import Derived.RangeFuncFrom
import Derived.RangeFuncBox
import Derived.Maps.AppendAt
import Derived.Shelf.Abstract
import Derived.Shelf.RegionOpen
import Derived.OwnWalkIn
import Derived.TacticsInMore
import Derived.LoopNIn
import Derived.LoopIn
namespace Go.Proofs.Ytchhfhldpkaadaa
open Go.RowKit Go.Shelf
namespace CS
attribute [local go_sem] Oper.semAt_some
theorem infoI : (Try.prog.info? 9).map (fun i => (i.zero, i.size, i.bytes)) = some (some (.string ByteArray.empty), 1, 16) := by kernel_rfl
def CollPost (xs : List ByteArray) (w : World) (e : Ending) (w' : World) : Prop :=
  ∃ v, e = .returned v ∧ w'.ownsRow w.heap.size 9 1 v xs.length (xs.map sv) ∧ (v = .slice none 0 0 ↔ xs = []) ∧ Below w.heap.size w w'
theorem coll_fin {F : Fence} {m D : Nat} {xs : List ByteArray} {w W : World} {t : Array Value} {v : Value} (hv : Boxed W w.heap.size 48 v) (hr : W.ownsRow w.heap.size 9 1 v xs.length (xs.map sv)) (hnil : v = .slice none 0 0 ↔ xs = []) (hB : Below w.heap.size w W)
    (hK : W.heap[D]? = some (.deferred (some []))) (hD : w.heap.size ≤ D) (ht : t.getD 4 undef = v) :
    bodyPostM F m Try.prog Try.f45 (CollPost xs w) Exit.normal { tmps := t, defers := [{ target := .collected D, args := #[] }] } W := by
  refine ⟨by simp, .inl ⟨_, _, rfl, run_takeDeferred hK, ?_⟩⟩
  refine ⟨v, by rw [results_tmp (t := 4) rfl, ht], _, rfl, ownsRow_putObj hr _ hK rfl, hnil, hB.trans (belowK_b (w := w) (Nat.le_refl _) W D _ _ hD hK rfl rfl)⟩
set_option maxRecDepth 100000 in
set_option maxHeartbeats 2000000 in
theorem appendSeq_in (F : Fence) (m : Nat) (h35 : F.fn 45) (hro : F.round = none) (hn : 3 ≤ m) (gf : Nat) (lb : Array Value) (hgf : F.fn gf) (eg : ∀ args w, (callFunc gf args).run Try.prog w = .ok (.enter gf args) w)
    (xs : List ByteArray) (hN : xs.length ≤ 100000000) (w : World) (hseq : SeqStopsK F (m - 1) Try.prog gf lb (fun x : ByteArray => #[sv x]) (Below w.heap.size) (fun ys => ys = xs) (fun pre => pre <+: xs) xs.length w) :
    CallsIn F m Try.prog 45 #[.slice none 0 0, .func (.func gf) #[] lb] w (CollPost xs w) := by
  have h1 : 1 ≤ m := by omega
  obtain ⟨i0, hi, hz0, hz1, hz2⟩ := info_parts infoI
  refine callsIn_of_wp_marks Try.func45 rfl h35 ?_ hro
  simp only [Try.ntmps45, List.size_toArray, List.length_cons, List.length_nil, Nat.reduceAdd, Nat.reduceSub, Array.replicate_succ, Array.replicate_zero, List.push_toArray, List.append_toArray, List.nil_append, List.cons_append]
  have Hseq := Lib.hid hseq
  clear hseq
  gi_wp2
  have hb0 : Below w.heap.size w (w.alloc (.cells #[.slice none 0 0] 48)) := (Below.refl _ _).alloc (Nat.le_refl _) _
  have hbx : Boxed (w.alloc (.cells #[.slice none 0 0] 48)) w.heap.size 48 (.slice none 0 0) := Boxed.new _ _ _
  have hsz : (w.alloc (.cells #[.slice none 0 0] 48)).heap.size = w.heap.size + 1 := by simp
  generalize hW0 : w.alloc (.cells #[.slice none 0 0] 48) = W0 at *
  refine wpIn_rangeFunc_ownF hro h1 (gf := gf) (lb := lb) rfl hgf eg Hseq.out belowK_t (belowK_b (by omega)) hb0 (fun _ => rfl)
    (fun pre W => (∃ v, Boxed W w.heap.size 48 v ∧ W.ownsRow w.heap.size 9 1 v pre.length (pre.map sv) ∧ (v = .slice none 0 0 ↔ pre = [])) ∧ Below w.heap.size w W)
    (fun _ _ _ => False)
    (OwnFrom.and (Own.from (holdsRow_own w.heap.size w.heap.size 48 9 1 List.length (fun pre => pre.map sv) (fun pre v => v = .slice none 0 0 ↔ pre = [])) _) (ownFrom_below (Nat.le_refl _) (by omega)))
    (fun _ _ _ _ _ hs => hs.elim)
    ⟨⟨_, hbx, World.ownsRow_nil _ _ _ _, by simp⟩, hb0⟩
    (fun x => { tmps := #[.slice none 0 0, .func (.func gf) #[] lb, .pointer (some ⟨w.heap.size, 0, none⟩), undef, .slice none 0 0, sv x, .func (.func gf) #[] lb, sv x, undef, undef, undef, undef, undef], defers := [] }) ?assign ?body ?done ?stop
  case assign =>
    intro l x W K hK
    gi_wp2
    exact hK
  case body =>
    rintro l pre x W ⟨⟨v, hv, hr, hnil⟩, hB⟩ hl
    have hc := hv.cell
    have hf := hv.frozen
    have Hl := Lib.hid hl
    have Hn := Lib.hid hnil
    clear hl hnil
    simp only [sv]
    gi_wp2_with (gi_at_builtin; refine wpListIn_append_own _ rfl _ _ 48 rfl w.heap.size 9 i0 (.string ByteArray.empty) 1 16 Try.underlying48 hi hz0 hz1 hz2 rfl (by decide) _ _ _ rfl (hr.alloc _) ⟨W.heap.size, 0, none⟩ 1 1 [sv x] rfl rfl (cell_one_new _ _ _) (by simp [Value.oneCell', sv]) (by unfold maxLen; have := Hl.out; omega) (by have := Hl.out; omega) (by have := hB.size; simp; omega) ?_; intro v' w1 hown' hgrow _; obtain ⟨g', cap', rfl⟩ := ownsRow_succ hown'; obtain ⟨hv1, hv2, hr2, hk2, hb2⟩ := hv.appended (by decide) hr hB.size (Nat.le_refl _) hown' hgrow; have hc1 := hv1.cell; have hf1 := hv1.frozen)
    exact ⟨hk2, hb2, ⟨_, hv2, by simpa [sv] using hr2, by simp⟩, hB.trans hb2⟩
  case done =>
    rintro D ys W hD rfl ⟨⟨v, hv, hr, hnil⟩, hB⟩ hK
    have hc := hv.cell
    have Hn := Lib.hid hnil
    clear hnil
    gi_wp2
    exact coll_fin hv hr Hn.out hB hK (by omega) rfl
  case stop =>
    rintro D c pre W _ _ h _
    exact h.elim
theorem collect_in (F : Fence) (m : Nat) (h30 : F.fn 41) (h35 : F.fn 45) (hro : F.round = none) (hn : 4 ≤ m) (gf : Nat) (lb : Array Value) (hgf : F.fn gf) (eg : ∀ args w, (callFunc gf args).run Try.prog w = .ok (.enter gf args) w)
    (xs : List ByteArray) (hN : xs.length ≤ 100000000) (w : World) (hseq : SeqStopsK F (m - 1 - 1) Try.prog gf lb (fun x : ByteArray => #[sv x]) (Below w.heap.size) (fun ys => ys = xs) (fun pre => pre <+: xs) xs.length w) :
    CallsIn F m Try.prog 41 #[.func (.func gf) #[] lb] w (CollPost xs w) := by
  refine callsIn_of_wp Try.func41 rfl h30 ?_ hro
  simp only [Try.ntmps41, List.size_toArray, List.length_cons, List.length_nil, Nat.reduceAdd, Nat.reduceSub, Array.replicate_succ, Array.replicate_zero, List.push_toArray, List.append_toArray, List.nil_append, List.cons_append]
  have h1 : 1 ≤ m := by omega
  gi_wp2_with (gi_at_call 45; refine (appendSeq_in F (m - 1) h35 hro (by omega) gf lb hgf eg xs hN _ hseq).mono ?_; rintro e w' ⟨v, rfl, hr, hnil, hB⟩)
  go_ret
  exact ⟨v, rfl, hr, hnil, hB⟩
theorem collect_calls (gf : Nat) (lb : Array Value) (eg : ∀ args w, (callFunc gf args).run Try.prog w = .ok (.enter gf args) w)
    (xs : List ByteArray) (hN : xs.length ≤ 100000000) (w : World) (hseq : SeqStopsK Fence.wide 6 Try.prog gf lb (fun x : ByteArray => #[sv x]) (Below w.heap.size) (fun ys => ys = xs) (fun pre => pre <+: xs) xs.length w) :
    Calls Try.prog 41 #[.func (.func gf) #[] lb] w (CollPost xs w) :=
  (callsIn_wide (n := 8)).1 (collect_in Fence.wide 8 trivial trivial rfl (by omega) gf lb trivial eg xs hN w hseq)
end CS
end Go.Proofs.Ytchhfhldpkaadaa
