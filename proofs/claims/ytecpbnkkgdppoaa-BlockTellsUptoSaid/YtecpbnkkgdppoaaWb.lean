/- slices.Collect at []api.Block (4 cells), over an iterator that turns old blocks (K0) and rows of type uint8, and hands over memory of its own. -/
import Derived.Test.YtecpbnkkgdppoaaRw
import Derived.RangeFuncBound
import Derived.RangeFuncLeaves
import Derived.RangeFuncFrom
import Derived.RangeFuncBox
import Derived.Maps.AppendAt
import Derived.Shelf.Abstract
import Derived.Shelf.RegionOpen
import Derived.OwnWalkIn
import Derived.TacticsInMore
import Derived.LoopNIn
import Derived.LoopIn
import Derived.Test.YtecpbnkkgdppoaaBk
namespace Go.Proofs.Ytecpbnkkgdppoaa
open Go.RowKit Go.Shelf
namespace WB
attribute [local go_sem] Oper.semAt_some
theorem cells_new (w : World) (cs : List Value) (t : TypeId) : ∀ j u, cs[j]? = some u → (w.alloc (.cells cs.toArray t)).cell? ((⟨w.heap.size, 0, none⟩ : Addr).add j) = some u := by
  intro j u h
  have := cell_of_row (w.alloc (.cells cs.toArray t)) w.heap.size j cs.toArray t (0, 0) (heap_alloc_new w _)
  have e : (⟨w.heap.size, 0, none⟩ : Addr).add j = ⟨w.heap.size, j, none⟩ := by cases j <;> simp [Addr.add]
  rw [e]
  exact this.trans (by simpa using h)
theorem infoI : (Try.prog.info? 40).map (fun i => (i.zero, i.size, i.bytes)) = some (some (.agg #[.int .i64 0, .int .i64 0, .int .i64 0, .slice none 0 0]), 4, 48) := by kernel_rfl
def cellsOf (xs : List Bk) : List Value := xs.flatMap bCells
def CollPost (K0 : Nat → Prop) (S : List Bk → World → Prop) (G : Bk → World → Prop) (w : World) (e : Ending) (w' : World) : Prop :=
  ∃ v xs, e = .returned v ∧ S xs w' ∧ w'.ownsRow w.heap.size 40 4 v xs.length (cellsOf xs) ∧ (∀ x ∈ xs, G x w') ∧ Frm K0 w w'
/-- What the loop keeps: the box's row, the elements' own memory, and all that lay before. -/
def CI (K0 : Nat → Prop) (G : Bk → World → Prop) (w : World) (pre : List Bk) (W : World) : Prop :=
  (∃ v, Boxed W w.heap.size 24 v ∧ W.ownsRow w.heap.size 40 4 v pre.length (cellsOf pre)) ∧ (∀ x ∈ pre, G x W) ∧ Frm K0 w W
theorem CI.own {K0 : Nat → Prop} {G : Bk → World → Prop} {w : World} {B : Nat} (hB : w.heap.size ≤ B) (hGs : Stays w.heap.size 5 G) : OwnFrom B (CI K0 G w) := by
  rintro s X Y row ⟨⟨v, hv, hr⟩, hg, hF⟩ hgr hrow
  have h1 := holdsRow_own w.heap.size w.heap.size 24 40 4 List.length cellsOf (fun _ _ => True) s X Y row ⟨v, hv, hr, trivial⟩ hgr (fun r e => (hrow r e).2)
  obtain ⟨v', hv', hr', _⟩ := h1
  exact ⟨⟨v', hv', hr'⟩, fun x hx => hGs.own hB x X Y row (hg x hx) hgr hrow, hF.grown hgr fun k hk => .inr (Nat.le_trans hB (hrow k hk).1)⟩
theorem CI.step {K0 : Nat → Prop} {G : Bk → World → Prop} {w : World} (hK0 : ∀ q, K0 q → q < w.heap.size) (s : List Bk) (X Y : World) (h : CI K0 G w s X) (hk : RW K0 w.heap.size 5 X Y) (hGR : ∀ x, G x X → G x Y) : CI K0 G w s Y := by
  obtain ⟨⟨v, hv, hr⟩, hg, hF⟩ := h
  exact ⟨⟨v, hk.blk (t' := 24) hv (by decide) fun hq => Nat.lt_irrefl _ (hK0 _ hq), hk.own hr (by decide) fun q hq hq2 => by have := hK0 _ hq2; omega⟩, fun x hx => hGR x (hg x hx), hF.trans hk fun q hq => hq.imp id fun h => h.1⟩
/-- The loop variable lies in a block of its own. -/
def Ax (w : World) (x : Bk) (a' : Act) (W : World) : Prop :=
  ∃ q f lb, a' = { tmps := #[.slice none 0 0, .func f #[] lb, .pointer (some ⟨w.heap.size, 0, none⟩), undef, .slice none 0 0, .pointer (some ⟨q, 0, none⟩), .func f #[] lb, bEnc x, undef, undef, undef, undef, undef], defers := [] } ∧ Blk W q 40 (bCells x).toArray
theorem Ax.own {w : World} {B : Nat} (x : Bk) (a' : Act) : OwnFrom B (fun (_ : Unit) => Ax w x a') := by
  rintro s X Y row ⟨q, f, lb, rfl, hq⟩ hg hr
  exact ⟨q, f, lb, rfl, (hg.block q hq.lt fun e => by obtain ⟨o, ho, hc⟩ := (hr q e.symm).2; rw [show X.heap[q]? = _ from hq] at ho; cases ho; cases hc).trans hq⟩
theorem coll_fin {F : Fence} {m D : Nat} {K0 : Nat → Prop} {S : List Bk → World → Prop} {G : Bk → World → Prop} {xs : List Bk} {w W : World} {t : Array Value} {v : Value} (hSs : Stays w.heap.size 5 S) (hGs : Stays w.heap.size 5 G) (hS : S xs W) (hr : W.ownsRow w.heap.size 40 4 v xs.length (cellsOf xs)) (hg : ∀ x ∈ xs, G x W) (hF : Frm K0 w W)
    (hK : W.heap[D]? = some (.deferred (some []))) (hD : w.heap.size ≤ D) (ht : t.getD 4 undef = v) :
    bodyPostM F m Try.prog Try.f39 (CollPost K0 S G w) Exit.normal { tmps := t, defers := [{ target := .collected D, args := #[] }] } W := by
  refine ⟨by simp, .inl ⟨_, _, rfl, run_takeDeferred hK, ?_⟩⟩
  exact ⟨v, by rw [results_tmp (t := 4) rfl, ht], _, xs, rfl, (hSs.own (Nat.le_refl _)).putObj _ hS hD hK rfl, ownsRow_putObj hr _ hK rfl, fun x hx => (hGs.own (Nat.le_refl _)).putObj _ (hg x hx) hD hK rfl, hF.putObj (.inr hD) _⟩
set_option maxRecDepth 100000 in
set_option maxHeartbeats 2000000 in
theorem appendSeq_in (F : Fence) (m : Nat) (h35 : F.fn 39) (hro : F.round = none) (hn : 3 ≤ m) (gf : Nat) (lb : Array Value) (hgf : F.fn gf) (eg : ∀ args w, (callFunc gf args).run Try.prog w = .ok (.enter gf args) w)
    (N : Nat) (hN : N ≤ 1000000) (S : List Bk → World → Prop) (G : Bk → World → Prop) (K0 : Nat → Prop) (R : World → World → Prop) (w : World) (hK0 : ∀ q, K0 q → q < w.heap.size) (hR : ∀ X Y, R X Y → RW K0 w.heap.size 5 X Y) (hGR : ∀ x X Y, G x X → R X Y → G x Y) (hSs : Stays w.heap.size 5 S) (hGs : Stays w.heap.size 5 G) (hFm : ∀ (x : Bk) (W : World), G x W → ∃ A n c, x.v = .slice A n c) (hseq : SeqS F (m - 1) Try.prog gf lb (fun x : Bk => #[bEnc x]) R (KpW w.heap.size 5) G S N w) :
    CallsIn F m Try.prog 39 #[.slice none 0 0, .func (.func gf) #[] lb] w (CollPost K0 S G w) := by
  have h1 : 1 ≤ m := by omega
  obtain ⟨i0, hi, hz0, hz1, hz2⟩ := info_parts infoI
  refine callsIn_of_wp_marks Try.func39 rfl h35 ?_ hro
  simp only [Try.ntmps39, List.size_toArray, List.length_cons, List.length_nil, Nat.reduceAdd, Nat.reduceSub, Array.replicate_succ, Array.replicate_zero, List.push_toArray, List.append_toArray, List.nil_append, List.cons_append]
  have Hseq := Lib.hid hseq
  clear hseq
  gi_wp2
  have hb0 : Frm (fun _ => False) w (w.alloc (.cells #[.slice none 0 0] 24)) := (Frm.refl _ _).alloc _
  have hbx : Boxed (w.alloc (.cells #[.slice none 0 0] 24)) w.heap.size 24 (.slice none 0 0) := Boxed.new _ _ _
  have hsz : (w.alloc (.cells #[.slice none 0 0] 24)).heap.size = w.heap.size + 1 := by simp
  generalize hW0 : w.alloc (.cells #[.slice none 0 0] 24) = W0 at *
  have HFm := Lib.hid hFm
  have HB := Lib.hid (And.intro hK0 (And.intro hR (And.intro hGR (And.intro hSs hGs))))
  clear hK0 hR hGR hSs hGs hFm
  refine wpIn_range_s hro h1 (gf := gf) (lb := lb) rfl hgf eg Hseq.out hb0 (fun _ => rfl) (fun X Y hr => (HB.out.2.1 X Y hr).keeps fun q hq hk => by have := HB.out.1 q hk; omega) (fun h k => h.trans k) (fun W o o' ho hc => KpW.of ((Frm.refl (fun q => q = W0.heap.size + 1) W).putObj (.inl rfl) o) (by rintro q rfl; exact ⟨by omega, Typed.not_obj ho hc⟩))
    (CI K0 G w) (fun s X Y h hk => h.step HB.out.1 s X Y (HB.out.2.1 X Y hk) fun x hx => HB.out.2.2.1 x X Y hx hk) (CI.own (by omega) HB.out.2.2.2.2) (HB.out.2.2.2.1.own (by omega)) (fun x => fun _ X Y row h hg hr => HB.out.2.2.2.2.own (by omega) x X Y row h hg hr) ⟨⟨_, hbx, World.ownsRow_nil _ _ _ _⟩, by simp, hb0.mono fun _ h => h.elim⟩
    (Ax w) (fun x a' => Ax.own x a') ?assign ?body ?done
  case assign =>
    intro l pre x W K hI hG hK
    obtain ⟨vx, cx⟩ := x
    obtain ⟨n1, n2, n3, dx⟩ := cx
    have hform : ∃ A n c, vx = .slice A n c := HFm.out _ _ hG
    obtain ⟨Ax0, nx0, cx0, rfl⟩ := hform
    simp only [bEnc] at hK ⊢
    have hl : w.heap.size ≤ W.heap.size := hI.2.2.size
    have HI := Lib.hid (And.intro hI hG)
    clear hI hG
    gi_wp2
    refine hK _ _ ?_ ?_ ?_ ?_ ⟨W.heap.size, _, _, rfl, ?_⟩
    · exact ⟨by simp, fun k o _ hk _ => (Below.heap_alloc W _ k (Array.getElem?_eq_some_iff.1 hk).1).trans hk⟩
    · exact KpW.of ((Frm.refl (fun _ => False) W).alloc _) fun _ h => h.elim
    · exact CI.own (Nat.le_refl _) HB.out.2.2.2.2 _ _ _ none HI.out.1 (World.grownBy_alloc W _ none) (fun r e => by cases e)
    · exact HB.out.2.2.2.2 _ _ _ HI.out.2 (KpW.of ((Frm.refl (fun _ => False) W).alloc _) fun _ h => h.elim)
    · exact Blk.new W _ _
  case body =>
    rintro l pre x a' W hI hG ⟨q, f, lb', rfl, hq⟩ hl
    obtain ⟨vx, cx⟩ := x
    obtain ⟨n1, n2, n3, dx⟩ := cx
    have hform : ∃ A n c, vx = .slice A n c := HFm.out _ _ hG
    obtain ⟨Ax0, nx0, cx0, rfl⟩ := hform
    obtain ⟨⟨v, hv, hr⟩, hgs, hF⟩ := hI
    have hc := hv.cell
    have hf := hv.frozen
    have d0 : W.cell? ⟨q, 0, none⟩ = some (.int .i64 n1) := hq.cell 0
    have d1 : W.cell? ⟨q, 1, none⟩ = some (.int .i64 n2) := hq.cell 1
    have d2 : W.cell? ⟨q, 2, none⟩ = some (.int .i64 n3) := hq.cell 2
    have d3 : W.cell? ⟨q, 3, none⟩ = some (.slice Ax0 nx0 cx0) := hq.cell 3
    have Hl := Lib.hid hl
    have HI := Lib.hid (And.intro hgs (And.intro hF (And.intro hG (And.intro hv hr))))
    clear hl hgs hF hG hq
    simp only [bEnc]
    gi_wp2_with (gi_at_builtin; refine wpListIn_append_own _ rfl _ _ 24 rfl w.heap.size 40 i0 (.agg #[.int .i64 0, .int .i64 0, .int .i64 0, .slice none 0 0]) 4 48 Try.underlying24 hi hz0 hz1 hz2 rfl (by decide) _ _ _ rfl (hr.alloc _) ⟨W.heap.size, 0, none⟩ 1 1 (bCells ⟨.slice Ax0 nx0 cx0, ⟨n1, n2, n3, dx⟩⟩) rfl rfl (cells_new _ _ _) (by intro u hu; simp only [bCells, List.mem_cons, List.not_mem_nil, or_false] at hu; rcases hu with rfl | rfl | rfl | rfl <;> rfl) (by unfold maxLen; have := Hl.out; omega) (by have := Hl.out; omega) (by have := HI.out.2.1.size; simp; omega) ?_; intro v' w1 hown' hgrow _; obtain ⟨g', cap', rfl⟩ := ownsRow_succ hown'; obtain ⟨hv1, hv2, hr2, hk2, hb2⟩ := hv.appended (by decide) hr HI.out.2.1.size (Nat.le_refl _) hown' hgrow; have hc1 := hv1.cell; have hf1 := hv1.frozen)
    have hK : Frm (fun q => q = w.heap.size ∨ v.ownBlock = some q) W (w1.setCell ⟨w.heap.size, 0, none⟩ (.slice (some ⟨g', 0, none⟩) (pre.length + 1) cap')) :=
      (((Frm.refl _ W).alloc _).grown hgrow fun k hk => .inl (.inr hk)).setCell ⟨w.heap.size, 0, none⟩ (.inl (.inl rfl)) _
    have hty : ∀ q, q = w.heap.size ∨ v.ownBlock = some q → ∃ cs ty fr, W.heap[q]? = some (.cells cs ty fr) ∧ ty ≠ 5 := by
      rintro q (rfl | hq)
      · exact ⟨_, _, _, HI.out.2.2.2.1, by decide⟩
      · rcases HI.out.2.2.2.2.2 with ⟨rfl, _⟩ | ⟨g, cap, cur, rfl, _, hgb, _⟩
        · cases hq
        · cases hq; exact ⟨_, _, _, hgb, by decide⟩
    have hlo : ∀ q, q = w.heap.size ∨ v.ownBlock = some q → w.heap.size ≤ q := by
      rintro q (rfl | hq)
      · exact Nat.le_refl _
      · exact (HI.out.2.2.2.2.lt q hq).1
    have hKp : KpW w.heap.size 5 W (w1.setCell ⟨w.heap.size, 0, none⟩ (.slice (some ⟨g', 0, none⟩) (pre.length + 1) cap')) := KpW.of hK fun q hq => ⟨hlo q hq, by obtain ⟨cs, ty, fr, ho, hne⟩ := hty q hq; exact Typed.not ho hne⟩
    refine ⟨hk2.from _, hKp, ⟨_, hv2, by simpa [cellsOf] using hr2⟩, fun y hy => ?_, HI.out.2.1.trans hK fun q hq => .inr (hlo q hq)⟩
    rcases List.mem_append.1 hy with hy | hy
    · exact HB.out.2.2.2.2 y _ _ (HI.out.1 y hy) hKp
    · obtain rfl := List.mem_singleton.1 hy
      exact HB.out.2.2.2.2 _ _ _ HI.out.2.2.1 hKp
  case done =>
    rintro D ys W hD hS ⟨⟨v, hv, hr⟩, hg, hF⟩ hK
    have hc := hv.cell
    have HH := Lib.hid (And.intro hS (And.intro hg hF))
    clear hS hg hF
    gi_wp2
    exact coll_fin HB.out.2.2.2.1 HB.out.2.2.2.2 HH.out.1 hr HH.out.2.1 HH.out.2.2 hK (by omega) rfl
theorem collect_in (F : Fence) (m : Nat) (h30 : F.fn 30) (h35 : F.fn 39) (hro : F.round = none) (hn : 4 ≤ m) (gf : Nat) (lb : Array Value) (hgf : F.fn gf) (eg : ∀ args w, (callFunc gf args).run Try.prog w = .ok (.enter gf args) w)
    (N : Nat) (hN : N ≤ 1000000) (S : List Bk → World → Prop) (G : Bk → World → Prop) (K0 : Nat → Prop) (R : World → World → Prop) (w : World) (hK0 : ∀ q, K0 q → q < w.heap.size) (hR : ∀ X Y, R X Y → RW K0 w.heap.size 5 X Y) (hGR : ∀ x X Y, G x X → R X Y → G x Y) (hSs : Stays w.heap.size 5 S) (hGs : Stays w.heap.size 5 G) (hFm : ∀ (x : Bk) (W : World), G x W → ∃ A n c, x.v = .slice A n c) (hseq : SeqS F (m - 1 - 1) Try.prog gf lb (fun x : Bk => #[bEnc x]) R (KpW w.heap.size 5) G S N w) :
    CallsIn F m Try.prog 30 #[.func (.func gf) #[] lb] w (CollPost K0 S G w) := by
  refine callsIn_of_wp Try.func30 rfl h30 ?_ hro
  simp only [Try.ntmps30, List.size_toArray, List.length_cons, List.length_nil, Nat.reduceAdd, Nat.reduceSub, Array.replicate_succ, Array.replicate_zero, List.push_toArray, List.append_toArray, List.nil_append, List.cons_append]
  have h1 : 1 ≤ m := by omega
  have Hseq := Lib.hid hseq
  have HFm := Lib.hid hFm
  have HB := Lib.hid (And.intro hK0 (And.intro hR (And.intro hGR (And.intro hSs hGs))))
  clear hseq hK0 hR hGR hSs hGs hFm
  gi_wp2_with (gi_at_call 39; refine (appendSeq_in F (m - 1) h35 hro (by omega) gf lb hgf eg N hN S G K0 R _ HB.out.1 HB.out.2.1 HB.out.2.2.1 HB.out.2.2.2.1 HB.out.2.2.2.2 HFm.out Hseq.out).mono ?_; rintro e w' ⟨v, xs, rfl, h2, hr, h3, h4⟩; have HH := Lib.hid (And.intro h2 (And.intro hr (And.intro h3 h4))); clear h2 hr h3 h4)
  go_ret
  exact ⟨v, xs, rfl, HH.out⟩
theorem collect_calls (gf : Nat) (lb : Array Value) (eg : ∀ args w, (callFunc gf args).run Try.prog w = .ok (.enter gf args) w)
    (N : Nat) (hN : N ≤ 1000000) (S : List Bk → World → Prop) (G : Bk → World → Prop) (K0 : Nat → Prop) (R : World → World → Prop) (w : World) (hK0 : ∀ q, K0 q → q < w.heap.size) (hR : ∀ X Y, R X Y → RW K0 w.heap.size 5 X Y) (hGR : ∀ x X Y, G x X → R X Y → G x Y) (hSs : Stays w.heap.size 5 S) (hGs : Stays w.heap.size 5 G) (hFm : ∀ (x : Bk) (W : World), G x W → ∃ A n c, x.v = .slice A n c) (hseq : SeqS Fence.wide 6 Try.prog gf lb (fun x : Bk => #[bEnc x]) R (KpW w.heap.size 5) G S N w) :
    Calls Try.prog 30 #[.func (.func gf) #[] lb] w (CollPost K0 S G w) :=
  (callsIn_wide (n := 8)).1 (collect_in Fence.wide 8 trivial trivial rfl (by omega) gf lb trivial eg N hN S G K0 R w hK0 hR hGR hSs hGs hFm hseq)
end WB
end Go.Proofs.Ytecpbnkkgdppoaa
