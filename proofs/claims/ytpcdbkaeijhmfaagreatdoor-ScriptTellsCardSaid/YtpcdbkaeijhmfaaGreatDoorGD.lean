/- Texts that are handed over. slices.Collect at []string (one cell), over an iterator that turns block b. -/
import Derived.RangeFuncBound
import Derived.RangeFuncLeaves
import Derived.RangeFuncFrom
import Derived.RangeFuncBox
import Derived.Maps.AppendAt
import Derived.Shelf.Abstract
import Derived.Shelf.RegionOpen
import Derived.OwnWalkIn
import Derived.TacticsInMore
import Derived.LoopNIn
import Derived.LoopIn
import Derived.Test.YtpcdbkaeijhmfaaGreatDoorHPn
import Derived.Test.YtpcdbkaeijhmfaaGreatDoorGA
namespace Go.Proofs.YtpcdbkaeijhmfaaGreatDoor
set_option maxRecDepth 100000
set_option linter.unusedVariables false
set_option linter.unusedSimpArgs false
open Go.RowKit
def sEnc (x : By) : Value := .string (ba x)
def sCells (x : By) : List Value := [.string (ba x)]
def sGood (_ : Nat) (_ : By) (_ : World) : Prop := True
theorem sGood_own {B : Nat} (x : By) (X Y : World) (row : Option Nat) (_h : sGood B x X) (_hg : X.grownBy Y row) (_hr : ∀ r, row = some r → ∃ o : Obj, X.heap[r]? = some o ∧ o.isCells = false) : sGood B x Y := trivial
theorem sGood_frm {B : Nat} {K : Nat → Prop} (x : By) {X Y : World} (_h : sGood B x X) (_hF : Frm K X Y) (_hk : ∀ q, B ≤ q → ¬ K q) : sGood B x Y := trivial
theorem sGood_typed {B : Nat} {K : Nat → Prop} (x : By) {X Y : World} (_h : sGood B x X) (_hF : Frm K X Y) (_hk : ∀ q, K q → ∃ cs ty fr, X.heap[q]? = some (.cells cs ty fr) ∧ ty ≠ 5) : sGood B x Y := trivial
end Go.Proofs.YtpcdbkaeijhmfaaGreatDoor
namespace Go.Proofs.YtpcdbkaeijhmfaaGreatDoor
set_option maxRecDepth 100000
set_option linter.unusedVariables false
set_option linter.unusedSimpArgs false
open Go.RowKit Go.Shelf
namespace WS
attribute [local go_sem] Oper.semAt_some
theorem cells_new (w : World) (cs : List Value) (t : TypeId) : ∀ j u, cs[j]? = some u → (w.alloc (.cells cs.toArray t)).cell? ((⟨w.heap.size, 0, none⟩ : Addr).add j) = some u := by
  intro j u h
  have := cell_of_row (w.alloc (.cells cs.toArray t)) w.heap.size j cs.toArray t (0, 0) (heap_alloc_new w _)
  have e : (⟨w.heap.size, 0, none⟩ : Addr).add j = ⟨w.heap.size, j, none⟩ := by cases j <;> simp [Addr.add]
  rw [e]
  exact this.trans (by simpa using h)
theorem infoI : (Tryz.prog.info? 9).map (fun i => (i.zero, i.size, i.bytes)) = some (some (.string ByteArray.empty), 1, 16) := by kernel_rfl
def cellsOf (xs : List By) : List Value := xs.flatMap sCells
def CollPost (b : Nat) (S : List By → Prop) (w : World) (e : Ending) (w' : World) : Prop :=
  ∃ v xs, e = .returned v ∧ S xs ∧ w'.ownsRow w.heap.size 9 1 v xs.length (cellsOf xs) ∧ (∀ x ∈ xs, sGood w.heap.size x w') ∧ Frm (fun k => k = b) w w'
/-- What the loop keeps: the box's row, the elements' own memory, and all that lay before. -/
def CI (b : Nat) (w : World) (pre : List By) (W : World) : Prop :=
  (∃ v, Boxed W w.heap.size 46 v ∧ W.ownsRow w.heap.size 9 1 v pre.length (cellsOf pre)) ∧ (∀ x ∈ pre, sGood w.heap.size x W) ∧ Frm (fun k => k = b) w W
theorem CI.own {b : Nat} {w : World} {B : Nat} (hB : w.heap.size ≤ B) : OwnFrom B (CI b w) := by
  rintro s X Y row ⟨⟨v, hv, hr⟩, hg, hF⟩ hgr hrow
  have h1 := holdsRow_own w.heap.size w.heap.size 46 9 1 List.length cellsOf (fun _ _ => True) s X Y row ⟨v, hv, hr, trivial⟩ hgr (fun r e => (hrow r e).2)
  obtain ⟨v', hv', hr', _⟩ := h1
  exact ⟨⟨v', hv', hr'⟩, fun x hx => sGood_own x _ _ _ (hg x hx) hgr (fun r e => (hrow r e).2), hF.grown hgr fun k hk => .inr (Nat.le_trans hB (hrow k hk).1)⟩
theorem CI.step {b : Nat} {w : World} (hb : b < w.heap.size) (s : List By) (X Y : World) (h : CI b w s X) (hk : Frm (fun q => q = b) X Y) : CI b w s Y := by
  obtain ⟨⟨v, hv, hr⟩, hg, hF⟩ := h
  exact ⟨⟨v, (hk.block _ (Array.getElem?_eq_some_iff.1 hv).1 (by show ¬ w.heap.size = b; omega)).trans hv, hk.own hr fun q hq => by have := (hr.lt q hq).1; show ¬ q = b; omega⟩, fun x hx => sGood_frm x (hg x hx) hk (fun q hq => by show ¬ q = b; omega), hF.trans' hk⟩
/-- The loop variable lies in a slot. -/
def Ax (w : World) (x : By) (a' : Act) (_ : World) : Prop :=
  ∃ f lb, a' = { tmps := #[.slice none 0 0, .func f #[] lb, .pointer (some ⟨w.heap.size, 0, none⟩), undef, .slice none 0 0, sEnc x, .func f #[] lb, sEnc x, undef, undef, undef, undef, undef], defers := [] }
theorem Ax.own {w : World} {B : Nat} (x : By) (a' : Act) : OwnFrom B (fun (_ : Unit) => Ax w x a') := by
  rintro s X Y row ⟨f, lb, rfl⟩ hg hr
  exact ⟨f, lb, rfl⟩
theorem coll_fin {F : Fence} {m D b : Nat} {S : List By → Prop} {xs : List By} {w W : World} {t : Array Value} {v : Value} (hS : S xs) (hv : Boxed W w.heap.size 46 v) (hr : W.ownsRow w.heap.size 9 1 v xs.length (cellsOf xs)) (hg : ∀ x ∈ xs, sGood w.heap.size x W) (hF : Frm (fun k => k = b) w W)
    (hK : W.heap[D]? = some (.deferred (some []))) (hD : w.heap.size ≤ D) (ht : t.getD 4 undef = v) :
    bodyPostM F m Tryz.prog Tryz.f65 (CollPost b S w) Exit.normal { tmps := t, defers := [{ target := .collected D, args := #[] }] } W := by
  refine ⟨by simp, .inl ⟨_, _, rfl, run_takeDeferred hK, ?_⟩⟩
  exact ⟨v, by rw [results_tmp (t := 4) rfl, ht], _, xs, rfl, hS, ownsRow_putObj hr _ hK rfl, fun x hx => sGood_own x _ _ _ (hg x hx) (grownBy_putObj' W D _) (fun r e => by cases e; exact ⟨_, hK, rfl⟩), hF.putObj (.inr hD) _⟩
set_option maxRecDepth 100000 in
set_option maxHeartbeats 2000000 in
theorem appendSeq_in (F : Fence) (m : Nat) (h35 : F.fn 65) (hro : F.round = none) (hn : 3 ≤ m) (gf : Nat) (lb : Array Value) (hgf : F.fn gf) (eg : ∀ args w, (callFunc gf args).run Tryz.prog w = .ok (.enter gf args) w)
    (b N : Nat) (hN : N ≤ 1000000) (S : List By → Prop) (w : World) (hb : b < w.heap.size) (hseq : SeqW F (m - 1) Tryz.prog gf lb (fun x : By => #[sEnc x]) (fun X Y => Frm (fun q => q = b) X Y) (fun X Y => Frm (fun q => w.heap.size ≤ q) X Y) (sGood w.heap.size) S N w) :
    CallsIn F m Tryz.prog 65 #[.slice none 0 0, .func (.func gf) #[] lb] w (CollPost b S w) := by
  have h1 : 1 ≤ m := by omega
  obtain ⟨i0, hi, hz0, hz1, hz2⟩ := info_parts infoI
  refine callsIn_of_wp_marks Tryz.func65 rfl h35 ?_ hro
  simp only [Tryz.ntmps65, List.size_toArray, List.length_cons, List.length_nil, Nat.reduceAdd, Nat.reduceSub, Array.replicate_succ, Array.replicate_zero, List.push_toArray, List.append_toArray, List.nil_append, List.cons_append]
  have Hseq := Lib.hid hseq
  clear hseq
  gi_wp2
  have hb0 : Frm (fun _ => False) w (w.alloc (.cells #[.slice none 0 0] 46)) := (Frm.refl _ _).alloc _
  have hbx : Boxed (w.alloc (.cells #[.slice none 0 0] 46)) w.heap.size 46 (.slice none 0 0) := Boxed.new _ _ _
  have hsz : (w.alloc (.cells #[.slice none 0 0] 46)).heap.size = w.heap.size + 1 := by simp
  have hb2 : b < w.heap.size + 1 := by omega
  generalize hW0 : w.alloc (.cells #[.slice none 0 0] 46) = W0 at *
  have HB := Lib.hid hb
  refine wpIn_range_w hro h1 (gf := gf) (lb := lb) rfl hgf eg Hseq.out hb0 (fun _ => rfl) (fun X Y hr => ?keeps) (fun h k => h.trans' k) (fun W o => (Frm.refl _ W).putObj (.inl (by show w.heap.size ≤ W0.heap.size + 1; omega)) o)
    (CI b w) (fun s X Y h hk => h.step HB.out s X Y hk) (CI.own (by omega)) (fun x => fun _ X Y row h hg hr => sGood_own x X Y row h hg fun r e => (hr r e).2) ⟨⟨_, hbx, World.ownsRow_nil _ _ _ _⟩, by simp, hb0.mono fun _ h => h.elim⟩
    (Ax w) (fun x a' => Ax.own x a') ?assign ?body ?done
  case keeps => exact ⟨hr.size, fun k o hk ho _ => (hr.block k (Array.getElem?_eq_some_iff.1 ho).1 (by show ¬ k = b; omega)).trans ho⟩
  case assign =>
    intro l pre x W K hI hG hK
    skip
    simp only [sEnc] at hK ⊢
    have hl : w.heap.size ≤ W.heap.size := hI.2.2.size
    have HI := Lib.hid (And.intro hI hG)
    clear hI hG
    gi_wp2
    exact hK _ _ ⟨Nat.le_refl _, fun _ _ _ h _ => h⟩ (Frm.refl _ W) HI.out.1 HI.out.2 ⟨_, _, rfl⟩
  case body =>
    rintro l pre x a' W hI hG ⟨f, lb', rfl⟩ hl
    skip
    obtain ⟨⟨v, hv, hr⟩, hgs, hF⟩ := hI
    have hc := hv.cell
    have hf := hv.frozen
    have Hl := Lib.hid hl
    have HI := Lib.hid (And.intro hgs (And.intro hF (And.intro hG (And.intro hv hr))))
    clear hl hgs hF hG
    simp only [sEnc]
    gi_wp2_with (gi_at_builtin; refine wpListIn_append_own _ rfl _ _ 46 rfl w.heap.size 9 i0 (.string ByteArray.empty) 1 16 Tryz.underlying46 hi hz0 hz1 hz2 rfl (by decide) _ _ _ rfl (hr.alloc _) ⟨W.heap.size, 0, none⟩ 1 1 (sCells x) rfl rfl (cells_new _ _ _) (by intro u hu; simp only [sCells, List.mem_cons, List.not_mem_nil, or_false] at hu; rcases hu with rfl <;> rfl) (by unfold maxLen; have := Hl.out; omega) (by have := Hl.out; omega) (by have := HI.out.2.1.size; simp; omega) ?_; intro v' w1 hown' hgrow _; obtain ⟨g', cap', rfl⟩ := ownsRow_succ hown'; obtain ⟨hv1, hv2, hr2, hk2, hb2⟩ := hv.appended (by decide) hr HI.out.2.1.size (Nat.le_refl _) hown' hgrow; have hc1 := hv1.cell; have hf1 := hv1.frozen)
    have hK : Frm (fun q => q = w.heap.size ∨ v.ownBlock = some q) W (w1.setCell ⟨w.heap.size, 0, none⟩ (.slice (some ⟨g', 0, none⟩) (pre.length + 1) cap')) :=
      (((Frm.refl _ W).alloc _).grown hgrow fun k hk => .inl (.inr hk)).setCell ⟨w.heap.size, 0, none⟩ (.inl (.inl rfl)) _
    have hty : ∀ q, q = w.heap.size ∨ v.ownBlock = some q → ∃ cs ty fr, W.heap[q]? = some (.cells cs ty fr) ∧ ty ≠ 5 := by
      rintro q (rfl | hq)
      · exact ⟨_, _, _, HI.out.2.2.2.1, by decide⟩
      · rcases HI.out.2.2.2.2.2 with ⟨rfl, _⟩ | ⟨g, cap, cur, rfl, _, hgb, _⟩
        · cases hq
        · cases hq; exact ⟨_, _, _, hgb, by decide⟩
    have hlo : ∀ q, q = w.heap.size ∨ v.ownBlock = some q → w.heap.size ≤ q := by
      rintro q (rfl | hq)
      · exact Nat.le_refl _
      · exact (HI.out.2.2.2.2.lt q hq).1
    refine ⟨hk2.from _, hK.mono fun q hq => .inl (hlo q hq), ⟨_, hv2, by simpa [cellsOf] using hr2⟩, fun y hy => ?_, HI.out.2.1.trans hK fun q hq => .inr (hlo q hq)⟩
    rcases List.mem_append.1 hy with hy | hy
    · exact sGood_typed y (HI.out.1 y hy) hK hty
    · obtain rfl := List.mem_singleton.1 hy
      exact sGood_typed _ HI.out.2.2.1 hK hty
  case done =>
    rintro D ys W hD hS ⟨⟨v, hv, hr⟩, hg, hF⟩ hK
    have hc := hv.cell
    have HH := Lib.hid (And.intro hS (And.intro hg hF))
    clear hS hg hF
    gi_wp2
    exact coll_fin HH.out.1 hv hr HH.out.2.1 HH.out.2.2 hK (by omega) rfl
theorem collect_in (F : Fence) (m : Nat) (h30 : F.fn 41) (h35 : F.fn 65) (hro : F.round = none) (hn : 4 ≤ m) (gf : Nat) (lb : Array Value) (hgf : F.fn gf) (eg : ∀ args w, (callFunc gf args).run Tryz.prog w = .ok (.enter gf args) w)
    (b N : Nat) (hN : N ≤ 1000000) (S : List By → Prop) (w : World) (hb : b < w.heap.size) (hseq : SeqW F (m - 1 - 1) Tryz.prog gf lb (fun x : By => #[sEnc x]) (fun X Y => Frm (fun q => q = b) X Y) (fun X Y => Frm (fun q => w.heap.size ≤ q) X Y) (sGood w.heap.size) S N w) :
    CallsIn F m Tryz.prog 41 #[.func (.func gf) #[] lb] w (CollPost b S w) := by
  refine callsIn_of_wp Tryz.func41 rfl h30 ?_ hro
  simp only [Tryz.ntmps41, List.size_toArray, List.length_cons, List.length_nil, Nat.reduceAdd, Nat.reduceSub, Array.replicate_succ, Array.replicate_zero, List.push_toArray, List.append_toArray, List.nil_append, List.cons_append]
  have h1 : 1 ≤ m := by omega
  have Hseq := Lib.hid hseq
  clear hseq
  gi_wp2_with (gi_at_call 65; refine (appendSeq_in F (m - 1) h35 hro (by omega) gf lb hgf eg b N hN S _ hb Hseq.out).mono ?_; rintro e w' ⟨v, xs, rfl, h2, hr, h3, h4⟩; have HH := Lib.hid (And.intro h2 (And.intro hr (And.intro h3 h4))); clear h2 hr h3 h4)
  go_ret
  exact ⟨v, xs, rfl, HH.out⟩
theorem collect_calls (gf : Nat) (lb : Array Value) (eg : ∀ args w, (callFunc gf args).run Tryz.prog w = .ok (.enter gf args) w)
    (b N : Nat) (hN : N ≤ 1000000) (S : List By → Prop) (w : World) (hb : b < w.heap.size) (hseq : SeqW Fence.wide 6 Tryz.prog gf lb (fun x : By => #[sEnc x]) (fun X Y => Frm (fun q => q = b) X Y) (fun X Y => Frm (fun q => w.heap.size ≤ q) X Y) (sGood w.heap.size) S N w) :
    Calls Tryz.prog 41 #[.func (.func gf) #[] lb] w (CollPost b S w) :=
  (callsIn_wide (n := 8)).1 (collect_in Fence.wide 8 trivial trivial rfl (by omega) gf lb trivial eg b N hN S w hb hseq)
end WS
end Go.Proofs.YtpcdbkaeijhmfaaGreatDoor
