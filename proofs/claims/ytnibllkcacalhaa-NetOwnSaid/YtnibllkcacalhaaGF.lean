/- What a step writes. The iterator as a sequence; what is collected of it. The walks of net.Right, Ready, Over, Stuck. What a step that is done comes to: plain. Nets: what a step, a run, an end come to: plain. The walks of (*net.work).touch: who names that end of a pipe. The walk of net.Clean. The walks of net.Same. Nets whose steps may be swapped: plain. The walk of teaselref24.Same. -/
import Derived.Test.YtnibllkcacalhaaHOw
import Derived.Test.YtnibllkcacalhaaHRe
namespace Go.Proofs.Ytnibllkcacalhaa
set_option maxRecDepth 100000
open Go.RowKit
theorem ready_of {N : Nt} {k : Nat} (h : k ∈ readyNt N) : rightNt N = true ∧ ∃ c, N.cs[k]? = some c ∧ readyB c N.ps = true ∧ k < N.cs.length := by
  unfold readyNt at h
  split at h
  · rename_i hr
    rw [List.mem_filter, List.mem_range] at h
    refine ⟨hr, N.cs[k], List.getElem?_eq_getElem h.1, ?_, h.1⟩
    have h2 := h.2
    unfold readyAt at h2
    rw [List.getElem?_eq_getElem h.1] at h2
    exact h2
  · cases h
theorem right_sm {N : Nt} (h : rightNt N = true) : N.ps.length ≤ 8 ∧ N.cs.length ≤ 8 ∧ (∀ p ∈ N.ps, p.ins.length ≤ 16) ∧ ∀ c ∈ N.cs, c.row.length ≤ 64 := by
  simp only [rightNt, pipesB, Bool.and_eq_true, decide_eq_true_eq, List.all_eq_true] at h
  obtain ⟨⟨h1, h2⟩, h3, h4⟩ := h
  refine ⟨h2, h3, fun p hp => ?_, fun c hc => ?_⟩
  · have := h1 p hp
    simp only [pipeB, Bool.and_eq_true, decide_eq_true_eq] at this
    omega
  · have := h4 c hc
    simp only [rightB, headB, Bool.and_eq_true, decide_eq_true_eq] at this
    omega
theorem own_set {w : World} {base sz n cap g i : Nat} {e : TypeId} {xs : List Value} (h : w.ownsRow base e sz (.slice (some ⟨g, 0, none⟩) n cap) n xs) (u : Value) : (w.setCell ⟨g, i, none⟩ u).ownsRow base e sz (.slice (some ⟨g, 0, none⟩) n cap) n (xs.set i u) := by
  obtain ⟨h1, h2⟩ := h
  refine ⟨by simpa using h1, ?_⟩
  rcases h2 with ⟨he, -⟩ | ⟨g', cap', cur, he, hb, hh, hn, hm, hs, ht⟩
  · cases he
  · injection he with e1 e2 e3
    injection e1 with e1
    injection e1 with e1
    subst e1 e3
    refine .inr ⟨g, cap, cur.setIfInBounds i u, rfl, hb, Blk.set_ (show Blk w g e cur from hh) i u, hn, hm, by simpa using hs, ?_⟩
    rw [Array.toList_setIfInBounds, List.take_set, ht]
theorem flat_setC (l : List Ck) (k : Nat) (hk : k < l.length) (x : Ck) : (l.set k x).flatMap cCells = ((((l.flatMap cCells).set (k * 4) x.v).set (k * 4 + 1) (.int .i64 x.c.at_)).set (k * 4 + 2) (.int .u32 x.c.sum)).set (k * 4 + 3) (.int .i64 x.c.wrong) := by
  induction l generalizing k with
  | nil => simp at hk
  | cons y ys ih =>
    cases k with
    | zero => simp [cCells]
    | succ k =>
      have e : ∀ j (zs : List Value) (u : Value), (cCells y ++ zs).set ((k + 1) * 4 + j) u = cCells y ++ zs.set (k * 4 + j) u := fun j zs u => by
        rw [List.set_append_right _ _ (by simp [cCells]; omega)]
        congr 2
        simp [cCells]; omega
      rw [List.set_cons_succ, List.flatMap_cons, List.flatMap_cons, ih k (by simpa using hk)]
      have e0 := e 0
      simp only [Nat.add_zero] at e0
      rw [e0, e, e, e]
def CellsFrom (w : World) (B q : Nat) : Prop := B ≤ q ∧ UF w q
/-- What a step may write. -/
def NetK (w : World) (B q : Nat) : Prop := B ≤ q ∧ ∃ cs t, w.heap[q]? = some (.cells cs t (0, 0)) ∧ (t = 66 ∨ t = 46)
theorem NetK.cells {w : World} {B q : Nat} (h : NetK w B q) : CellsFrom w B q := by
  obtain ⟨h1, cs, t, h2, -⟩ := h
  exact ⟨h1, cs, t, h2⟩
theorem WA.step {w w2 : World} {B b g k L cc : Nat} {vp vr vp' : Value} {ps ps' : List Pk} {cks : List Ck} {c' : Ch} (h : WA w B b vp (.slice (some ⟨g, 0, none⟩) L cc) ps cks) (hL : L = cks.length) (hk : k < cks.length) (hF : Frm (fun _ => False) w w2)
    (hr : RAt w2 (fun q => w.heap.size ≤ q ∧ q < w2.heap.size ∧ UF w2 q) vr c'.row) (hp : PAt w2 (fun q => w.heap.size ≤ q ∧ q < w2.heap.size ∧ UF w2 q) vp' ps') :
    WAt (((((w2.setCell ⟨g, k * 4, none⟩ vr).setCell ⟨g, k * 4 + 1, none⟩ (.int .i64 c'.at_)).setCell ⟨g, k * 4 + 2, none⟩ (.int .u32 c'.sum)).setCell ⟨g, k * 4 + 3, none⟩ (.int .i64 c'.wrong)).setCell ⟨b, 0, none⟩ vp') B b ⟨ps'.map (·.p), (cks.map (·.c)).set k c'⟩ ∧
      Frm (NetK w B) w (((((w2.setCell ⟨g, k * 4, none⟩ vr).setCell ⟨g, k * 4 + 1, none⟩ (.int .i64 c'.at_)).setCell ⟨g, k * 4 + 2, none⟩ (.int .u32 c'.sum)).setCell ⟨g, k * 4 + 3, none⟩ (.int .i64 c'.wrong)).setCell ⟨b, 0, none⟩ vp') := by
  subst hL
  have hk2 := h.kept hF
  obtain ⟨h1, h2, h3, h4, h5⟩ := hk2
  have hgb : g ≠ b := fun e => own_blk_ne h3 h1 (by decide) (by rw [e]; rfl)
  have hgl := World.ownsRow.lt h.2.2.1 g rfl
  have hbl := h.1.lt
  have hFs : Frm (fun q => q = b ∨ (Value.slice (some ⟨g, 0, none⟩) cks.length cc).ownBlock = some q) w2 (((((w2.setCell ⟨g, k * 4, none⟩ vr).setCell ⟨g, k * 4 + 1, none⟩ (.int .i64 c'.at_)).setCell ⟨g, k * 4 + 2, none⟩ (.int .u32 c'.sum)).setCell ⟨g, k * 4 + 3, none⟩ (.int .i64 c'.wrong)).setCell ⟨b, 0, none⟩ vp') :=
    (((((Frm.refl _ w2).setCell ⟨g, k * 4, none⟩ (.inl (.inr rfl)) _).setCell ⟨g, k * 4 + 1, none⟩ (.inl (.inr rfl)) _).setCell ⟨g, k * 4 + 2, none⟩ (.inl (.inr rfl)) _).setCell ⟨g, k * 4 + 3, none⟩ (.inl (.inr rfl)) _).setCell ⟨b, 0, none⟩ (.inl (.inl rfl)) _
  have hb9 := ((((h1.far (p := ⟨g, k * 4, none⟩) (Ne.symm hgb) vr).far (p := ⟨g, k * 4 + 1, none⟩) (Ne.symm hgb) (.int .i64 c'.at_)).far (p := ⟨g, k * 4 + 2, none⟩) (Ne.symm hgb) (.int .u32 c'.sum)).far (p := ⟨g, k * 4 + 3, none⟩) (Ne.symm hgb) (.int .i64 c'.wrong)).set_ 0 vp'
  have ho9 := ownsRow_setCell_other (a := ⟨b, 0, none⟩) (own_set (i := k * 4 + 3) (own_set (i := k * 4 + 2) (own_set (i := k * 4 + 1) (own_set (i := k * 4) h3 vr) (.int .i64 c'.at_)) (.int .u32 c'.sum)) (.int .i64 c'.wrong)) (by intro e; injection e with e; exact hgb e) vp'
  rw [← flat_setC cks k hk ⟨vr, c'⟩] at ho9
  have hnew : ∀ q, (w.heap.size ≤ q ∧ q < w2.heap.size ∧ UF w2 q) → (((((w2.setCell ⟨g, k * 4, none⟩ vr).setCell ⟨g, k * 4 + 1, none⟩ (.int .i64 c'.at_)).setCell ⟨g, k * 4 + 2, none⟩ (.int .u32 c'.sum)).setCell ⟨g, k * 4 + 3, none⟩ (.int .i64 c'.wrong)).setCell ⟨b, 0, none⟩ vp').heap[q]? = w2.heap[q]? ∧ KP (((((w2.setCell ⟨g, k * 4, none⟩ vr).setCell ⟨g, k * 4 + 1, none⟩ (.int .i64 c'.at_)).setCell ⟨g, k * 4 + 2, none⟩ (.int .u32 c'.sum)).setCell ⟨g, k * 4 + 3, none⟩ (.int .i64 c'.wrong)).setCell ⟨b, 0, none⟩ vp') B b (.slice (some ⟨g, 0, none⟩) cks.length cc) q := fun q hq => by
    have hne : ¬ (q = b ∨ (Value.slice (some ⟨g, 0, none⟩) cks.length cc).ownBlock = some q) := by
      rintro (e | e)
      · omega
      · have e : g = q := by simpa [Value.ownBlock] using e
        omega
    exact ⟨hFs.block q hq.2.1 hne, by omega, Nat.lt_of_lt_of_le hq.2.1 hFs.size, fun e => hne (.inl e), fun e => hne (.inr e), hq.2.2.of (hFs.block q hq.2.1 hne)⟩
  have hold := fun q => KP.kept (B := B) (b := b) (v := .slice (some ⟨g, 0, none⟩) cks.length cc) (v' := .slice (some ⟨g, 0, none⟩) cks.length cc) hFs (.inl rfl) q
  refine ⟨⟨vp', .slice (some ⟨g, 0, none⟩) cks.length cc, ps', cks.set k ⟨vr, c'⟩, ⟨hb9, h2, by rw [List.length_set]; exact ho9, hp.keptTo hnew, fun z hz => ?_⟩, rfl, by rw [List.map_set]⟩, ((hF.mono (K' := NetK w B) fun q hq => hq.elim).trans hFs fun q hq => .inl ?_)⟩
  · rcases List.mem_or_eq_of_mem_set hz with hz | rfl
    · exact (h5 z hz).keptTo hold
    · exact hr.keptTo hnew
  · rcases hq with rfl | e
    · exact ⟨h2, _, _, h.1, .inl rfl⟩
    · have e : g = q := by simpa [Value.ownBlock] using e
      subst e
      obtain ⟨cs, hcs⟩ := own_blk h.2.2.1 g rfl
      exact ⟨by omega, _, _, hcs, .inr rfl⟩
end Go.Proofs.Ytnibllkcacalhaa
namespace Go.Proofs.Ytnibllkcacalhaa
set_option maxRecDepth 100000
open Go.RowKit Go.Shelf
theorem Frm.grw {A B : World} (h : Frm (fun _ => False) A B) : A.grownBy B none := ⟨h.os, h.tape, h.output, h.size, fun k hk _ => h.block k hk id⟩
theorem prefix_len {α : Type} {l m : List α} {x : α} (h : l ++ [x] <+: m) : l.length < m.length := by
  have := h.length_le
  simp at this; omega
/-- The next of a list that was mapped. -/
theorem prefix_next {α β : Type} (f : α → β) {L l : List α} {x : β} (h : l <+: L) (hx : l.map f ++ [x] <+: L.map f) : ∃ y, l ++ [y] <+: L ∧ f y = x := by
  obtain ⟨t, rfl⟩ := h
  obtain ⟨t', ht⟩ := hx
  rw [List.map_append, List.append_assoc] at ht
  have h2 := List.append_cancel_left ht
  cases t with
  | nil => simp at h2
  | cons y t =>
    simp only [List.map_cons, List.singleton_append, List.cons.injEq] at h2
    exact ⟨y, ⟨t, by simp⟩, h2.1.symm⟩
theorem ready_stops {α : Type} (f : α → Int) (L : List α) (n : Nat) (hn : 1 ≤ n) (Bc b : Nat) (N : Nt) (hL : L.map f = rdAll N) (w : World) (hBc : w.cell? ⟨Bc, 0, none⟩ = some (.pointer (some ⟨b, 0, none⟩))) (hR : Rd w b 66 (fun q => q < w.heap.size) N) :
    SeqStopsK Fence.wide n Try.prog 55 #[.pointer (some ⟨Bc, 0, none⟩)] (fun x : α => #[iv (f x)]) (Below w.heap.size) (fun ys => ys = L) (fun pre => pre <+: L) L.length w := fun l J Jx W hW hJ _ hY h0 => by
  have hl := World.block_lt_of_cell? _ _ hBc
  obtain ⟨A1, n1, c1, A, k, c, ps, cks, h1, h2, h3, h4, h5⟩ := hR
  refine (ready1_in n hn l Bc w.heap.size b N (fun xs W => ∃ ys, ys.map f = xs ∧ ys <+: L ∧ J ys W) (fun xs W => ∃ ys, ys.map f = xs ∧ ys <+: L ∧ Jx ys W) (fun s A A' hs hF => ?_) (fun pre x W1 hpre hx => ?_) W
    ((hW.cell (p := ⟨Bc, 0, none⟩) hl).trans hBc) ⟨A1, n1, c1, A, k, c, ps, cks, (hW.block _ h1.lt).trans h1, h2.keptTo fun q hq => ⟨hW.block q hq, hq⟩, h3.keptTo fun q hq => ⟨hW.block q hq, hq⟩, h4, h5⟩ ⟨hl, h1.lt, hW.size⟩ ⟨[], rfl, List.nil_prefix, h0⟩).mono ?_
  · obtain ⟨ys, e, hp, hs⟩ := hs
    exact ⟨ys, e, hp, hJ ys A A' none hs hF.grw (fun r hr => by cases hr)⟩
  · obtain ⟨ys, rfl, hp, hs⟩ := hpre
    rw [← hL] at hx
    obtain ⟨y, hy, rfl⟩ := prefix_next f hp hx
    obtain ⟨fn, tmps, assign, body, he, hRd⟩ := hY ys y W1 hs (prefix_len hy)
    refine ⟨fn, tmps, assign, body, he, hRd.mono fun e W' hh => ?_⟩
    rcases hh with ⟨h1, h2, h3⟩ | ⟨h1, h2⟩
    · exact .inl ⟨h1, ⟨_, by simp, hy, h2⟩, h3⟩
    · exact .inr ⟨h1, _, by simp, hy, h2⟩
  · rintro e W' ⟨hv, hh⟩
    refine ⟨hv, ?_⟩
    rcases hh with ⟨xs, rfl, ys, e, hp, hs⟩ | ⟨pre, hp, ys, e, hp2, hs⟩
    · refine .inl ⟨L, rfl, ?_⟩
      have : ys = L := hp.eq_of_length (by have := congrArg List.length e; have h2 := congrArg List.length hL; simp at this h2; omega)
      rw [← this]
      exact hs
    · exact .inr ⟨ys, hp2, hs⟩
theorem readyf_any (p : Option Addr) (w : World) :
    Calls Try.prog 36 #[.pointer p] w fun e w' => e = .returned (.func (.func 55) #[] #[.pointer (some ⟨w.heap.size, 0, none⟩)]) ∧
      w' = w.alloc (.cells #[.pointer p] 59) := by
  go_enter Try.func36, Try.ntmps36
  go_wp2
  go_ret
  exact ⟨rfl, rfl⟩
theorem rdAll_le (N : Nt) : (rdAll N).length ≤ 8 := by
  unfold rdAll readyNt
  split
  · rename_i h
    have := (right_sm h).2.1
    have h2 := List.length_filter_le (readyAt N) (List.range N.cs.length)
    rw [List.length_range] at h2
    simp only [List.length_map]
    omega
  · simp
theorem collr_any (Bc b : Nat) (N : Nt) (w : World) (hBc : w.cell? ⟨Bc, 0, none⟩ = some (.pointer (some ⟨b, 0, none⟩))) (hR : Rd w b 66 (fun q => q < w.heap.size) N) :
    Calls Try.prog 39 #[.func (.func 55) #[] #[.pointer (some ⟨Bc, 0, none⟩)]] w (CollPost (rdAll N) w) :=
  collect_calls _ _ (fun args w => Try.call55 args w) (rdAll N) (by have := rdAll_le N; omega) w (ready_stops (fun x : Int => x) (rdAll N) 6 (by omega) Bc b N (by simp) w hBc hR)
/-- Right, over, of a work. -/
theorem rightw_rd (b : Nat) (N : Nt) (w : World) (h : Rd w b 66 (fun q => q < w.heap.size) N) : Calls Try.prog 40 #[.pointer (some ⟨b, 0, none⟩)] w fun e w' => e = .returned (.bool (rightNt N)) ∧ Frm (fun _ => False) w w' := by
  obtain ⟨A1, n1, c1, A, k, c, ps, cks, h1, h2, h3, h4, h5⟩ := h
  obtain ⟨N1, N2⟩ := N
  dsimp only at h4 h5
  subst h4 h5
  exact right_w b A1 n1 c1 A k c ps cks w h1 h2 h3
theorem overw_rd (b : Nat) (N : Nt) (w : World) (h : Rd w b 66 (fun q => q < w.heap.size) N) : Calls Try.prog 46 #[.pointer (some ⟨b, 0, none⟩)] w fun e w' => e = .returned (.bool (overNt N)) ∧ Frm (fun _ => False) w w' := by
  obtain ⟨A1, n1, c1, A, k, c, ps, cks, h1, h2, h3, h4, h5⟩ := h
  obtain ⟨N1, N2⟩ := N
  dsimp only at h4 h5
  subst h4 h5
  exact over_w b (.slice A1 n1 c1) A k c cks w h1 h3
/-- A work of a net's value: 'work{n}' in a block of its own. -/
theorem NR.wk {w : World} {A1 A : Option Addr} {n1 c1 n c : Nat} {N : Nt} (h : NR w (.agg #[.slice A1 n1 c1, .slice A n c]) N) (t : TypeId) : Rd (w.alloc (.cells #[.slice A1 n1 c1, .slice A n c] t)) w.heap.size t (fun q => q < (w.alloc (.cells #[.slice A1 n1 c1, .slice A n c] t)).heap.size) N := by
  obtain ⟨A1', n1', c1', A', n', c', e, ps, cks, h1, h2, h3, h4⟩ := h
  cases e
  have hF : Frm (fun _ => False) w (w.alloc (.cells #[.slice A1 n1 c1, .slice A n c] t)) := (Frm.refl _ w).alloc _
  exact ⟨A1, n1, c1, A, n, c, ps, cks, Blk.new w _ _, h1.keptTo fun q hq => ⟨hF.block q hq id, Nat.lt_of_lt_of_le hq hF.size⟩, h2.keptTo fun q hq => ⟨hF.block q hq id, Nat.lt_of_lt_of_le hq hF.size⟩, h3, h4⟩
theorem NV.form {w : World} {K : Nat → Prop} {V : Value} {N : Nt} (h : NV w K V N) : ∃ A1 n1 c1 A n c, V = .agg #[.slice A1 n1 c1, .slice A n c] := by
  obtain ⟨A1, n1, c1, A, n, c, rfl, -⟩ := h
  exact ⟨_, _, _, _, _, _, rfl⟩
/-- Ints that were collected: what is told. -/
def IntsR (xs : List Int) (w : World) (e : Ending) (w' : World) : Prop := ∃ v, e = .returned v ∧ w'.ownsRow w.heap.size 3 1 v xs.length (xs.map iv) ∧ (v = .slice none 0 0 ↔ xs = []) ∧ Frm (fun _ => False) w w'
end Go.Proofs.Ytnibllkcacalhaa
namespace Go.Proofs.Ytnibllkcacalhaa
set_option maxRecDepth 100000
open Go.RowKit Go.Shelf
/-- A box of the net's value, and a work of it. -/
theorem net_boxes {w : World} {A1 A : Option Addr} {n1 c1 n c : Nat} {N : Nt} (h : NR w (.agg #[.slice A1 n1 c1, .slice A n c]) N) (W : World) (hW : W = (w.alloc (.cells #[.slice A1 n1 c1, .slice A n c] 25)).alloc (.cells #[.slice A1 n1 c1, .slice A n c] 66)) :
    Rd W (w.heap.size + 1) 66 (fun q => q < W.heap.size) N ∧ Frm (fun _ => False) w W ∧ Blk W w.heap.size 25 #[.slice A1 n1 c1, .slice A n c] := by
  subst hW
  have h1 := (h.kept ((Frm.refl (fun _ => False) w).alloc (.cells #[.slice A1 n1 c1, .slice A n c] 25))).wk 66
  rw [World.size_alloc] at h1
  exact ⟨h1, ((Frm.refl _ w).alloc _).alloc _, (Blk.new w _ _).alloc _⟩
def RetBool (b : Bool) (w : World) (e : Ending) (w' : World) : Prop := e = .returned (.bool b) ∧ Frm (fun _ => False) w w'
theorem right_n (V : Value) (N : Nt) (w : World) (h : NR w V N) : Calls Try.prog 17 #[V] w (RetBool (rightNt N) w) := by
  obtain ⟨A1, n1, c1, A, n, c, rfl⟩ := h.form
  have H := Lib.hid h
  clear h
  go_enter Try.func17, Try.ntmps17
  go_wp2_with fail
  obtain ⟨h1, h2, -⟩ := net_boxes H.out _ rfl
  refine (rightw_rd (w.heap.size + 1) N _ h1).mono ?_
  rintro e w1 ⟨rfl, hF1⟩
  have HF := Lib.hid (h2.trans hF1 fun _ h => h.elim)
  clear hF1 h1 h2
  go_wp2_with fail
  go_ret
  exact ⟨rfl, HF.out⟩
theorem ready_n (V : Value) (N : Nt) (w : World) (h : NR w V N) : Calls Try.prog 20 #[V] w (IntsR (rdAll N) w) := by
  obtain ⟨A1, n1, c1, A, n, c, rfl⟩ := h.form
  have H := Lib.hid h
  clear h
  go_enter Try.func20, Try.ntmps20
  go_wp2_with fail
  refine (readyf_any _ _).mono ?_
  rintro e w1 ⟨rfl, rfl⟩
  obtain ⟨W0, hW0⟩ : ∃ W, W = (w.alloc (.cells #[.slice A1 n1 c1, .slice A n c] 25)).alloc (.cells #[.slice A1 n1 c1, .slice A n c] 66) := ⟨_, rfl⟩
  obtain ⟨h1, h2, -⟩ := net_boxes H.out W0 hW0
  rw [← hW0]
  have hF1 : Frm (fun _ => False) W0 (W0.alloc (.cells #[.pointer (some ⟨w.heap.size + 1, 0, none⟩)] 59)) := (Frm.refl _ W0).alloc _
  have hc := collr_any W0.heap.size (w.heap.size + 1) N _ (World.cell?_alloc_new W0 #[.pointer (some ⟨w.heap.size + 1, 0, none⟩)] 59 0) (h1.kept hF1)
  have HC := Lib.hid (And.intro hc (h2.trans hF1 fun _ h => h.elim))
  clear hc h1 h2 hF1 hW0
  go_wp2_with fail
  refine HC.out.1.mono ?_
  rintro e w2 ⟨v, rfl, hown, hnil, hB⟩
  have HB := Lib.hid (And.intro hown (And.intro hnil hB))
  clear hown hnil hB
  go_wp2_with fail
  go_ret
  exact ⟨v, rfl, World.ownsRow.mono HB.out.1 HC.out.2.size, HB.out.2.1, HC.out.2.trans (Frm.of_below HB.out.2.2) fun _ h => h.elim⟩
set_option maxHeartbeats 1000000 in
theorem over_n (V : Value) (N : Nt) (w : World) (h : NR w V N) : Calls Try.prog 22 #[V] w (RetBool (rightNt N && overNt N) w) := by
  obtain ⟨A1, n1, c1, A, n, c, rfl⟩ := h.form
  have H := Lib.hid h
  clear h
  go_enter Try.func22, Try.ntmps22
  go_wp2_with fail
  obtain ⟨h1, h2, -⟩ := net_boxes H.out _ rfl
  have H1 := Lib.hid h1
  refine (rightw_rd (w.heap.size + 1) N _ h1).mono ?_
  rintro e w1 ⟨rfl, hF1⟩
  have h3 := overw_rd (w.heap.size + 1) N w1 (H1.out.kept hF1)
  have HF := Lib.hid (And.intro (h2.trans hF1 fun _ h => h.elim) h3)
  clear hF1 h1 h2 h3
  cases hr : rightNt N with
  | false =>
    go_wp2_with fail
    go_ret
    exact ⟨by simp [hr], HF.out.1⟩
  | true =>
    go_wp2_with fail
    refine HF.out.2.mono ?_
    rintro e w2 ⟨rfl, hF2⟩
    have HF2 := Lib.hid (HF.out.1.trans hF2 fun _ h => h.elim)
    clear hF2
    go_wp2_with fail
    go_ret
    exact ⟨by simp [hr], HF2.out⟩
def stuckNt (N : Nt) : Bool := rightNt N && (!overNt N && decide (readyNt N = []))
theorem rdAll_nil (N : Nt) : decide ((rdAll N).length = 0) = decide (readyNt N = []) := by
  unfold rdAll
  simp
theorem ints_len {xs : List Int} {w w' : World} {v : Value} (h : w'.ownsRow w.heap.size 3 1 v xs.length (xs.map iv)) : ∃ A c, v = .slice A xs.length c ∧ xs.length ≤ c ∧ c ≤ 9223372036854775807 := own_form h
set_option maxHeartbeats 1000000 in
theorem stuck_n (V : Value) (N : Nt) (w : World) (h : NR w V N) : Calls Try.prog 24 #[V] w (RetBool (stuckNt N) w) := by
  obtain ⟨A1, n1, c1, A, n, c, rfl⟩ := h.form
  have H := Lib.hid h
  clear h
  unfold stuckNt
  rw [← rdAll_nil]
  go_enter Try.func24, Try.ntmps24
  go_upto_region 2 with fail
  obtain ⟨W0, hW0⟩ : ∃ W, W = (w.alloc (.cells #[.slice A1 n1 c1, .slice A n c] 25)).alloc (.cells #[.slice A1 n1 c1, .slice A n c] 66) := ⟨_, rfl⟩
  obtain ⟨h1, h2, hb⟩ := net_boxes H.out W0 hW0
  rw [← hW0]
  obtain ⟨G, hG⟩ : ∃ G, G = w.heap.size := ⟨_, rfl⟩
  rw [← hG] at h1 hb ⊢
  have H1 := Lib.hid (And.intro h1 (And.intro h2 hb))
  clear hW0 h1 h2 hb hG
  go_wp2_with fail
  refine (rightw_rd (G + 1) N W0 H1.out.1).mono ?_
  rintro e w1 ⟨rfl, hF1⟩
  have h3 := overw_rd (G + 1) N w1 (H1.out.1.kept hF1)
  have HF := Lib.hid (And.intro (H1.out.2.1.trans hF1 fun _ h => h.elim) (And.intro h3 hF1))
  clear hF1 h3
  cases hr : rightNt N with
  | false =>
    go_wp2_with fail
    go_ret
    exact ⟨by simp [hr], HF.out.1⟩
  | true =>
    go_wp2_with fail
    refine HF.out.2.1.mono ?_
    rintro e w2 ⟨rfl, hF2⟩
    have hb2 := H1.out.2.2.kept (HF.out.2.2.trans hF2 fun _ h => h.elim) id
    have x0 : w2.cell? ⟨G, 0, none⟩ = some (.slice A1 n1 c1) := hb2.cell 0
    have x1 : w2.cell? ⟨G, 1, none⟩ = some (.slice A n c) := hb2.cell 1
    have HF2 := Lib.hid (HF.out.1.trans hF2 fun _ h => h.elim)
    clear hF2 hb2
    cases ho : overNt N with
    | true =>
      go_wp2_with fail
      go_ret
      exact ⟨by simp [hr, ho], HF2.out⟩
    | false =>
      go_wp2_with fail
      refine (ready_n _ N w2 (H.out.kept HF2.out)).mono ?_
      rintro e w3 ⟨v, rfl, hown, -, hF3⟩
      obtain ⟨Av, cv, rfl, -, -⟩ := ints_len hown
      have HF3 := Lib.hid (HF2.out.trans hF3 fun _ h => h.elim)
      clear hown hF3 x0 x1
      generalize (rdAll N).length = L at *
      cases L with
      | zero =>
        go_wp2_with fail
        go_ret
        exact ⟨by simp [hr, ho], HF3.out⟩
      | succ L =>
        have hz : (((L + 1 : Nat) : Int) == 0) = false := by rw [beq_eq_false_iff_ne]; omega
        go_wp2_with fail
        go_ret
        exact ⟨by simp [hr, ho]; omega, HF3.out⟩
end Go.Proofs.Ytnibllkcacalhaa
namespace Go.Proofs.Ytnibllkcacalhaa
set_option maxRecDepth 100000
def namedN (e : Er) : Int := if e.d = 3 ∨ e.d = 5 then -1 else e.q
theorem pipesB_modify {l : List Pi} {j : Nat} {f : Pi → Pi} (h : pipesB l = true) (hf : ∀ p, l[j]? = some p → pipeB p = true → pipeB (f p) = true) : pipesB (l.modify j f) = true := by
  unfold pipesB at h ⊢
  simp only [Bool.and_eq_true, decide_eq_true_eq] at h ⊢
  refine ⟨List.all_eq_true.2 fun p hp => ?_, by rw [List.length_modify]; exact h.2⟩
  obtain ⟨i, hi⟩ := List.getElem?_of_mem hp
  rw [List.getElem?_modify] at hi
  cases hl : l[i]? with
  | none => rw [hl] at hi; cases hi
  | some q =>
    rw [hl] at hi
    have hq := List.all_eq_true.1 h.1 q (List.mem_of_getElem? hl)
    by_cases hij : j = i
    · subst hij
      simp at hi
      rw [← hi]
      exact hf q hl hq
    · simp [hij] at hi
      rw [← hi]
      exact hq
theorem pipeB_iff (p : Pi) : pipeB p = true ↔ 1 ≤ p.room ∧ p.room ≤ 16 ∧ (p.ins.length : Int) ≤ p.room := by
  unfold pipeB
  simp only [Bool.and_eq_true, decide_eq_true_eq]
def GoesB (c : Ch) (l : List Pi) (c' : Ch) (l' : List Pi) : Prop :=
  (c'.at_ = c.at_ + 1 ∨ c'.at_ = c.row.length) ∧ rightB l'.length c' = true ∧ pipesB l' = true ∧ l'.length = l.length ∧ c'.row = c.row ∧ ∀ x, c.row[c.at_.toNat]? = some x → ∀ i : Nat, (i : Int) ≠ namedN x → l'[i]? = l[i]?
theorem modify_other {α : Type} (l : List α) (j i : Nat) (f : α → α) (h : j ≠ i) : (l.modify j f)[i]? = l[i]? := by
  rw [List.getElem?_modify]; simp [h]
theorem goes_plain {es : List Er} {a s r : Int} {l : List Pi} (hP : pipesB l = true) (hR : rightB l.length ⟨es, a, s, r⟩ = true) (hw : r ≠ 64) (hr : readyB ⟨es, a, s, r⟩ l = true) : GoesB ⟨es, a, s, r⟩ l (stepN ⟨es, a, s, r⟩ l).1 (stepN ⟨es, a, s, r⟩ l).2 := by
  obtain ⟨k, x, rfl, hx, hq, hk, hr64, hd, hst⟩ := ready_parts hr
  obtain ⟨h1, h2, h3, h4, h5, h6⟩ := head_of hR
  have hkl : k < es.length := (List.getElem?_eq_some_iff.1 hx).1
  have hno : ¬ (k : Int) = (es.length : Int) := by omega
  have hcan := ready_yes hP hR hno hx
  rw [hr] at hcan
  have key : ∀ (at' s' r' : Int) (l' : List Pi), l'.length = l.length → 0 ≤ at' → at' ≤ es.length → 0 ≤ r' → r' ≤ 64 → rightB l'.length ⟨es, at', s', r'⟩ = true := fun at' s' r' l' e g1 g2 g3 g4 => by
    rw [e, head_yes es at' s' r' _ ⟨h1, g1, g2, g3, g4⟩]
    exact h6
  rw [hst]
  have hxx : ∀ y, es[(k : Int).toNat]? = some y → y = x := fun y hy => by rw [Int.toNat_natCast, hx] at hy; cases hy; rfl
  obtain ⟨d, q, z⟩ := x
  dsimp only at hd hq
  rcases (by omega : d = 1 ∨ d = 2 ∨ d = 3 ∨ d = 4 ∨ d = 5) with rfl | rfl | rfl | rfl | rfl
  · obtain ⟨j, rfl⟩ : ∃ j : Nat, q = j := ⟨q.toNat, by have := hq (by omega); omega⟩
    have hj : j < l.length := by have := hq (by omega); omega
    have hp := List.getElem?_eq_getElem hj
    rw [canB_at 1 j z l l[j] (.inl rfl) hp] at hcan
    cases hc : l[j].closed with
    | true =>
      rw [sp_closed j z _ l _ hp hc]
      exact ⟨.inl rfl, key _ _ _ _ rfl (by (try dsimp only); omega) (by (try dsimp only); omega) (by (try dsimp only); omega) (by (try dsimp only); omega), hP, rfl, rfl, fun _ _ _ _ => rfl⟩
    | false =>
      rw [sp_open j z _ l _ hp hc]
      refine ⟨.inl rfl, key _ _ _ _ (by simp) (by (try dsimp only); omega) (by (try dsimp only); omega) (by (try dsimp only); omega) (by (try dsimp only); omega), pipesB_modify hP ?_, by simp, rfl, ?_⟩
      · intro p hp' hpb
        rw [hp] at hp'
        cases hp'
        rw [pipeB_iff] at hpb ⊢
        have : ((l[j].ins.length : Int) < l[j].room) := by simpa [canP, hc] using hcan.symm
        simp
        omega
      · intro y hy i hi
        have := hxx y hy
        subst this
        exact modify_other _ _ _ _ (by rintro rfl; simp [namedN] at hi)
  · obtain ⟨j, rfl⟩ : ∃ j : Nat, q = j := ⟨q.toNat, by have := hq (by omega); omega⟩
    have hj : j < l.length := by have := hq (by omega); omega
    have hp := List.getElem?_eq_getElem hj
    rw [sp_get j z _ l _ hp]
    refine ⟨.inl rfl, key _ _ _ _ (by simp) (by (try dsimp only); omega) (by (try dsimp only); omega) (by (try dsimp only); omega) (by (try dsimp only); omega), pipesB_modify hP ?_, by simp, rfl, ?_⟩
    · intro p hp' hpb
      rw [pipeB_iff] at hpb ⊢
      simp [getP]
      omega
    · intro y hy i hi
      have := hxx y hy
      subst this
      exact modify_other _ _ _ _ (by rintro rfl; simp [namedN] at hi)
  · rw [sp_add]
    exact ⟨.inl rfl, key _ _ _ _ rfl (by (try dsimp only); omega) (by (try dsimp only); omega) (by (try dsimp only); omega) (by (try dsimp only); omega), hP, rfl, rfl, fun _ _ _ _ => rfl⟩
  · obtain ⟨j, rfl⟩ : ∃ j : Nat, q = j := ⟨q.toNat, by have := hq (by omega); omega⟩
    rw [sp_close]
    refine ⟨.inl rfl, key _ _ _ _ (by simp) (by (try dsimp only); omega) (by (try dsimp only); omega) (by (try dsimp only); omega) (by (try dsimp only); omega), pipesB_modify hP ?_, by simp, rfl, ?_⟩
    · intro p hp' hpb
      rw [pipeB_iff] at hpb ⊢
      exact hpb
    · intro y hy i hi
      have := hxx y hy
      subst this
      exact modify_other _ _ _ _ (by rintro rfl; simp [namedN] at hi)
  · rw [sp_stop]
    exact ⟨.inr rfl, key _ _ _ _ rfl (by (try dsimp only); omega) (by (try dsimp only); omega) (by (try dsimp only); omega) (by (try dsimp only); omega), hP, rfl, rfl, fun _ _ _ _ => rfl⟩
end Go.Proofs.Ytnibllkcacalhaa
namespace Go.Proofs.Ytnibllkcacalhaa
set_option maxRecDepth 100000
/-- How many errands are left. -/
def leftC (c : Ch) : Nat := c.row.length - c.at_.toNat
def leftNt (n : Nt) : Nat := (n.cs.map leftC).sum
theorem choreN_row (e : Er) (c : Ch) (p : Option Pi) : (choreN e c p).row = c.row := by
  unfold choreN
  split
  · rfl
  split
  · rfl
  split
  · rfl
  split <;> rfl
theorem choreN_at (e : Er) (c : Ch) (p : Option Pi) : (choreN e c p).at_ = c.at_ + 1 ∨ (choreN e c p).at_ = c.row.length := by
  unfold choreN
  split
  · exact .inl rfl
  split
  · exact .inl rfl
  split
  · exact .inl rfl
  split
  · exact .inr rfl
  · exact .inl rfl
theorem sum_set (l : List Ch) (k : Nat) (c c' : Ch) (h : l[k]? = some c) : ((l.set k c').map leftC).sum + leftC c = (l.map leftC).sum + leftC c' := by
  induction l generalizing k with
  | nil => simp at h
  | cons y ys ih =>
    cases k with
    | zero => simp at h; subst h; simp; omega
    | succ k =>
      have := ih k (by simpa using h)
      simp only [List.set_cons_succ, List.map_cons, List.sum_cons]
      omega
theorem step_parts {n : Nt} {k : Nat} (h : k ∈ readyNt n) : ∃ c j x, n.cs[k]? = some c ∧ readyB c n.ps = true ∧ rightNt n = true ∧ c.at_ = (j : Nat) ∧ c.row[j]? = some x ∧ (x.d = 1 ∨ x.d = 2 ∨ x.d = 4 → 0 ≤ x.q ∧ x.q < n.ps.length) ∧ (1 ≤ x.d ∧ x.d ≤ 5) ∧ canB x n.ps = true ∧
    stepC n k = ⟨pipesN x c n.ps, n.cs.set k (choreN x c n.ps[x.q.toNat]?)⟩ := by
  obtain ⟨hr, c, hc, hrd, hk⟩ := ready_of h
  obtain ⟨es, a, s, r⟩ := c
  obtain ⟨j, x, rfl, hx, hq, -, -, hd, hst⟩ := ready_parts hrd
  refine ⟨_, j, x, hc, hrd, hr, rfl, hx, hq, hd, ?_, ?_⟩
  · unfold readyB nextB at hrd
    simp only [Bool.and_eq_true, Int.toNat_natCast, hx] at hrd
    exact hrd.2.2.2
  · unfold stepC
    rw [hc]
    simp only [hst]
theorem step_left {n : Nt} {k : Nat} (h : k ∈ readyNt n) : leftNt (stepC n k) < leftNt n := by
  obtain ⟨c, j, x, hc, -, -, ha, hx, -, -, -, hst⟩ := step_parts h
  have hj : j < c.row.length := (List.getElem?_eq_some_iff.1 hx).1
  have h1 := sum_set n.cs k c (choreN x c n.ps[x.q.toNat]?) hc
  have h2 := choreN_row x c n.ps[x.q.toNat]?
  have h3 := choreN_at x c n.ps[x.q.toNat]?
  have h4 : leftC (choreN x c n.ps[x.q.toNat]?) < leftC c := by
    unfold leftC
    rw [h2, ha] at *
    rcases h3 with h3 | h3 <;> rw [h3] <;> omega
  rw [hst]
  unfold leftNt
  dsimp only
  omega
theorem step_cs {n : Nt} {k : Nat} (h : k ∈ readyNt n) : (stepC n k).cs.length = n.cs.length ∧ (stepC n k).ps.length = n.ps.length := by
  obtain ⟨c, j, x, hc, -, -, ha, hx, -, -, -, hst⟩ := step_parts h
  rw [hst]
  refine ⟨by simp, ?_⟩
  unfold pipesN
  dsimp only
  split <;> simp
/-- The end. -/
def finN (n : Nt) : Nt × Nat := finNt (leftNt n) n
theorem fin_fuel : ∀ (f : Nat) (n : Nt), leftNt n ≤ f → finNt f n = finNt (leftNt n) n
  | 0, n, h => by
    have : leftNt n = 0 := by omega
    rw [this]
  | f + 1, n, h => by
    have key : ∀ g, leftNt n ≤ g + 1 → readyNt n ≠ [] → ∃ k ks, readyNt n = k :: ks ∧ finNt (g + 1) n = ((finNt g (stepC n k)).1, (finNt g (stepC n k)).2 + 1) ∧ leftNt (stepC n k) ≤ g := fun g hg hne => by
      cases hr : readyNt n with
      | nil => exact absurd hr hne
      | cons k ks =>
        have := step_left (n := n) (k := k) (by rw [hr]; simp)
        exact ⟨k, ks, rfl, by rw [finNt, hr], by omega⟩
    by_cases hne : readyNt n = []
    · rw [finNt, hne]
      cases leftNt n with
      | zero => rfl
      | succ g => rw [finNt, hne]
    · obtain ⟨k, ks, hk, e1, l1⟩ := key f h hne
      have hpos : 0 < leftNt n := Nat.lt_of_le_of_lt (Nat.zero_le _) (step_left (n := n) (k := k) (by rw [hk]; simp))
      obtain ⟨g, hg⟩ : ∃ g, leftNt n = g + 1 := ⟨leftNt n - 1, by omega⟩
      obtain ⟨k', ks', hk', e2, l2⟩ := key g (by omega) hne
      rw [hk] at hk'
      cases hk'
      rw [e1, hg, e2, fin_fuel f (stepC n k) l1]
      have : finNt g (stepC n k) = finNt (leftNt (stepC n k)) (stepC n k) := by
        by_cases hgf : g = f
        · rw [hgf]; exact fin_fuel f _ l1
        · exact fin_fuel g (stepC n k) l2
      rw [this]
  termination_by f => f
  decreasing_by all_goals omega
theorem fin_end {n : Nt} (h : readyNt n = []) : finN n = (n, 0) := by
  unfold finN
  cases leftNt n with
  | zero => rfl
  | succ g => rw [finNt, h]
theorem fin_head {n : Nt} {k : Nat} {ks : List Nat} (h : readyNt n = k :: ks) : finN n = ((finN (stepC n k)).1, (finN (stepC n k)).2 + 1) := by
  have hl := step_left (n := n) (k := k) (by rw [h]; simp)
  unfold finN
  obtain ⟨g, hg⟩ : ∃ g, leftNt n = g + 1 := ⟨leftNt n - 1, by omega⟩
  rw [hg, finNt, h]
  dsimp only
  rw [fin_fuel g _ (by omega)]
theorem fin_le : ∀ (f : Nat) (n : Nt), leftNt n ≤ f → (finN n).2 + leftNt (finN n).1 ≤ leftNt n ∧ readyNt (finN n).1 = []
  | f, n, h => by
    cases hr : readyNt n with
    | nil => rw [fin_end hr]; exact ⟨by simp, hr⟩
    | cons k ks =>
      have hl := step_left (n := n) (k := k) (by rw [hr]; simp)
      cases f with
      | zero => omega
      | succ f =>
        have := fin_le f (stepC n k) (by omega)
        rw [fin_head hr]
        dsimp only
        exact ⟨by omega, this.2⟩
theorem run_le : ∀ (ps : List Int) (n : Nt), (runNt n ps).2 + leftNt (runNt n ps).1 ≤ leftNt n ∧ (runNt n ps).2 ≤ ps.length
  | [], n => by simp [runNt]
  | p :: ps, n => by
    by_cases h : readyNt n = []
    · rw [runNt, if_pos h]; simp
    · have hp : pickAt (readyNt n) p ∈ readyNt n := by
        have hl : 0 < (readyNt n).length := List.length_pos_iff.2 h
        have h1 := Int.emod_lt_of_pos p (show (0 : Int) < (readyNt n).length by omega)
        have h2 := Int.emod_nonneg p (show ((readyNt n).length : Int) ≠ 0 by omega)
        have h3 : (p % (readyNt n).length).toNat < (readyNt n).length := by omega
        unfold pickAt
        rw [List.getD_eq_getElem?_getD, List.getElem?_eq_getElem h3]
        exact List.getElem_mem h3
      have := step_left hp
      have := run_le ps (stepC n (pickAt (readyNt n) p))
      rw [runNt, if_neg h]
      dsimp only
      simp only [List.length_cons]
      omega
end Go.Proofs.Ytnibllkcacalhaa
namespace Go.Proofs.Ytnibllkcacalhaa
set_option maxRecDepth 100000
open Go.RowKit
def kv (l : List Int) : List Value := l.map (.int .u8)
def idxU (l : List Int) (x : Int) : Int := match l.findIdx? (fun y => x == y) with | some k => k | none => -1
theorem idx_ge (l : List Int) (x : Int) : decide (idxU l x ≥ 0) = l.contains x := by
  unfold idxU
  cases h : l.findIdx? (fun y => x == y) with
  | none =>
    rw [List.findIdx?_eq_none_iff] at h
    have : l.contains x = false := by
      rw [List.contains_eq_any_beq, List.any_eq_false]
      intro y hy
      have := h y hy
      simpa using this
    rw [this]; rfl
  | some k =>
    rw [List.findIdx?_eq_some_iff_getElem] at h
    obtain ⟨hk, h1, _⟩ := h
    have : l.contains x = true := by
      rw [List.contains_eq_any_beq, List.any_eq_true]
      exact ⟨l[k], List.getElem_mem hk, h1⟩
    rw [this]; simp
set_option maxHeartbeats 800000 in
theorem indexU_any (K : Nat → Prop) (va : Value) (l : List Int) (x : Int) (w : World) (h : Sl w K va (kv l)) (hl : l.length ≤ 1000000) :
    Calls Try.prog 77 #[va, .int .u8 x] w fun e w' => e = .returned (.int .i64 (idxU l x)) ∧ w = w' := by
  obtain ⟨A, n, c, rfl, hn, hc, hcm, hx⟩ := h
  rw [kv, List.length_map] at hn
  have H := Lib.hid (And.intro hn hx)
  have hn6 : n ≤ 1000000 := by omega
  clear hn hx hc hcm hl
  go_enter Try.func77, Try.ntmps77
  go_wp2_with fail
  go_loopw [8] (fun i wr => ∃ k : Nat, k ≤ n ∧ i = .int .i64 k ∧ wr = w ∧ Hid (∀ j (h : j < l.length), j < k → (x == l[j]) = false)) (fun i _ => n - (intOf i).toNat)
  case atStart => exact ⟨0, Nat.zero_le _, rfl, rfl, Lib.hid fun j _ h => by omega⟩
  case round =>
    obtain ⟨k, hk, rfl, rfl, Hno⟩ := hrel
    by_cases hlt : k < n
    · obtain ⟨hn, hx⟩ := H.out
      obtain ⟨g, o, rfl, _, hx⟩ := hx.resolve_left (by omega)
      have hkl : k < l.length := by omega
      have c0 : wr.cell? ⟨g, o + k, none⟩ = some (.int .u8 l[k]) := by rw [hx k (by simpa [kv] using hkl)]; simp [kv]
      clear hx hn
      cases hb : (x == l[k]) with
      | true =>
        have hi : idxU l x = k := by
          unfold idxU
          have : l.findIdx? (fun y => x == y) = some k := by
            rw [List.findIdx?_eq_some_iff_getElem]
            exact ⟨hkl, hb, fun j hj => by simpa using Hno.out j (by omega) hj⟩
          rw [this]
        have Hi := Lib.hid hi
        clear hi
        generalize l[k] = y at *
        go_wp2_with fail
        go_ret
        exact ⟨by rw [Hi.out]; rfl, rfl⟩
      | false =>
        have hnx : ∀ j (h : j < l.length), j < k + 1 → (x == l[j]) = false := fun j h hj => by
          rcases Nat.lt_or_ge j k with h1 | h1
          · exact Hno.out j h h1
          · obtain rfl : j = k := by omega
            exact hb
        have Hnx := Lib.hid hnx
        clear hnx
        generalize l[k] = y at *
        go_wp2_with fail
        go_roundw
        case rel => exact ⟨k + 1, by omega, by go_num, trivial, Hnx⟩
        case measure => simp [intOf]; omega
    · obtain rfl : k = n := by omega
      have hi : idxU l x = -1 := by
        unfold idxU
        have : l.findIdx? (fun y => x == y) = none := by
          rw [List.findIdx?_eq_none_iff]
          intro y hy
          obtain ⟨j, hj, rfl⟩ := List.getElem_of_mem hy
          simpa using Hno.out j hj (by have := H.out.1; omega)
        rw [this]
      have Hi := Lib.hid hi
      clear hi
      go_wp2_with fail
      go_ret
      exact ⟨by rw [Hi.out]; rfl, rfl⟩
def ContU (b : Bool) (w : World) (e : Ending) (w' : World) : Prop := e = .returned (.bool b) ∧ w = w'
theorem containsU_any (K : Nat → Prop) (va : Value) (l : List Int) (x : Int) (w : World) (h : Sl w K va (kv l)) (hl : l.length ≤ 1000000) :
    Calls Try.prog 66 #[va, .int .u8 x] w (ContU (l.contains x) w) := by
  rw [← idx_ge]
  have hi := indexU_any K va l x w h hl
  obtain ⟨A, n, c, rfl, hr⟩ := h
  clear hr
  generalize idxU l x = z at *
  have Hi := Lib.hid hi
  clear hi
  go_enter Try.func66, Try.ntmps66
  go_wp2_with fail
  refine Hi.out.mono ?_
  rintro e w' ⟨rfl, rfl⟩
  go_wp2_with fail
  go_ret
  exact ⟨rfl, rfl⟩
/-- Does an errand name that pipe, and is it of these kinds? -/
def nameB (p : Int) (ks : List Int) (e : Er) : Bool := (e.q == p) && ks.contains e.d
set_option maxHeartbeats 800000 in
theorem touch1_any (bp bk : Nat) (p : Int) (vk : Value) (K : Nat → Prop) (ks : List Int) (e : Er) (w : World) (h0 : w.cell? ⟨bp, 0, none⟩ = some (.int .i64 p)) (h1 : w.cell? ⟨bk, 0, none⟩ = some vk) (hk : Sl w K vk (kv ks)) (hK : ∀ q, K q → q < w.heap.size) (hl : ks.length ≤ 1000) :
    Calls Try.prog 65 #[.agg #[.int .u8 e.d, .int .i64 e.q, .int .u32 e.n], .pointer (some ⟨bp, 0, none⟩), .pointer (some ⟨bk, 0, none⟩)] w (RetBool (nameB p ks e) w) := by
  obtain ⟨d, q, n⟩ := e
  dsimp only
  have hF : Frm (fun _ => False) w (w.alloc (.cells #[.int .u8 d, .int .i64 q, .int .u32 n] 49)) := (Frm.refl _ w).alloc _
  have x0 := hF.cell h0 id
  have x1 := hF.cell h1 id
  have hb := Blk.new w 49 #[.int .u8 d, .int .i64 q, .int .u32 n]
  have hc := containsU_any K vk ks d (w.alloc (.cells #[.int .u8 d, .int .i64 q, .int .u32 n] 49)) (hk.keptTo fun q hq => ⟨hF.block q (hK q hq) id, hq⟩) (by omega)
  obtain ⟨cb, hcb⟩ : ∃ cb, cb = ks.contains d := ⟨_, rfl⟩
  rw [← hcb] at hc
  have Hcb := Lib.hid hcb
  clear hcb
  obtain ⟨A, nk, ck, rfl, -⟩ := hk
  obtain ⟨W, hW⟩ : ∃ W, W = w.alloc (.cells #[.int .u8 d, .int .i64 q, .int .u32 n] 49) := ⟨_, rfl⟩
  obtain ⟨G, hG⟩ : ∃ G, G = w.heap.size := ⟨_, rfl⟩
  rw [← hW] at hF x0 x1 hb hc
  rw [← hG] at hb
  have H := Lib.hid (And.intro hF hc)
  have y0 : W.cell? ⟨G, 0, none⟩ = some (.int .u8 d) := hb.cell 0
  have y1 : W.cell? ⟨G, 1, none⟩ = some (.int .i64 q) := hb.cell 1
  clear hF hb hc h0 h1 hK hl
  go_enter Try.func65, Try.ntmps65
  go_upto_region 1 with fail
  rw [← hG, ← hW]
  clear hG hW
  cases hq : (q == p) with
  | false =>
    go_wp2_with fail
    go_ret
    exact ⟨by unfold nameB; rw [hq]; rfl, H.out.1⟩
  | true =>
    go_wp2_with fail
    refine H.out.2.mono ?_
    rintro e w' ⟨rfl, rfl⟩
    go_wp2_with fail
    go_ret
    exact ⟨by unfold nameB; dsimp only; rw [hq, ← Hcb.out]; rfl, H.out.1⟩
/-- The first errand that names it. -/
def idxE (f : Er → Bool) (es : List Er) : Int := match es.findIdx? f with | some k => k | none => -1
theorem idxE_ge (f : Er → Bool) (l : List Er) : decide (idxE f l ≥ 0) = l.any f := by
  unfold idxE
  cases h : l.findIdx? f with
  | none =>
    rw [List.findIdx?_eq_none_iff] at h
    have : l.any f = false := by
      rw [List.any_eq_false]
      intro y hy
      simpa using h y hy
    rw [this]; rfl
  | some k =>
    rw [List.findIdx?_eq_some_iff_getElem] at h
    obtain ⟨hk, h1, _⟩ := h
    have : l.any f = true := List.any_eq_true.2 ⟨l[k], List.getElem_mem hk, h1⟩
    rw [this]; simp
def IdxPost (z : Int) (w : World) (e : Ending) (w' : World) : Prop := e = .returned (.int .i64 z) ∧ Frm (fun _ => False) w w'
set_option maxHeartbeats 1600000 in
theorem idxE_any (A : Option Addr) (n c : Nat) (es : List Er) (f : Er → Bool) (lb : Array Value) (w : World) (h : RAt w (fun q => q < w.heap.size) (.slice A n c) es)
    (hf : ∀ W, Frm (fun _ => False) w W → ∀ e, Calls Try.prog 65 (#[.agg #[.int .u8 e.d, .int .i64 e.q, .int .u32 e.n]] ++ lb) W (RetBool (f e) W)) :
    Calls Try.prog 76 #[.slice A n c, .func (.func 65) #[] lb] w (IdxPost (idxE f es) w) := by
  obtain ⟨hn, hnc, hcm, hx⟩ := h.cells
  have H := Lib.hid (And.intro hn (And.intro hx hf))
  have hnm : n ≤ 9223372036854775807 := by omega
  clear h hn hx hf hnc hcm
  go_enter Try.func76, Try.ntmps76
  go_wp2_with fail
  go_loopw [8] (fun i wr => ∃ k : Nat, k ≤ n ∧ i = .int .i64 k ∧ Hid ((∀ j (h : j < es.length), j < k → f es[j] = false) ∧ Frm (fun _ => False) w wr)) (fun i _ => n - (intOf i).toNat)
  case atStart => exact ⟨0, Nat.zero_le _, rfl, Lib.hid ⟨fun j _ h => by omega, Frm.refl _ _⟩⟩
  case round =>
    obtain ⟨k, hk, rfl, hT⟩ := hrel
    by_cases hlt : k < n
    · obtain ⟨hn, hx, hf⟩ := H.out
      have hkx : k < es.length := by omega
      obtain ⟨g, o, rfl, hg, d0, d1, d2⟩ := hx k hkx
      have hF := hT.out.2
      replace d0 := hF.cell d0 id
      replace d1 := hF.cell d1 id
      replace d2 := hF.cell d2 id
      have hc := hf wr hF es[k]
      have hyes : f es[k] = true → idxE f es = k := fun hb => by
        unfold idxE
        have : es.findIdx? f = some k := by
          rw [List.findIdx?_eq_some_iff_getElem]
          exact ⟨hkx, hb, fun j hj => by simpa using hT.out.1 j (by omega) hj⟩
        rw [this]
      have hno : f es[k] = false → ∀ j (h : j < es.length), j < k + 1 → f es[j] = false := fun hb j h hj => by
        rcases Nat.lt_or_ge j k with h1 | h1
        · exact hT.out.1 j h h1
        · obtain rfl : j = k := by omega
          exact hb
      have HS := Lib.hid (And.intro hc (And.intro hyes (And.intro hno hF)))
      clear hn hx hf hg hF hc hyes hno hT
      generalize es[k] = y at *
      clear hkx
      go_wp2_with fail
      refine HS.out.1.mono ?_
      rintro e w2 ⟨rfl, hF2⟩
      have HF2 := Lib.hid (HS.out.2.2.2.trans hF2 fun _ h => h.elim)
      clear hF2 d0 d1 d2
      cases hb : f y with
      | true =>
        have Hi := Lib.hid (HS.out.2.1 hb)
        clear hb
        go_wp2_with fail
        go_ret
        exact ⟨by rw [Hi.out]; rfl, HF2.out⟩
      | false =>
        have Hi := Lib.hid (HS.out.2.2.1 hb)
        clear hb
        go_wp2_with fail
        go_roundw
        case rel => exact ⟨k + 1, by omega, by go_num, Lib.hid ⟨Hi.out, HF2.out⟩⟩
        case measure => simp [intOf]; omega
    · obtain rfl : k = n := by omega
      have hi : idxE f es = -1 := by
        unfold idxE
        have : es.findIdx? f = none := by
          rw [List.findIdx?_eq_none_iff]
          intro y hy
          obtain ⟨j, hj, rfl⟩ := List.getElem_of_mem hy
          simpa using hT.out.1 j hj (by have := H.out.1; omega)
        rw [this]
      have Hi := Lib.hid hi
      clear hi
      go_wp2_with fail
      go_ret
      exact ⟨by rw [Hi.out]; rfl, hT.out.2⟩
theorem contE_any (A : Option Addr) (n c : Nat) (es : List Er) (f : Er → Bool) (lb : Array Value) (w : World) (h : RAt w (fun q => q < w.heap.size) (.slice A n c) es)
    (hf : ∀ W, Frm (fun _ => False) w W → ∀ e, Calls Try.prog 65 (#[.agg #[.int .u8 e.d, .int .i64 e.q, .int .u32 e.n]] ++ lb) W (RetBool (f e) W)) :
    Calls Try.prog 64 #[.slice A n c, .func (.func 65) #[] lb] w (RetBool (es.any f) w) := by
  have hi := idxE_any A n c es f lb w h hf
  rw [← idxE_ge]
  clear h hf
  generalize idxE f es = z at *
  have Hi := Lib.hid hi
  clear hi
  go_enter Try.func64, Try.ntmps64
  go_wp2_with fail
  refine Hi.out.mono ?_
  rintro e w' ⟨rfl, hF⟩
  have HF := Lib.hid hF
  clear hF
  go_wp2_with fail
  go_ret
  exact ⟨rfl, HF.out⟩
def manyK (n : Nt) (p : Int) (ks : List Int) : Nat := (n.cs.filter fun c => c.row.any (nameB p ks)).length
def IntR (z : Int) (w : World) (e : Ending) (w' : World) : Prop := e = .returned (.int .i64 z) ∧ Frm (fun _ => False) w w'
set_option maxHeartbeats 1600000 in
theorem touch_rd (b : Nat) (N : Nt) (p : Int) (vk : Value) (ks : List Int) (w : World) (h : Rd w b 66 (fun q => q < w.heap.size) N) (hk : Sl w (fun q => q < w.heap.size) vk (kv ks)) (hl : ks.length ≤ 1000) :
    Calls Try.prog 47 #[.pointer (some ⟨b, 0, none⟩), .int .i64 p, vk] w (IntR (manyK N p ks) w) := by
  obtain ⟨A1, n1, c1, A, n, c, ps, cks, hb, -, hc, -, hcs⟩ := h
  obtain ⟨hn, hnc, hcm, hx⟩ := hc.cells
  have hnm : n ≤ 9223372036854775807 := by omega
  obtain ⟨G, hG⟩ : ∃ G, G = w.heap.size := ⟨_, rfl⟩
  obtain ⟨W, hW⟩ : ∃ W, W = (w.alloc (.cells #[.int .i64 p] 3)).alloc (.cells #[vk] 87) := ⟨_, rfl⟩
  have hF : Frm (fun _ => False) w W := by rw [hW]; exact ((Frm.refl _ w).alloc _).alloc _
  have hb0 : Blk W G 3 #[.int .i64 p] := by rw [hW, hG]; exact (Blk.new w _ _).alloc _
  have hb1 : Blk W (G + 1) 87 #[vk] := by
    rw [hW, hG]
    have := Blk.new (w.alloc (.cells #[.int .i64 p] 3)) 87 #[vk]
    rwa [World.size_alloc] at this
  have hfn := fun (W' : World) (hF' : Frm (fun _ => False) W W') (e : Er) => touch1_any G (G + 1) p vk (fun q => q < w.heap.size) ks e W' (hF'.cell (hb0.cell 0) id) (hF'.cell (hb1.cell 0) id) (hk.keptTo fun q hq => ⟨(hF.trans hF' fun _ h => h.elim).block q hq id, hq⟩) (fun q hq => Nat.lt_of_lt_of_le hq (hF.trans hF' fun _ h => h.elim).size) hl
  have hbW := hb.kept hF id
  have x0 : W.cell? ⟨b, 1, none⟩ = some (.slice A n c) := hbW.cell 1
  have H := Lib.hid (And.intro hn (And.intro hx (And.intro hc.2 (And.intro hF (And.intro hfn hcs)))))
  obtain ⟨Ak, nk, ck, rfl, -⟩ := hk
  clear hn hx hc hF hfn hcs hb hbW hb0 hb1 hl hnc hcm
  go_enter Try.func47, Try.ntmps47
  go_upto_region 1 with fail
  rw [← hG, ← hW]
  clear hG hW
  go_wp2_with fail
  go_loopw [7, 16] (fun s i wr => ∃ k m : Nat, k ≤ n ∧ m ≤ k ∧ i = .int .i64 k ∧ s = .int .i64 m ∧ Hid (m = ((N.cs.take k).filter fun c => c.row.any (nameB p ks)).length ∧ Frm (fun _ => False) W wr)) (fun _ i _ => n - (intOf i).toNat)
  case atStart => exact ⟨0, 0, Nat.zero_le _, by omega, rfl, rfl, Lib.hid ⟨by simp, Frm.refl _ _⟩⟩
  case round =>
    obtain ⟨k, m, hk, hm, rfl, rfl, hT⟩ := hrel
    by_cases hlt : k < n
    · obtain ⟨hn, hx, hrow, hF, hfn, hcs⟩ := H.out
      have hkx : k < cks.length := by omega
      obtain ⟨g, o, rfl, hg, d0, d1, d2, d3⟩ := hx k hkx
      have hFw := hF.trans hT.out.2 fun _ h => h.elim
      have hra := hrow cks[k] (List.getElem_mem hkx)
      obtain ⟨A5, n5, c5, e5, -⟩ := id hra
      rw [e5] at d0 hra
      replace d0 := hFw.cell d0 id
      replace d1 := hFw.cell d1 id
      replace d2 := hFw.cell d2 id
      replace d3 := hFw.cell d3 id
      have hts : N.cs.take (k + 1) = N.cs.take k ++ [cks[k].c] := by rw [← hcs]; exact map_take_c cks k hkx
      have hcf := fun (W' : World) (hF' : Frm (fun _ => False) wr W') => contE_any A5 n5 c5 cks[k].c.row (nameB p ks) #[.pointer (some ⟨G, 0, none⟩), .pointer (some ⟨G + 1, 0, none⟩)] W' (hra.keptTo fun q hq => ⟨(hFw.trans hF' fun _ h => h.elim).block q hq id, Nat.lt_of_lt_of_le hq (hFw.trans hF' fun _ h => h.elim).size⟩) fun W2 hW2 e => hfn W2 ((hT.out.2.trans hF' fun _ h => h.elim).trans hW2 fun _ h => h.elim) e
      have HS := Lib.hid (And.intro hts (And.intro hcf hT.out))
      clear hn hx hrow hF hfn hcs hg hFw hra e5 hts hcf hT
      generalize cks[k].c = cc at *
      clear hkx
      go_upto_region 5 with fail
      have hFa : Frm (fun _ => False) wr (wr.alloc (.cells #[.slice A5 n5 c5, .int .i64 cc.at_, .int .u32 cc.sum, .int .i64 cc.wrong] 46)) := (Frm.refl _ wr).alloc _
      have hba := Blk.new wr 46 #[.slice A5 n5 c5, .int .i64 cc.at_, .int .u32 cc.sum, .int .i64 cc.wrong]
      generalize wr.alloc (.cells #[.slice A5 n5 c5, .int .i64 cc.at_, .int .u32 cc.sum, .int .i64 cc.wrong] 46) = w6 at *
      have y0 : w6.cell? ⟨wr.heap.size, 0, none⟩ = some (.slice A5 n5 c5) := hba.cell 0
      have H6 := Lib.hid hFa
      clear hFa hba d0 d1 d2 d3
      go_wp2_with fail
      refine (HS.out.2.1 w6 H6.out).mono ?_
      rintro e w7 ⟨rfl, hF7⟩
      have HF7 := Lib.hid ((HS.out.2.2.2.trans H6.out fun _ h => h.elim).trans hF7 fun _ h => h.elim)
      clear hF7 y0
      cases hb : cc.row.any (nameB p ks) with
      | true =>
        have HB := Lib.hid hb
        clear hb
        go_wp2_with fail
        go_roundw
        case rel => exact ⟨k + 1, m + 1, by omega, by omega, by go_num, by go_num, Lib.hid ⟨by rw [HS.out.1, List.filter_append, List.length_append, ← HS.out.2.2.1]; simp [HB.out], HF7.out⟩⟩
        case measure => simp [intOf]; omega
      | false =>
        have HB := Lib.hid hb
        clear hb
        go_wp2_with fail
        go_roundw
        case rel => exact ⟨k + 1, m, by omega, by omega, by go_num, rfl, Lib.hid ⟨by rw [HS.out.1, List.filter_append, List.length_append, ← HS.out.2.2.1]; simp [HB.out], HF7.out⟩⟩
        case measure => simp [intOf]; omega
    · obtain rfl : k = n := by omega
      have he : m = manyK N p ks := by
        have h1 := hT.out.1
        rw [List.take_of_length_le (by have := H.out.1; have := H.out.2.2.2.2.2; rw [← this]; simp; omega)] at h1
        exact h1
      have HE := Lib.hid he
      clear he
      go_wp2_with fail
      go_ret
      exact ⟨by rw [← HE.out]; rfl, H.out.2.2.2.1.trans hT.out.2 fun _ h => h.elim⟩
end Go.Proofs.Ytnibllkcacalhaa
namespace Go.Proofs.Ytnibllkcacalhaa
set_option maxRecDepth 100000
open Go.RowKit
theorem manyK_in (N : Nt) (p : Int) : manyK N p [1, 4] = manyNt N p true := by
  unfold manyK manyNt
  congr 2
  funext c
  unfold touchB
  congr 1
  funext e
  rw [Bool.eq_iff_iff]
  simp [nameB, List.contains_eq_any_beq]
theorem manyK_out (N : Nt) (p : Int) : manyK N p [2] = manyNt N p false := by
  unfold manyK manyNt
  congr 2
  funext c
  unfold touchB
  congr 1
  funext e
  rw [Bool.eq_iff_iff]
  simp [nameB, List.contains_eq_any_beq]
def okP (N : Nt) (p : Nat) : Bool := decide (manyNt N p true ≤ 1) && decide (manyNt N p false ≤ 1)
theorem range_take_no (f : Nat → Bool) {k n : Nat} (h : k < n) (hf : f k = false) : (List.range n).all f = false := by
  rw [List.all_eq_false]
  exact ⟨k, List.mem_range.2 h, by simp [hf]⟩
set_option maxHeartbeats 1600000 in
theorem clean_n (V : Value) (N : Nt) (w : World) (h : NR w V N) : Calls Try.prog 26 #[V] w (RetBool (cleanNt N) w) := by
  obtain ⟨A1, n1, c1, A, n, c, rfl⟩ := h.form
  obtain ⟨W0, hW0⟩ : ∃ W, W = (w.alloc (.cells #[.slice A1 n1 c1, .slice A n c] 25)).alloc (.cells #[.slice A1 n1 c1, .slice A n c] 66) := ⟨_, rfl⟩
  obtain ⟨h1, h2, -⟩ := net_boxes h W0 hW0
  obtain ⟨G, hG⟩ : ∃ G, G = w.heap.size := ⟨_, rfl⟩
  rw [← hG] at h1
  have hb : Blk W0 (G + 1) 66 #[.slice A1 n1 c1, .slice A n c] := by
    rw [hW0, hG]
    have := Blk.new (w.alloc (.cells #[.slice A1 n1 c1, .slice A n c] 25)) 66 #[.slice A1 n1 c1, .slice A n c]
    rwa [World.size_alloc] at this
  have hn1 : n1 = N.ps.length ∧ n1 ≤ 9223372036854775807 := by
    obtain ⟨A1', n1', c1', A', n', c', e, ps, cks, hp, hc, e1, e2⟩ := h
    cases e
    obtain ⟨q1, q2, q3, -⟩ := hp.cells
    rw [← e1, List.length_map]
    exact ⟨q1, by omega⟩
  have hnm := hn1.2
  have H := Lib.hid (And.intro h1 (And.intro h2 (And.intro hb hn1.1)))
  clear h h1 h2 hb hn1
  go_enter Try.func26, Try.ntmps26
  go_upto_region 2 with fail
  rw [← hW0, ← hG]
  clear hG hW0
  go_wp2_with fail
  refine (rightw_rd (G + 1) N W0 H.out.1).mono ?_
  rintro e w1 ⟨rfl, hF1⟩
  have HF1 := Lib.hid (And.intro hF1 (H.out.2.2.1.kept hF1 id))
  clear hF1
  cases hr : rightNt N with
  | false =>
    have HR : Hid (cleanNt N = false) := Lib.hid (by unfold cleanNt; rw [hr]; rfl)
    clear hr
    go_wp2_with fail
    go_ret
    exact ⟨by rw [HR.out]; rfl, H.out.2.1.trans HF1.out.1 fun _ h => h.elim⟩
  | true =>
    have HR : Hid (cleanNt N = (List.range n1).all (okP N)) := Lib.hid (by unfold cleanNt; rw [hr, H.out.2.2.2]; rfl)
    clear hr
    have x0 : w1.cell? ⟨G + 1, 0, none⟩ = some (.slice A1 n1 c1) := HF1.out.2.cell 0
    go_wp2_with fail
    go_loopw [17] (fun i wr => ∃ k : Nat, k ≤ n1 ∧ i = .int .i64 k ∧ Hid ((∀ j, j < k → okP N j = true) ∧ Frm (fun _ => False) W0 wr)) (fun i _ => n1 - (intOf i).toNat)
    case atStart => exact ⟨0, Nat.zero_le _, rfl, Lib.hid ⟨fun j h => by omega, HF1.out.1⟩⟩
    case round =>
      obtain ⟨k, hk, rfl, hT⟩ := hrel
      by_cases hlt : k < n1
      · have hrd := H.out.1.kept hT.out.2
        have hFa : Frm (fun _ => False) wr (wr.alloc (.cells #[.int .u8 1, .int .u8 4] 5)) := (Frm.refl _ wr).alloc _
        have ht := touch_rd (G + 1) N (k : Int) (.slice (some ⟨wr.heap.size, 0, none⟩) 2 2) [1, 4] _ (hrd.kept hFa) ((Sl.blk wr #[.int .u8 1, .int .u8 4] 5 (xs := kv [1, 4]) rfl ⟨rfl, by simp [kv]⟩).keptTo fun q hq => ⟨rfl, by rw [hq]; simp⟩) (by simp)
        rw [manyK_in] at ht
        have ht2 := fun (W : World) (hW : Frm (fun _ => False) wr W) => touch_rd (G + 1) N (k : Int) (.slice (some ⟨W.heap.size, 0, none⟩) 1 1) [2] _ ((hrd.kept hW).kept ((Frm.refl (fun _ => False) W).alloc (.cells #[.int .u8 2] 5))) ((Sl.blk W #[.int .u8 2] 5 (xs := kv [2]) rfl ⟨rfl, by simp [kv]⟩).keptTo fun q hq => ⟨rfl, by rw [hq]; simp⟩) (by simp)
        have hkk : ∀ j, j < k → okP N j = true := hT.out.1
        have hok : okP N k = (decide (manyNt N k true ≤ 1) && decide (manyNt N k false ≤ 1)) := rfl
        simp only [manyK_out] at ht2
        have HS := Lib.hid (And.intro ht (And.intro ht2 (And.intro hkk (And.intro hok (And.intro hT.out.2 hFa)))))
        clear hrd hFa ht ht2 hkk hok hT x0
        generalize manyNt N k true = m1 at *
        generalize manyNt N k false = m2 at *
        go_wp2_with fail
        refine HS.out.1.mono ?_
        rintro e w2 ⟨rfl, hF2⟩
        have HF2 := Lib.hid (HS.out.2.2.2.2.2.trans hF2 fun _ h => h.elim)
        clear hF2
        by_cases h1 : m1 ≤ 1
        · have g1 : decide ((1 : Int) < m1) = false := by simp; omega
          go_wp2_with fail
          refine (HS.out.2.1 w2 HF2.out).mono ?_
          rintro e w3 ⟨rfl, hF3⟩
          have HF3 := Lib.hid (HF2.out.trans (((Frm.refl (fun _ => False) w2).alloc (.cells #[.int .u8 2] 5)).trans hF3 fun _ h => h.elim) fun _ h => h.elim)
          clear hF3
          by_cases h2 : m2 ≤ 1
          · have g2 : decide ((1 : Int) < m2) = false := by simp; omega
            go_wp2_with fail
            go_roundw
            case rel => exact ⟨k + 1, by omega, by go_num, Lib.hid ⟨fun j hj => by
              rcases Nat.lt_or_ge j k with h | h
              · exact HS.out.2.2.1 j h
              · obtain rfl : j = k := by omega
                rw [HS.out.2.2.2.1]
                simp [h1, h2], HS.out.2.2.2.2.1.trans HF3.out fun _ h => h.elim⟩⟩
            case measure => simp [intOf]; omega
          · have g2 : decide ((1 : Int) < m2) = true := by simp; omega
            have HN : Hid (cleanNt N = false) := Lib.hid (by rw [HR.out]; exact range_take_no _ hlt (by rw [HS.out.2.2.2.1]; simp [h2]))
            go_wp2_with fail
            go_ret
            exact ⟨by rw [HN.out]; rfl, (H.out.2.1.trans HS.out.2.2.2.2.1 fun _ h => h.elim).trans HF3.out fun _ h => h.elim⟩
        · have g1 : decide ((1 : Int) < m1) = true := by simp; omega
          have HN : Hid (cleanNt N = false) := Lib.hid (by rw [HR.out]; exact range_take_no _ hlt (by rw [HS.out.2.2.2.1]; simp [h1]))
          go_wp2_with fail
          go_ret
          exact ⟨by rw [HN.out]; rfl, (H.out.2.1.trans HS.out.2.2.2.2.1 fun _ h => h.elim).trans HF2.out fun _ h => h.elim⟩
      · obtain rfl : k = n1 := by omega
        have HN : Hid (cleanNt N = true) := Lib.hid (by rw [HR.out, List.all_eq_true]; exact fun j hj => hT.out.1 j (List.mem_range.1 hj))
        go_wp2_with fail
        go_ret
        exact ⟨by rw [HN.out]; rfl, H.out.2.1.trans hT.out.2 fun _ h => h.elim⟩
end Go.Proofs.Ytnibllkcacalhaa
namespace Go.Proofs.Ytnibllkcacalhaa
set_option maxRecDepth 100000
open Go.RowKit
theorem all_same_no {l l' : List Ch} {k : Nat} (h : k < l.length) (h' : k < l'.length) (hne : l[k] ≠ l'[k]) : l ≠ l' := by
  rintro rfl
  exact hne rfl
set_option maxHeartbeats 1600000 in
theorem eqC_any (A : Option Addr) (n c : Nat) (A' : Option Addr) (n' c' : Nat) (xs ys : List Ck) (w : World) (h : CsAt w (fun q => q < w.heap.size) (.slice A n c) xs) (h' : CsAt w (fun q => q < w.heap.size) (.slice A' n' c') ys) :
    Calls Try.prog 50 #[.slice A n c, .slice A' n' c', .func (.func 51) #[] #[]] w (RetBool (decide (xs.map (·.c) = ys.map (·.c))) w) := by
  obtain ⟨hn, hnc, hcm, hx⟩ := h.cells
  obtain ⟨hn', hnc', hcm', hx'⟩ := h'.cells
  have hnm : n ≤ 9223372036854775807 := by omega
  obtain ⟨R, hR⟩ : ∃ R, R = decide (xs.map (·.c) = ys.map (·.c)) := ⟨_, rfl⟩
  rw [← hR]
  have H := Lib.hid (And.intro hn (And.intro hx (And.intro h.2 (And.intro hn' (And.intro hx' (And.intro h'.2 hR))))))
  clear h h' hn hx hn' hx' hnc hcm hnc' hcm' hR
  by_cases hnn : n = n'
  · subst hnn
    have hl : ((n : Int) != (n : Int)) = false := by simp
    go_enter Try.func50, Try.ntmps50
    go_wp2_with fail
    go_loopw [17] (fun i wr => ∃ k : Nat, k ≤ n ∧ i = .int .i64 k ∧ Hid ((xs.map (·.c)).take k = (ys.map (·.c)).take k ∧ Frm (fun _ => False) w wr)) (fun i _ => n - (intOf i).toNat)
    case atStart => exact ⟨0, Nat.zero_le _, rfl, Lib.hid ⟨by simp, Frm.refl _ _⟩⟩
    case round =>
      obtain ⟨k, hk, rfl, hT⟩ := hrel
      by_cases hlt : k < n
      · obtain ⟨hn, hx, hrow, hn', hx', hrow', hR⟩ := H.out
        have hkx : k < xs.length := by omega
        have hky : k < ys.length := by omega
        have hF := hT.out.2
        obtain ⟨g, o, rfl, hg, d0, d1, d2, d3⟩ := hx k hkx
        obtain ⟨g', o', rfl, hg', e0, e1, e2, e3⟩ := hx' k hky
        have hra := hrow xs[k] (List.getElem_mem hkx)
        have hrb := hrow' ys[k] (List.getElem_mem hky)
        obtain ⟨A5, n5, c5, e5, -⟩ := id hra
        obtain ⟨A6, n6, c6, e6, -⟩ := id hrb
        rw [e5] at d0 hra
        rw [e6] at e0 hrb
        replace d0 := hF.cell d0 id
        replace d1 := hF.cell d1 id
        replace d2 := hF.cell d2 id
        replace d3 := hF.cell d3 id
        replace e0 := hF.cell e0 id
        replace e1 := hF.cell e1 id
        replace e2 := hF.cell e2 id
        replace e3 := hF.cell e3 id
        have ts := map_take_c xs k hkx
        have ts' := map_take_c ys k hky
        have hne : decide (xs[k].c = ys[k].c) = false → R = false := fun h => by
          rw [hR, decide_eq_false_iff_not]
          have h1 : xs[k].c ≠ ys[k].c := by simpa using h
          exact all_same_no (by rw [List.length_map]; exact hkx) (by rw [List.length_map]; exact hky) (by rw [List.getElem_map, List.getElem_map]; exact h1)
        have hsm := fun (W : World) (hW : Frm (fun _ => False) wr W) => csame_any (fun q => q < W.heap.size) A5 n5 c5 xs[k].c.at_ xs[k].c.sum xs[k].c.wrong xs[k].c.row A6 n6 c6 ys[k].c.at_ ys[k].c.sum ys[k].c.wrong ys[k].c.row W
          (hra.keptTo fun q hq => ⟨(hF.trans hW fun _ h => h.elim).block q hq id, Nat.lt_of_lt_of_le hq (hF.trans hW fun _ h => h.elim).size⟩)
          (hrb.keptTo fun q hq => ⟨(hF.trans hW fun _ h => h.elim).block q hq id, Nat.lt_of_lt_of_le hq (hF.trans hW fun _ h => h.elim).size⟩) fun _ h => h
        have HS := Lib.hid (And.intro ts (And.intro ts' (And.intro hne (And.intro hsm hT.out))))
        clear hn hx hrow hn' hx' hrow' hR hg hg' hF hra hrb e5 e6 ts ts' hne hsm hT
        generalize xs[k].c = cx at *
        generalize ys[k].c = cy at *
        clear hkx hky
        go_upto_region 6 with fail
        have hFa : Frm (fun _ => False) wr (wr.alloc (.cells #[.slice A5 n5 c5, .int .i64 cx.at_, .int .u32 cx.sum, .int .i64 cx.wrong] 46)) := (Frm.refl _ wr).alloc _
        have hba := Blk.new wr 46 #[.slice A5 n5 c5, .int .i64 cx.at_, .int .u32 cx.sum, .int .i64 cx.wrong]
        obtain ⟨G, hG⟩ : ∃ G, G = wr.heap.size := ⟨_, rfl⟩
        rw [← hG] at hba ⊢
        generalize wr.alloc (.cells #[.slice A5 n5 c5, .int .i64 cx.at_, .int .u32 cx.sum, .int .i64 cx.wrong] 46) = w6 at *
        replace e0 := hFa.cell e0 id
        replace e1 := hFa.cell e1 id
        replace e2 := hFa.cell e2 id
        replace e3 := hFa.cell e3 id
        have H6 := Lib.hid (And.intro hFa hba)
        clear hFa hba d0 d1 d2 d3 hG
        go_upto_region 7 with fail
        have hFb : Frm (fun _ => False) w6 (w6.alloc (.cells #[.slice A6 n6 c6, .int .i64 cy.at_, .int .u32 cy.sum, .int .i64 cy.wrong] 46)) := (Frm.refl _ w6).alloc _
        have hbb := Blk.new w6 46 #[.slice A6 n6 c6, .int .i64 cy.at_, .int .u32 cy.sum, .int .i64 cy.wrong]
        obtain ⟨G', hG'⟩ : ∃ G, G = w6.heap.size := ⟨_, rfl⟩
        rw [← hG'] at hbb ⊢
        have hba := H6.out.2.kept hFb id
        generalize w6.alloc (.cells #[.slice A6 n6 c6, .int .i64 cy.at_, .int .u32 cy.sum, .int .i64 cy.wrong] 46) = w7 at *
        have x0 : w7.cell? ⟨G, 0, none⟩ = some (.slice A5 n5 c5) := hba.cell 0
        have x1 : w7.cell? ⟨G, 1, none⟩ = some (.int .i64 cx.at_) := hba.cell 1
        have x2 : w7.cell? ⟨G, 2, none⟩ = some (.int .u32 cx.sum) := hba.cell 2
        have x3 : w7.cell? ⟨G, 3, none⟩ = some (.int .i64 cx.wrong) := hba.cell 3
        have y0 : w7.cell? ⟨G', 0, none⟩ = some (.slice A6 n6 c6) := hbb.cell 0
        have y1 : w7.cell? ⟨G', 1, none⟩ = some (.int .i64 cy.at_) := hbb.cell 1
        have y2 : w7.cell? ⟨G', 2, none⟩ = some (.int .u32 cy.sum) := hbb.cell 2
        have y3 : w7.cell? ⟨G', 3, none⟩ = some (.int .i64 cy.wrong) := hbb.cell 3
        have H7 := Lib.hid (H6.out.1.trans hFb fun _ h => h.elim)
        clear hFb hba hbb e0 e1 e2 e3 hG'
        go_wp2_with fail
        refine (HS.out.2.2.2.1 w7 H7.out).mono ?_
        rintro e w8 ⟨rfl, hF8⟩
        have HF8 := Lib.hid ((HS.out.2.2.2.2.2.trans H7.out fun _ h => h.elim).trans hF8 fun _ h => h.elim)
        clear hF8 x0 x1 x2 x3 y0 y1 y2 y3
        have HE := Lib.hid (show (⟨cx.row, cx.at_, cx.sum, cx.wrong⟩ : Ch) = cx ∧ (⟨cy.row, cy.at_, cy.sum, cy.wrong⟩ : Ch) = cy from ⟨rfl, rfl⟩)
        cases hb : decide ((⟨cx.row, cx.at_, cx.sum, cx.wrong⟩ : Ch) = ⟨cy.row, cy.at_, cy.sum, cy.wrong⟩) with
        | true =>
          have HB := Lib.hid (of_decide_eq_true hb)
          clear hb
          go_wp2_with fail
          go_roundw
          case rel => exact ⟨k + 1, by omega, by go_num, Lib.hid ⟨by rw [HS.out.1, HS.out.2.1, HS.out.2.2.2.2.1]; exact congrArg (fun z => (ys.map (·.c)).take k ++ [z]) HB.out, HF8.out⟩⟩
          case measure => simp [intOf]; omega
        | false =>
          have HB := Lib.hid (HS.out.2.2.1 hb)
          clear hb
          go_wp2_with fail
          go_ret
          exact ⟨by rw [HB.out]; rfl, HF8.out⟩
      · obtain rfl : k = n := by omega
        have hr : R = true := by
          obtain ⟨hn, hx, hrow, hn', hx', hrow', hR⟩ := H.out
          have h1 := hT.out.1
          rw [List.take_of_length_le (by rw [List.length_map]; omega), List.take_of_length_le (by rw [List.length_map]; omega)] at h1
          rw [hR, h1]
          simp
        have HR := Lib.hid hr
        clear hr
        go_wp2_with fail
        go_ret
        exact ⟨by rw [HR.out]; rfl, hT.out.2⟩
  · have hl : ((n : Int) != (n' : Int)) = true := by simp; omega
    have hr : R = false := by
      rw [H.out.2.2.2.2.2.2, decide_eq_false_iff_not]
      intro h
      have := congrArg List.length h
      rw [List.length_map, List.length_map] at this
      have := H.out.1
      have := H.out.2.2.2.1
      omega
    have HR := Lib.hid hr
    clear hr
    go_enter Try.func50, Try.ntmps50
    go_wp2_with fail
    go_ret
    exact ⟨by rw [HR.out]; rfl, Frm.refl _ _⟩
/-- Two boxes of nets. -/
theorem pair_boxes {w : World} {A1 A A1' A' : Option Addr} {n1 c1 n c n1' c1' n' c' : Nat} {N M : Nt} (h : NR w (.agg #[.slice A1 n1 c1, .slice A n c]) N) (h' : NR w (.agg #[.slice A1' n1' c1', .slice A' n' c']) M) (W : World)
    (hW : W = (w.alloc (.cells #[.slice A1 n1 c1, .slice A n c] 25)).alloc (.cells #[.slice A1' n1' c1', .slice A' n' c'] 25)) :
    Rd W w.heap.size 25 (fun q => q < w.heap.size) N ∧ Rd W (w.heap.size + 1) 25 (fun q => q < w.heap.size) M ∧ Frm (fun _ => False) w W := by
  subst hW
  have hF : Frm (fun _ => False) w ((w.alloc (.cells #[.slice A1 n1 c1, .slice A n c] 25)).alloc (.cells #[.slice A1' n1' c1', .slice A' n' c'] 25)) := ((Frm.refl _ w).alloc _).alloc _
  obtain ⟨_, _, _, _, _, _, e, ps, cks, h1, h2, h3, h4⟩ := h
  cases e
  obtain ⟨_, _, _, _, _, _, e, ps', cks', g1, g2, g3, g4⟩ := h'
  cases e
  refine ⟨⟨_, _, _, _, _, _, ps, cks, (Blk.new w _ _).alloc _, h1.keptTo fun q hq => ⟨hF.block q hq id, hq⟩, h2.keptTo fun q hq => ⟨hF.block q hq id, hq⟩, h3, h4⟩, ⟨_, _, _, _, _, _, ps', cks', ?_, g1.keptTo fun q hq => ⟨hF.block q hq id, hq⟩, g2.keptTo fun q hq => ⟨hF.block q hq id, hq⟩, g3, g4⟩, hF⟩
  have := Blk.new (w.alloc (.cells #[.slice A1 n1 c1, .slice A n c] 25)) 25 #[.slice A1' n1' c1', .slice A' n' c']
  rwa [World.size_alloc] at this
theorem Rd.stay {w w' : World} {b : Nat} {t : TypeId} {K : Nat → Prop} {n : Nt} (h : Rd w b t K n) (hF : Frm (fun _ => False) w w') (hK : ∀ q, K q → q < w.heap.size) : Rd w' b t K n := by
  obtain ⟨A1, n1, c1, A, k, c, ps, cks, h1, h2, h3, h4⟩ := h
  exact ⟨A1, n1, c1, A, k, c, ps, cks, h1.kept hF id, h2.keptTo fun q hq => ⟨hF.block q (hK q hq) id, hq⟩, h3.keptTo fun q hq => ⟨hF.block q (hK q hq) id, hq⟩, h4⟩
set_option maxHeartbeats 1600000 in
theorem same_n (V V' : Value) (N M : Nt) (w : World) (h : NR w V N) (h' : NR w V' M) : Calls Try.prog 28 #[V, V'] w (RetBool (decide (N = M)) w) := by
  obtain ⟨A1, n1, c1, A, n, c, rfl⟩ := h.form
  obtain ⟨A1', n1', c1', A', n', c', rfl⟩ := h'.form
  obtain ⟨W, hW⟩ : ∃ W, W = (w.alloc (.cells #[.slice A1 n1 c1, .slice A n c] 25)).alloc (.cells #[.slice A1' n1' c1', .slice A' n' c'] 25) := ⟨_, rfl⟩
  obtain ⟨G, hG⟩ : ∃ G, G = w.heap.size := ⟨_, rfl⟩
  obtain ⟨-, -, hF⟩ := pair_boxes h h' W hW
  have hb1 : Blk W G 25 #[.slice A1 n1 c1, .slice A n c] := by rw [hW, hG]; exact (Blk.new w _ _).alloc _
  have hb2 : Blk W (G + 1) 25 #[.slice A1' n1' c1', .slice A' n' c'] := by
    rw [hW, hG]
    have := Blk.new (w.alloc (.cells #[.slice A1 n1 c1, .slice A n c] 25)) 25 #[.slice A1' n1' c1', .slice A' n' c']
    rwa [World.size_alloc] at this
  obtain ⟨_, _, _, _, _, _, e, ps, cks, h1, h2, h3, h4⟩ := h
  cases e
  obtain ⟨_, _, _, _, _, _, e, ps', cks', g1, g2, g3, g4⟩ := h'
  cases e
  obtain ⟨N1, N2⟩ := N
  obtain ⟨M1, M2⟩ := M
  dsimp only at h3 h4 g3 g4
  have hal := calike_any (fun q => q < w.heap.size) A1 n1 c1 A1' n1' c1' ps ps' W (h1.keptTo fun q hq => ⟨hF.block q hq id, hq⟩) (g1.keptTo fun q hq => ⟨hF.block q hq id, hq⟩) (fun q hq => Nat.lt_of_lt_of_le hq hF.size)
  have heq := fun (W' : World) (hW' : Frm (fun _ => False) w W') => eqC_any A n c A' n' c' cks cks' W' (h2.keptTo fun q hq => ⟨hW'.block q hq id, Nat.lt_of_lt_of_le hq hW'.size⟩) (g2.keptTo fun q hq => ⟨hW'.block q hq id, Nat.lt_of_lt_of_le hq hW'.size⟩)
  unfold AlikePost at hal
  rw [h3, g3] at hal
  rw [h4, g4] at heq
  have x0 : W.cell? ⟨G, 0, none⟩ = some (.slice A1 n1 c1) := hb1.cell 0
  have x1 : W.cell? ⟨G + 1, 0, none⟩ = some (.slice A1' n1' c1') := hb2.cell 0
  have H := Lib.hid (And.intro hF (And.intro hal (And.intro heq (And.intro hb1 hb2))))
  clear h1 h2 h3 h4 g1 g2 g3 g4 hal heq hF hb1 hb2
  go_enter Try.func28, Try.ntmps28
  go_upto_region 1 with fail
  rw [← hW, ← hG]
  clear hG hW
  go_wp2_with fail
  refine H.out.2.1.mono ?_
  rintro e w1 ⟨rfl, hF1⟩
  have hb1 := H.out.2.2.2.1.kept hF1 id
  have hb2 := H.out.2.2.2.2.kept hF1 id
  have y0 : w1.cell? ⟨G, 1, none⟩ = some (.slice A n c) := hb1.cell 1
  have y1 : w1.cell? ⟨G + 1, 1, none⟩ = some (.slice A' n' c') := hb2.cell 1
  have HF1 := Lib.hid (H.out.1.trans hF1 fun _ h => h.elim)
  clear hF1 hb1 hb2 x0 x1
  cases hp : decide (N1 = M1) with
  | false =>
    have HP : Hid (decide ((⟨N1, N2⟩ : Nt) = ⟨M1, M2⟩) = false) := Lib.hid (by
      rw [decide_eq_false_iff_not] at hp ⊢
      intro h; cases h; exact hp rfl)
    clear hp
    go_wp2_with fail
    go_ret
    exact ⟨by rw [HP.out]; rfl, HF1.out⟩
  | true =>
    have HP : Hid (decide ((⟨N1, N2⟩ : Nt) = ⟨M1, M2⟩) = decide (N2 = M2)) := Lib.hid (by
      obtain rfl : N1 = M1 := of_decide_eq_true hp
      simp)
    clear hp
    go_wp2_with fail
    refine (H.out.2.2.1 w1 HF1.out).mono ?_
    rintro e w2 ⟨rfl, hF2⟩
    have HF2 := Lib.hid (HF1.out.trans hF2 fun _ h => h.elim)
    clear hF2
    go_wp2_with fail
    go_ret
    exact ⟨by rw [HP.out]; rfl, HF2.out⟩
end Go.Proofs.Ytnibllkcacalhaa
namespace Go.Proofs.Ytnibllkcacalhaa
set_option maxRecDepth 100000
def saneB (n : Nt) : Bool := n.cs.all fun c => decide (c.wrong ≤ c.at_)
theorem choreN_sane (e : Er) (c : Ch) (p : Option Pi) (h : c.wrong ≤ c.at_) (h2 : c.at_ ≤ c.row.length) : (choreN e c p).wrong ≤ (choreN e c p).at_ := by
  unfold choreN
  split
  · dsimp only
    split <;> omega
  split
  · dsimp only; omega
  split
  · dsimp only; omega
  split
  · dsimp only; omega
  · dsimp only; omega
theorem step_goes {n : Nt} {k : Nat} (h : k ∈ readyNt n) (hs : saneB n = true) : rightNt (stepC n k) = true ∧ saneB (stepC n k) = true := by
  obtain ⟨hr, c, hc, hrd, hk⟩ := ready_of h
  have hrs : rightNt n = true := hr
  unfold rightNt at hr
  simp only [Bool.and_eq_true, decide_eq_true_eq, List.all_eq_true] at hr
  obtain ⟨h1, h2, h3⟩ := hr
  unfold saneB at hs
  simp only [List.all_eq_true, decide_eq_true_eq] at hs
  have hcm : c ∈ n.cs := List.mem_of_getElem? hc
  have hcs := hs c hcm
  have hcr := h3 c hcm
  obtain ⟨es, a, s, r⟩ := c
  obtain ⟨j, x, rfl, hx, -, -, -, -, hst⟩ := ready_parts hrd
  have hj : j < es.length := (List.getElem?_eq_some_iff.1 hx).1
  obtain ⟨q1, q2, q3, q4, q5, q6⟩ := head_of hcr
  have hg := goes_plain h1 hcr (by dsimp only at hcs; omega) hrd
  obtain ⟨g1, g2, g3, g4, g5, g6⟩ := hg
  have e : stepC n k = ⟨(stepN ⟨es, j, s, r⟩ n.ps).2, n.cs.set k (stepN ⟨es, j, s, r⟩ n.ps).1⟩ := by unfold stepC; rw [hc]
  rw [e]
  constructor
  · unfold rightNt
    simp only [Bool.and_eq_true, decide_eq_true_eq, List.all_eq_true, List.length_set]
    refine ⟨g3, h2, fun c' hc' => ?_⟩
    rcases List.mem_or_eq_of_mem_set hc' with hm | rfl
    · rw [g4]; exact h3 c' hm
    · exact g2
  · unfold saneB
    simp only [List.all_eq_true, decide_eq_true_eq]
    intro c' hc'
    rcases List.mem_or_eq_of_mem_set hc' with hm | rfl
    · exact hs c' hm
    · rw [hst]
      exact choreN_sane x _ _ hcs (by dsimp only; omega)
theorem run_goes : ∀ (ps : List Int) (n : Nt), rightNt n = true → saneB n = true → rightNt (runNt n ps).1 = true ∧ saneB (runNt n ps).1 = true ∧ (runNt n ps).1.cs.length = n.cs.length ∧ (runNt n ps).1.ps.length = n.ps.length
  | [], n, hr, hs => ⟨hr, hs, rfl, rfl⟩
  | p :: ps, n, hr, hs => by
    by_cases h : readyNt n = []
    · rw [runNt, if_pos h]; exact ⟨hr, hs, rfl, rfl⟩
    · rw [runNt, if_neg h]
      have hp : pickAt (readyNt n) p ∈ readyNt n := by
        have hl : 0 < (readyNt n).length := List.length_pos_iff.2 h
        have h1 := Int.emod_lt_of_pos p (show (0 : Int) < (readyNt n).length by omega)
        have h2 := Int.emod_nonneg p (show ((readyNt n).length : Int) ≠ 0 by omega)
        have h3 : (p % (readyNt n).length).toNat < (readyNt n).length := by omega
        unfold pickAt
        rw [List.getD_eq_getElem?_getD, List.getElem?_eq_getElem h3]
        exact List.getElem_mem h3
      have hg := step_goes hp hs
      have hc := step_cs hp
      have ih := run_goes ps (stepC n (pickAt (readyNt n) p)) hg.1 hg.2
      dsimp only
      exact ⟨ih.1, ih.2.1, by rw [ih.2.2.1, hc.1], by rw [ih.2.2.2, hc.2]⟩
theorem fin_goes : ∀ (f : Nat) (n : Nt), leftNt n ≤ f → rightNt n = true → saneB n = true → rightNt (finN n).1 = true ∧ saneB (finN n).1 = true ∧ (finN n).1.cs.length = n.cs.length ∧ (finN n).1.ps.length = n.ps.length
  | f, n, h, hr, hs => by
    cases hrd : readyNt n with
    | nil => rw [fin_end hrd]; exact ⟨hr, hs, rfl, rfl⟩
    | cons k ks =>
      have hk : k ∈ readyNt n := by rw [hrd]; simp
      have hl := step_left hk
      cases f with
      | zero => omega
      | succ f =>
        have hg := step_goes hk hs
        have hc := step_cs hk
        have ih := fin_goes f (stepC n k) (by omega) hg.1 hg.2
        rw [fin_head hrd]
        dsimp only
        exact ⟨ih.1, ih.2.1, by rw [ih.2.2.1, hc.1], by rw [ih.2.2.2, hc.2]⟩
/-- Two errands that may be done in either order. -/
structure Comm (ps : List Pi) (ci : Ch) (xi : Er) (ck : Ch) (xk : Er) : Prop where
  ak : canB xk (pipesN xi ci ps) = true
  ai : canB xi (pipesN xk ck ps) = true
  bk : choreN xk ck (pipesN xi ci ps)[xk.q.toNat]? = choreN xk ck ps[xk.q.toNat]?
  bi : choreN xi ci (pipesN xk ck ps)[xi.q.toNat]? = choreN xi ci ps[xi.q.toNat]?
  pp : pipesN xk ck (pipesN xi ci ps) = pipesN xi ci (pipesN xk ck ps)
theorem Comm.symm {ps : List Pi} {ci ck : Ch} {xi xk : Er} (h : Comm ps ci xi ck xk) : Comm ps ck xk ci xi := ⟨h.ai, h.ak, h.bi, h.bk, h.pp.symm⟩
theorem pipesN_no {e : Er} {c : Ch} {l : List Pi} (h : e.d = 3 ∨ e.d = 5) : pipesN e c l = l := by unfold pipesN; rw [if_pos h]
theorem pipesN_at {e : Er} {c : Ch} {l : List Pi} (h : e.d = 1 ∨ e.d = 2 ∨ e.d = 4) : pipesN e c l = l.modify e.q.toNat (pipeN e c) := by unfold pipesN; rw [if_neg (by omega)]
theorem canB_34 {e : Er} {l : List Pi} (h : e.d = 3 ∨ e.d = 4 ∨ e.d = 5) : canB e l = true := by unfold canB; rw [if_neg (by omega)]
theorem canB_12 {e : Er} {l : List Pi} {p : Pi} (h : e.d = 1 ∨ e.d = 2) (hp : l[e.q.toNat]? = some p) : canB e l = canP e.d p := by unfold canB; rw [if_pos h, hp]
theorem canB_ext {e : Er} {l l' : List Pi} (h : l[e.q.toNat]? = l'[e.q.toNat]?) : canB e l = canB e l' := by unfold canB; rw [h]
theorem choreN_35 {e : Er} {c : Ch} {p p' : Option Pi} (h : e.d = 3 ∨ e.d = 5 ∨ e.d = 4) : choreN e c p = choreN e c p' := by
  have h1 : ¬ e.d = 1 := by omega
  have h2 : ¬ e.d = 2 := by omega
  unfold choreN
  simp only [if_neg h1, if_neg h2]
theorem choreN_2 (q n : Int) (c : Ch) (p : Option Pi) : choreN ⟨2, q, n⟩ c p = { c with at_ := c.at_ + 1, sum := (p.map (getS c.sum)).getD c.sum } := by
  unfold choreN
  rw [if_neg (show ¬ (2 : Int) = 1 by decide), if_pos rfl]
theorem putP_closed {v : Int} {p : Pi} (h : p.closed = true) : putP v p = p := by unfold putP; rw [if_pos h]
theorem putP_open {v : Int} {p : Pi} (h : p.closed = false) : putP v p = { p with ins := p.ins ++ [u32w v] } := by unfold putP; rw [if_neg (by rw [h]; simp)]
theorem modify_at {l : List Pi} {j m : Nat} (f : Pi → Pi) (h : j ≠ m) : (l.modify j f)[m]? = l[m]? := by rw [List.getElem?_modify]; simp [h]
theorem modify_sm {l : List Pi} {j : Nat} (f : Pi → Pi) {p : Pi} (h : l[j]? = some p) : (l.modify j f)[j]? = some (f p) := by rw [List.getElem?_modify]; simp [h]
theorem modify_comm {l : List Pi} {j m : Nat} (f g : Pi → Pi) (h : j ≠ m) : (l.modify j f).modify m g = (l.modify m g).modify j f := by
  apply List.ext_getElem?
  intro i
  rw [List.getElem?_modify, List.getElem?_modify, List.getElem?_modify, List.getElem?_modify]
  cases l[i]? with
  | none => rfl
  | some p =>
    by_cases h1 : m = i
    · subst h1; simp [h]
    · by_cases h2 : j = i
      · subst h2; simp [h1]
      · simp [h1, h2]
theorem modify_two {l : List Pi} {j : Nat} (f g : Pi → Pi) {p : Pi} (h : l[j]? = some p) (hfg : g (f p) = f (g p)) : (l.modify j f).modify j g = (l.modify j g).modify j f := by
  apply List.ext_getElem?
  intro i
  rw [List.getElem?_modify, List.getElem?_modify, List.getElem?_modify, List.getElem?_modify]
  by_cases h1 : j = i
  · subst h1; rw [h]; simp [hfg]
  · cases l[i]? <;> simp [h1]
theorem comm_no {ps : List Pi} {ci ck : Ch} {xi xk : Er} (h : xi.d = 3 ∨ xi.d = 5) (hk : canB xk ps = true) : Comm ps ci xi ck xk := by
  refine ⟨by rw [pipesN_no h]; exact hk, canB_34 (by omega), by rw [pipesN_no h], choreN_35 (by omega), by rw [pipesN_no h, pipesN_no h]⟩
theorem comm_apart {ps : List Pi} {ci ck : Ch} {xi xk : Er} (hi : xi.d = 1 ∨ xi.d = 2 ∨ xi.d = 4) (hk : xk.d = 1 ∨ xk.d = 2 ∨ xk.d = 4) (hne : xi.q.toNat ≠ xk.q.toNat) (ai : canB xi ps = true) (ak : canB xk ps = true) : Comm ps ci xi ck xk := by
  have e1 : (pipesN xi ci ps)[xk.q.toNat]? = ps[xk.q.toNat]? := by rw [pipesN_at hi, modify_at _ hne]
  have e2 : (pipesN xk ck ps)[xi.q.toNat]? = ps[xi.q.toNat]? := by rw [pipesN_at hk, modify_at _ (Ne.symm hne)]
  exact ⟨by rw [canB_ext e1]; exact ak, by rw [canB_ext e2]; exact ai, by rw [e1], by rw [e2], by rw [pipesN_at hk, pipesN_at hi, pipesN_at hi, pipesN_at hk, modify_comm _ _ hne]⟩
theorem comm_get {ps : List Pi} {ci ck : Ch} {xi xk : Er} {p : Pi} (hi : xi.d = 2) (hk : xk.d = 1 ∨ xk.d = 4) (hq : xi.q.toNat = xk.q.toNat) (hp : ps[xk.q.toNat]? = some p) (ai : canB xi ps = true) (ak : canB xk ps = true) : Comm ps ci xi ck xk := by
  obtain ⟨di, qi, ni⟩ := xi
  obtain ⟨dk, qk, nk⟩ := xk
  dsimp only at hi hk hq hp
  subst hi
  have hp' : ps[qi.toNat]? = some p := by rw [hq]; exact hp
  have P1 : pipesN ⟨2, qi, ni⟩ ci ps = ps.modify qk.toNat getP := by
    rw [pipesN_at (.inr (.inl rfl))]
    dsimp only
    rw [hq]
    rfl
  have e1 : (pipesN ⟨2, qi, ni⟩ ci ps)[qk.toNat]? = some (getP p) := by rw [P1]; exact modify_sm _ hp
  have a1 : canP 2 p = true := by rw [← canB_12 (e := ⟨2, qi, ni⟩) (.inr rfl) hp']; exact ai
  rcases hk with rfl | rfl
  · have P2 : ∀ l, pipesN ⟨1, qk, nk⟩ ck l = l.modify qk.toNat (putP (ck.sum + nk)) := fun l => by rw [pipesN_at (.inl rfl)]; rfl
    have P1' : ∀ l, pipesN ⟨2, qi, ni⟩ ci l = l.modify qk.toNat getP := fun l => by
      rw [pipesN_at (.inr (.inl rfl))]
      dsimp only
      rw [hq]
      rfl
    have e2 : (pipesN ⟨1, qk, nk⟩ ck ps)[qi.toNat]? = some (putP (ck.sum + nk) p) := by rw [P2, hq]; exact modify_sm _ hp
    have a2 : canP 1 p = true := by rw [← canB_12 (e := ⟨1, qk, nk⟩) (.inl rfl) hp]; exact ak
    have hcl : p.closed = true ∨ (p.closed = false ∧ ∃ x xs, p.ins = x :: xs) := by
      cases hc : p.closed with
      | true => exact .inl rfl
      | false =>
        right
        refine ⟨rfl, ?_⟩
        unfold canP at a1
        rw [hc] at a1
        cases hin : p.ins with
        | nil => rw [hin] at a1; simp at a1
        | cons x xs => exact ⟨x, xs, rfl⟩
    refine ⟨?_, ?_, ?_, ?_, ?_⟩
    · rw [canB_12 (.inl rfl) e1]
      unfold canP at a2 ⊢
      simp only [getP, List.length_drop] at a2 ⊢
      simp only [if_true, Bool.or_eq_true, decide_eq_true_eq] at a2 ⊢
      rcases a2 with h | h
      · exact .inl h
      · right; omega
    · rw [canB_12 (.inr rfl) e2]
      rcases hcl with h | ⟨h, x, xs, hx⟩
      · rw [putP_closed h]; exact a1
      · rw [putP_open h]
        simp [canP, hx]
    · dsimp only
      rw [e1, hp]
      simp [choreN, getP]
    · dsimp only
      rw [e2, hp', choreN_2, choreN_2]
      have : getS ci.sum (putP (ck.sum + nk) p) = getS ci.sum p := by
        rcases hcl with h | ⟨h, x, xs, hx⟩
        · rw [putP_closed h]
        · rw [putP_open h]
          unfold getS
          simp [hx]
      simp only [Option.map_some, Option.getD_some, this]
    · rw [P2, P1', P1', P2]
      refine modify_two _ _ hp ?_
      rcases hcl with h | ⟨h, x, xs, hx⟩
      · rw [putP_closed (show (getP p).closed = true from h), putP_closed h]
      · rw [putP_open (show (getP p).closed = false from h), putP_open h]
        simp [getP, hx]
  · have P2 : ∀ l, pipesN ⟨4, qk, nk⟩ ck l = l.modify qk.toNat (fun p => { p with closed := true }) := fun l => by rw [pipesN_at (.inr (.inr rfl))]; rfl
    have P1' : ∀ l, pipesN ⟨2, qi, ni⟩ ci l = l.modify qk.toNat getP := fun l => by
      rw [pipesN_at (.inr (.inl rfl))]
      dsimp only
      rw [hq]
      rfl
    have e2 : (pipesN ⟨4, qk, nk⟩ ck ps)[qi.toNat]? = some { p with closed := true } := by rw [P2, hq]; exact modify_sm _ hp
    refine ⟨canB_34 (.inr (.inl rfl)), ?_, choreN_35 (.inr (.inr rfl)), ?_, ?_⟩
    · rw [canB_12 (.inr rfl) e2]
      simp [canP]
    · dsimp only
      rw [e2, hp', choreN_2, choreN_2]
      rfl
    · rw [P2, P1', P1', P2]
      exact modify_two _ _ hp rfl
/-- Two chores that name the same end of a pipe are one too many. -/
theorem many_two {n : Nt} {p : Int} {ins : Bool} {i k : Nat} {ci ck : Ch} (hne : i ≠ k) (hi : n.cs[i]? = some ci) (hk : n.cs[k]? = some ck) (ti : touchB p ins ci = true) (tk : touchB p ins ck = true) : 2 ≤ manyNt n p ins := by
  unfold manyNt
  have key : ∀ (l : List Ch) (i k : Nat), i < k → l[i]? = some ci → l[k]? = some ck → touchB p ins ci = true → touchB p ins ck = true → 2 ≤ (l.filter (touchB p ins)).length := by
    intro l i k hik hi hk ti tk
    have h1 : l[i]? = some ci := hi
    have hm : ci ∈ l.take k := by
      refine List.mem_of_getElem? (i := i) ?_
      rw [List.getElem?_take, if_pos hik]; exact hi
    have hm2 : ck ∈ l.drop k := by
      refine List.mem_of_getElem? (i := 0) ?_
      rw [List.getElem?_drop]; exact hk
    have e : l.filter (touchB p ins) = (l.take k).filter (touchB p ins) ++ (l.drop k).filter (touchB p ins) := by rw [← List.filter_append, List.take_append_drop]
    have l1 : 0 < ((l.take k).filter (touchB p ins)).length := List.length_pos_of_mem (List.mem_filter.2 ⟨hm, ti⟩)
    have l2 : 0 < ((l.drop k).filter (touchB p ins)).length := List.length_pos_of_mem (List.mem_filter.2 ⟨hm2, tk⟩)
    rw [e, List.length_append]
    omega
  rcases Nat.lt_or_gt_of_ne hne with h | h
  · exact key n.cs i k h hi hk ti tk
  · have : ∀ (l : List Ch) (i k : Nat), i < k → l[i]? = some ck → l[k]? = some ci → 2 ≤ (l.filter (touchB p ins)).length := by
      intro l i k hik hi hk
      have hm : ck ∈ l.take k := by
        refine List.mem_of_getElem? (i := i) ?_
        rw [List.getElem?_take, if_pos hik]; exact hi
      have hm2 : ci ∈ l.drop k := by
        refine List.mem_of_getElem? (i := 0) ?_
        rw [List.getElem?_drop]; exact hk
      have e : l.filter (touchB p ins) = (l.take k).filter (touchB p ins) ++ (l.drop k).filter (touchB p ins) := by rw [← List.filter_append, List.take_append_drop]
      have l1 : 0 < ((l.take k).filter (touchB p ins)).length := List.length_pos_of_mem (List.mem_filter.2 ⟨hm, tk⟩)
      have l2 : 0 < ((l.drop k).filter (touchB p ins)).length := List.length_pos_of_mem (List.mem_filter.2 ⟨hm2, ti⟩)
      rw [e, List.length_append]
      omega
    exact this n.cs k i h hk hi
theorem touch_of {c : Ch} {j : Nat} {x : Er} (hx : c.row[j]? = some x) (ins : Bool) (h : if ins = true then x.d = 1 ∨ x.d = 4 else x.d = 2) : touchB x.q ins c = true := by
  unfold touchB
  rw [List.any_eq_true]
  refine ⟨x, List.mem_of_getElem? hx, ?_⟩
  cases ins
  · simp at h; simp [h]
  · simp at h
    rcases h with h | h <;> simp [h]
theorem clean_le {n : Nt} (h : cleanNt n = true) {p : Int} (hp : 0 ≤ p) (hl : p < n.ps.length) : manyNt n p true ≤ 1 ∧ manyNt n p false ≤ 1 := by
  unfold cleanNt at h
  simp only [Bool.and_eq_true, List.all_eq_true, List.mem_range, decide_eq_true_eq] at h
  have := h.2 p.toNat (by omega)
  rw [show ((p.toNat : Nat) : Int) = p by omega] at this
  exact this
theorem ready_mk {n : Nt} {k : Nat} {c : Ch} (hr : rightNt n = true) (hc : n.cs[k]? = some c) (h : readyB c n.ps = true) : k ∈ readyNt n := by
  unfold readyNt
  rw [if_pos hr, List.mem_filter, List.mem_range]
  have hk : k < n.cs.length := (List.getElem?_eq_some_iff.1 hc).1
  refine ⟨hk, ?_⟩
  unfold readyAt
  rw [hc]
  exact h
theorem comm_clean {n : Nt} {i k : Nat} (hcl : cleanNt n = true) (hne : i ≠ k) {ci ck : Ch} {ji jk : Nat} {xi xk : Er} (hi : n.cs[i]? = some ci) (hk : n.cs[k]? = some ck) (ri : ci.row[ji]? = some xi) (rk : ck.row[jk]? = some xk)
    (qi : xi.d = 1 ∨ xi.d = 2 ∨ xi.d = 4 → 0 ≤ xi.q ∧ xi.q < n.ps.length) (qk : xk.d = 1 ∨ xk.d = 2 ∨ xk.d = 4 → 0 ≤ xk.q ∧ xk.q < n.ps.length) (di : 1 ≤ xi.d ∧ xi.d ≤ 5) (dk : 1 ≤ xk.d ∧ xk.d ≤ 5) (ai : canB xi n.ps = true) (ak : canB xk n.ps = true) : Comm n.ps ci xi ck xk := by
  by_cases h1 : xi.d = 3 ∨ xi.d = 5
  · exact comm_no h1 ak
  by_cases h2 : xk.d = 3 ∨ xk.d = 5
  · exact (comm_no h2 ai).symm
  have hi' : xi.d = 1 ∨ xi.d = 2 ∨ xi.d = 4 := by omega
  have hk' : xk.d = 1 ∨ xk.d = 2 ∨ xk.d = 4 := by omega
  by_cases hq : xi.q.toNat = xk.q.toNat
  · have hqq : xi.q = xk.q := by have := qi hi'; have := qk hk'; omega
    have hlt : xk.q.toNat < n.ps.length := by have := qk hk'; omega
    have hp := List.getElem?_eq_getElem hlt
    have hcle := clean_le hcl (qi hi').1 (qi hi').2
    by_cases e1 : xi.d = 2
    · by_cases e2 : xk.d = 2
      · exfalso
        have := many_two (p := xi.q) (ins := false) hne hi hk (touch_of ri false (by simpa using e1)) (by rw [hqq]; exact touch_of rk false (by simpa using e2))
        omega
      · exact comm_get e1 (by omega) hq hp ai ak
    · by_cases e2 : xk.d = 2
      · have hp2 : n.ps[xi.q.toNat]? = some n.ps[xk.q.toNat] := by rw [hq]; exact hp
        exact (comm_get e2 (by omega) hq.symm hp2 ak ai).symm
      · exfalso
        have := many_two (p := xi.q) (ins := true) hne hi hk (touch_of ri true (by simp; omega)) (by rw [hqq]; exact touch_of rk true (by simp; omega))
        omega
  · exact comm_apart hi' hk' hq ai ak
/-- Of a clean net two steps may be swapped. -/
theorem swap_steps {n : Nt} {i k : Nat} (hcl : cleanNt n = true) (hs : saneB n = true) (hi : i ∈ readyNt n) (hk : k ∈ readyNt n) (hne : i ≠ k) : k ∈ readyNt (stepC n i) ∧ stepC (stepC n i) k = stepC (stepC n k) i := by
  have gi := step_goes hi hs
  have gk := step_goes hk hs
  obtain ⟨ci, ji, xi, hci, hri, hr, hai, rxi, qi, di, ai, si⟩ := step_parts hi
  obtain ⟨ck, jk, xk, hck, hrk, -, hak, rxk, qk, dk, ak, sk⟩ := step_parts hk
  have hC := comm_clean hcl hne hci hck rxi rxk qi qk di dk ai ak
  have hck2 : (stepC n i).cs[k]? = some ck := by rw [si]; dsimp only; rw [List.getElem?_set_ne hne]; exact hck
  have hci2 : (stepC n k).cs[i]? = some ci := by rw [sk]; dsimp only; rw [List.getElem?_set_ne (Ne.symm hne)]; exact hci
  have ready2 : ∀ {N : Nt} {c : Ch} {j : Nat} {x : Er} {m : Nat}, rightNt N = true → N.cs[m]? = some c → c.at_ = (j : Nat) → c.row[j]? = some x → canB x N.ps = true → readyB c N.ps = true := by
    intro N c j x m hr hc ha hx hcan
    have hcm : c ∈ N.cs := List.mem_of_getElem? hc
    unfold rightNt at hr
    simp only [Bool.and_eq_true, decide_eq_true_eq, List.all_eq_true] at hr
    obtain ⟨es, a, s, r⟩ := c
    dsimp only at ha hx
    subst ha
    have hj : j < es.length := (List.getElem?_eq_some_iff.1 hx).1
    rw [ready_yes hr.1 (hr.2.2 _ hcm) (by omega) hx]
    exact hcan
  have rk2 : readyB ck (stepC n i).ps = true := ready2 gi.1 hck2 hak rxk (by rw [si]; exact hC.ak)
  have ri2 : readyB ci (stepC n k).ps = true := ready2 gk.1 hci2 hai rxi (by rw [sk]; exact hC.ai)
  have hk2 := ready_mk gi.1 hck2 rk2
  have hi2 := ready_mk gk.1 hci2 ri2
  refine ⟨hk2, ?_⟩
  have stepOf : ∀ {N : Nt} {c : Ch} {j : Nat} {x : Er} {m : Nat}, m ∈ readyNt N → N.cs[m]? = some c → c.at_ = (j : Nat) → c.row[j]? = some x → stepC N m = ⟨pipesN x c N.ps, N.cs.set m (choreN x c N.ps[x.q.toNat]?)⟩ := by
    intro N c j x m hm hc ha hx
    obtain ⟨c', j', x', hc', -, -, ha', hx', -, -, -, hst⟩ := step_parts hm
    rw [hc] at hc'
    cases hc'
    have : j' = j := by omega
    subst this
    rw [hx] at hx'
    cases hx'
    exact hst
  rw [stepOf hk2 hck2 hak rxk, stepOf hi2 hci2 hai rxi]
  have e1 : (stepC n i).ps = pipesN xi ci n.ps := by rw [si]
  have e2 : (stepC n k).ps = pipesN xk ck n.ps := by rw [sk]
  have e3 : (stepC n i).cs = n.cs.set i (choreN xi ci n.ps[xi.q.toNat]?) := by rw [si]
  have e4 : (stepC n k).cs = n.cs.set k (choreN xk ck n.ps[xk.q.toNat]?) := by rw [sk]
  rw [e1, e2, e3, e4, hC.pp, hC.bk, hC.bi, List.set_comm _ _ hne]
theorem touch_row {c c' : Ch} (h : c'.row = c.row) (p : Int) (ins : Bool) : touchB p ins c' = touchB p ins c := by unfold touchB; rw [h]
theorem filter_set {l : List Ch} {k : Nat} {c c' : Ch} (h : l[k]? = some c) (f : Ch → Bool) (hf : f c' = f c) : ((l.set k c').filter f).length = (l.filter f).length := by
  induction l generalizing k with
  | nil => rfl
  | cons y ys ih =>
    cases k with
    | zero =>
      simp at h; subst h
      simp only [List.set_cons_zero, List.filter_cons, hf]
      split <;> simp
    | succ k =>
      simp only [List.set_cons_succ, List.filter_cons]
      have := ih (k := k) (by simpa using h)
      split <;> simp [this]
theorem step_clean {n : Nt} {k : Nat} (hcl : cleanNt n = true) (hs : saneB n = true) (hk : k ∈ readyNt n) : cleanNt (stepC n k) = true := by
  have g := step_goes hk hs
  have hl := step_cs hk
  obtain ⟨c, j, x, hc, -, -, -, -, -, -, -, st⟩ := step_parts hk
  have hm : ∀ p ins, manyNt (stepC n k) p ins = manyNt n p ins := fun p ins => by
    unfold manyNt
    rw [st]
    exact filter_set hc _ (touch_row (choreN_row _ _ _) p ins)
  unfold cleanNt at hcl ⊢
  simp only [Bool.and_eq_true, List.all_eq_true, List.mem_range, decide_eq_true_eq] at hcl ⊢
  refine ⟨g.1, fun p hp => ?_⟩
  rw [hm, hm]
  exact hcl.2 p (by rw [← hl.2]; exact hp)
/-- Whoever steps first, the end is the same, as many steps in all. -/
theorem fin_any : ∀ (f : Nat) (n : Nt) (k : Nat), leftNt n ≤ f → cleanNt n = true → saneB n = true → k ∈ readyNt n → finN n = ((finN (stepC n k)).1, (finN (stepC n k)).2 + 1)
  | 0, n, k, h, _, _, hk => by have := step_left hk; omega
  | f + 1, n, k, h, hcl, hs, hk => by
    cases hr : readyNt n with
    | nil => rw [hr] at hk; cases hk
    | cons m ms =>
      have hm : m ∈ readyNt n := by rw [hr]; simp
      rw [fin_head hr]
      by_cases hkm : m = k
      · rw [hkm]
      · have l1 := step_left hm
        have l2 := step_left hk
        obtain ⟨s1, s2⟩ := swap_steps hcl hs hm hk hkm
        obtain ⟨s3, -⟩ := swap_steps hcl hs hk hm (Ne.symm hkm)
        rw [fin_any f (stepC n m) k (by omega) (step_clean hcl hs hm) (step_goes hm hs).2 s1, fin_any f (stepC n k) m (by omega) (step_clean hcl hs hk) (step_goes hk hs).2 s3, s2]
theorem fin_run : ∀ (ps : List Int) (n : Nt), cleanNt n = true → saneB n = true → finN n = ((finN (runNt n ps).1).1, (runNt n ps).2 + (finN (runNt n ps).1).2)
  | [], n, _, _ => by simp [runNt]
  | p :: ps, n, hcl, hs => by
    by_cases h : readyNt n = []
    · rw [runNt, if_pos h]; simp
    · have hp : pickAt (readyNt n) p ∈ readyNt n := by
        have hl : 0 < (readyNt n).length := List.length_pos_iff.2 h
        have h1 := Int.emod_lt_of_pos p (show (0 : Int) < (readyNt n).length by omega)
        have h2 := Int.emod_nonneg p (show ((readyNt n).length : Int) ≠ 0 by omega)
        have h3 : (p % (readyNt n).length).toNat < (readyNt n).length := by omega
        unfold pickAt
        rw [List.getD_eq_getElem?_getD, List.getElem?_eq_getElem h3]
        exact List.getElem_mem h3
      rw [runNt, if_neg h]
      dsimp only
      rw [fin_any (leftNt n) n _ (Nat.le_refl _) hcl hs hp, fin_run ps _ (step_clean hcl hs hp) (step_goes hp hs).2]
      refine Prod.ext rfl ?_
      dsimp only
      omega
end Go.Proofs.Ytnibllkcacalhaa
namespace Go.Proofs.Ytnibllkcacalhaa
set_option maxRecDepth 100000
open Go.RowKit
set_option maxHeartbeats 3200000 in
theorem rsame_n (V V' : Value) (N M : Nt) (w : World) (h : NR w V N) (h' : NR w V' M) : Calls Try.prog 16 #[V, V'] w (RetBool (decide (N = M)) w) := by
  obtain ⟨A1, n1, c1, A, n, c, rfl⟩ := h.form
  obtain ⟨A1', n1', c1', A', n', c', rfl⟩ := h'.form
  obtain ⟨W, hW⟩ : ∃ W, W = (w.alloc (.cells #[.slice A1 n1 c1, .slice A n c] 25)).alloc (.cells #[.slice A1' n1' c1', .slice A' n' c'] 25) := ⟨_, rfl⟩
  obtain ⟨G, hG⟩ : ∃ G, G = w.heap.size := ⟨_, rfl⟩
  obtain ⟨-, -, hF⟩ := pair_boxes h h' W hW
  have hb1 : Blk W G 25 #[.slice A1 n1 c1, .slice A n c] := by rw [hW, hG]; exact (Blk.new w _ _).alloc _
  have hb2 : Blk W (G + 1) 25 #[.slice A1' n1' c1', .slice A' n' c'] := by
    rw [hW, hG]
    have := Blk.new (w.alloc (.cells #[.slice A1 n1 c1, .slice A n c] 25)) 25 #[.slice A1' n1' c1', .slice A' n' c']
    rwa [World.size_alloc] at this
  obtain ⟨_, _, _, _, _, _, e, ps, cks, h1, h2, h3, h4⟩ := h
  cases e
  obtain ⟨_, _, _, _, _, _, e, ps', cks', g1, g2, g3, g4⟩ := h'
  cases e
  obtain ⟨N1, N2⟩ := N
  obtain ⟨M1, M2⟩ := M
  dsimp only at h3 h4 g3 g4
  have hal := ralike_any (fun q => q < w.heap.size) A1 n1 c1 A1' n1' c1' ps ps' W (h1.keptTo fun q hq => ⟨hF.block q hq id, hq⟩) (g1.keptTo fun q hq => ⟨hF.block q hq id, hq⟩) (fun q hq => Nat.lt_of_lt_of_le hq hF.size)
  unfold AlikePost at hal
  rw [h3, g3] at hal
  obtain ⟨hn, hnc, hcm, hx⟩ := h2.cells
  obtain ⟨hn', hnc', hcm', hx'⟩ := g2.cells
  have hnm : n ≤ 9223372036854775807 := by omega
  have x0 : W.cell? ⟨G, 0, none⟩ = some (.slice A1 n1 c1) := hb1.cell 0
  have x1 : W.cell? ⟨G + 1, 0, none⟩ = some (.slice A1' n1' c1') := hb2.cell 0
  obtain ⟨R, hR⟩ : ∃ R, R = decide ((⟨N1, N2⟩ : Nt) = ⟨M1, M2⟩) := ⟨_, rfl⟩
  rw [← hR]
  have H := Lib.hid (And.intro hF (And.intro hal (And.intro hb1 (And.intro hb2 (And.intro hn (And.intro hx (And.intro h2.2 (And.intro hn' (And.intro hx' (And.intro g2.2 (And.intro hR (And.intro h4 g4))))))))))))
  clear h1 h2 h3 h4 g1 g2 g3 g4 hal hF hb1 hb2 hn hx hn' hx' hR hnc hcm hnc' hcm'
  go_enter Try.func16, Try.ntmps16
  go_upto_region 1 with fail
  rw [← hW, ← hG]
  clear hG hW
  go_wp2_with fail
  refine H.out.2.1.mono ?_
  rintro e w1 ⟨rfl, hF1⟩
  have hb1 := H.out.2.2.1.kept hF1 id
  have hb2 := H.out.2.2.2.1.kept hF1 id
  have y0 : w1.cell? ⟨G, 1, none⟩ = some (.slice A n c) := hb1.cell 1
  have y1 : w1.cell? ⟨G + 1, 1, none⟩ = some (.slice A' n' c') := hb2.cell 1
  have HF1 := Lib.hid (And.intro (H.out.1.trans hF1 fun _ h => h.elim) hF1)
  clear hF1 hb1 hb2 x0 x1
  cases hp : decide (N1 = M1) with
  | false =>
    have HP : Hid (R = false) := Lib.hid (by
      rw [H.out.2.2.2.2.2.2.2.2.2.2.1]
      rw [decide_eq_false_iff_not] at hp ⊢
      intro h; cases h; exact hp rfl)
    clear hp
    go_wp2_with fail
    go_ret
    exact ⟨by rw [HP.out]; rfl, HF1.out.1⟩
  | true =>
    have HP : Hid (R = decide (N2 = M2)) := Lib.hid (by
      rw [H.out.2.2.2.2.2.2.2.2.2.2.1]
      obtain rfl : N1 = M1 := of_decide_eq_true hp
      simp)
    clear hp
    by_cases hnn : n = n'
    · subst hnn
      have hl : ((n : Int) != (n : Int)) = false := by simp
      go_wp2_with fail
      go_loopw [5] (fun i wr => ∃ k : Nat, k ≤ n ∧ i = .int .i64 k ∧ Hid (N2.take k = M2.take k ∧ Frm (fun _ => False) w wr ∧ Frm (fun _ => False) W wr)) (fun i _ => n - (intOf i).toNat)
      case atStart => exact ⟨0, Nat.zero_le _, rfl, Lib.hid ⟨by simp, HF1.out⟩⟩
      case round =>
        obtain ⟨k, hk, rfl, hT⟩ := hrel
        obtain ⟨hTk, hF, hFW⟩ := hT.out
        have z0 : wr.cell? ⟨G, 1, none⟩ = some (.slice A n c) := (H.out.2.2.1.kept hFW id).cell 1
        have z1 : wr.cell? ⟨G + 1, 1, none⟩ = some (.slice A' n c') := (H.out.2.2.2.1.kept hFW id).cell 1
        by_cases hlt : k < n
        · obtain ⟨-, -, -, -, hn, hx, hrow, hn', hx', hrow', hR, h4, g4⟩ := H.out
          have hkx : k < cks.length := by omega
          have hky : k < cks'.length := by omega
          obtain ⟨g, o, rfl, hg, d0, d1, d2, d3⟩ := hx k hkx
          obtain ⟨g', o', rfl, hg', e0, e1, e2, e3⟩ := hx' k hky
          have hra := hrow cks[k] (List.getElem_mem hkx)
          have hrb := hrow' cks'[k] (List.getElem_mem hky)
          obtain ⟨A5, n5, c5, e5, -⟩ := id hra
          obtain ⟨A6, n6, c6, e6, -⟩ := id hrb
          rw [e5] at d0 hra
          rw [e6] at e0 hrb
          replace d0 := hF.cell d0 id
          replace d1 := hF.cell d1 id
          replace d2 := hF.cell d2 id
          replace d3 := hF.cell d3 id
          replace e0 := hF.cell e0 id
          replace e1 := hF.cell e1 id
          replace e2 := hF.cell e2 id
          replace e3 := hF.cell e3 id
          have ts := map_take_c cks k hkx
          have ts' := map_take_c cks' k hky
          rw [h4] at ts
          rw [g4] at ts'
          have hne : decide (cks[k].c = cks'[k].c) = false → R = false := fun h => by
            rw [HP.out, decide_eq_false_iff_not]
            have h1 : cks[k].c ≠ cks'[k].c := by simpa using h
            subst h4 g4
            exact all_same_no (by rw [List.length_map]; exact hkx) (by rw [List.length_map]; exact hky) (by rw [List.getElem_map, List.getElem_map]; exact h1)
          have hsm := rsame_any (fun q => q < wr.heap.size) A5 n5 c5 cks[k].c.at_ cks[k].c.sum cks[k].c.wrong cks[k].c.row A6 n6 c6 cks'[k].c.at_ cks'[k].c.sum cks'[k].c.wrong cks'[k].c.row wr.drew
            (hra.keptTo fun q hq => ⟨hF.block q hq id, Nat.lt_of_lt_of_le hq hF.size⟩)
            (hrb.keptTo fun q hq => ⟨hF.block q hq id, Nat.lt_of_lt_of_le hq hF.size⟩) fun _ h => h
          obtain ⟨SB, hSB⟩ : ∃ SB, SB = decide (cks[k].c = cks'[k].c) := ⟨_, rfl⟩
          replace hsm : Calls Try.prog 42 #[.agg #[.slice A5 n5 c5, .int .i64 cks[k].c.at_, .int .u32 cks[k].c.sum, .int .i64 cks[k].c.wrong], .agg #[.slice A6 n6 c6, .int .i64 cks'[k].c.at_, .int .u32 cks'[k].c.sum, .int .i64 cks'[k].c.wrong]] wr.drew (RetBool SB wr.drew) := by
            rw [hSB]
            exact hsm
          have HS := Lib.hid (And.intro ts (And.intro ts' (And.intro hne (And.intro hsm (And.intro hTk (And.intro hF (And.intro hFW hSB)))))))
          have hk0 : (0 : Int) ≤ (k : Int) := by omega
          clear hn hx hrow hn' hx' hrow' hR hg hg' hF hFW hTk hra hrb e5 e6 ts ts' hne hsm hT h4 g4 y0 y1 hSB
          generalize cks[k].c = cx at *
          generalize cks'[k].c = cy at *
          clear hkx hky
          go_upto_region 6 with fail
          go_region_held3 (fun w' => w'.cell? ⟨g, o + k * 4, none⟩ = some (.slice A5 n5 c5) ∧ w'.cell? ⟨g, o + k * 4 + 1, none⟩ = some (.int .i64 cx.at_) ∧ w'.cell? ⟨g, o + k * 4 + 2, none⟩ = some (.int .u32 cx.sum) ∧ w'.cell? ⟨g, o + k * 4 + 3, none⟩ = some (.int .i64 cx.wrong) ∧ w'.cell? ⟨g', o' + k * 4, none⟩ = some (.slice A6 n6 c6) ∧ w'.cell? ⟨g', o' + k * 4 + 1, none⟩ = some (.int .i64 cy.at_) ∧ w'.cell? ⟨g', o' + k * 4 + 2, none⟩ = some (.int .u32 cy.sum) ∧ w'.cell? ⟨g', o' + k * 4 + 3, none⟩ = some (.int .i64 cy.wrong) ∧ w'.cell? ⟨G, 1, none⟩ = some (.slice (some ⟨g, o, none⟩) n c) ∧ w'.cell? ⟨G + 1, 1, none⟩ = some (.slice (some ⟨g', o', none⟩) n c'))
            (first | exact ⟨d0, d1, d2, d3, e0, e1, e2, e3, z0, z1⟩ | exact ⟨y0, y1, y2, y3, y4, y5, y6, y7, y8, y9⟩)
            ((go_at_call 42; refine HS.out.2.2.2.1.mono ?_; rintro e w7 ⟨rfl, hF7⟩; have y0 := hF7.cell d0 id; have y1 := hF7.cell d1 id; have y2 := hF7.cell d2 id; have y3 := hF7.cell d3 id; have y4 := hF7.cell e0 id; have y5 := hF7.cell e1 id; have y6 := hF7.cell e2 id; have y7 := hF7.cell e3 id; have y8 := hF7.cell z0 id; have y9 := hF7.cell z1 id))
          have HF7 := Lib.hid (And.intro (HS.out.2.2.2.2.2.1.drew.trans hF7 fun _ h => h.elim) (HS.out.2.2.2.2.2.2.1.drew.trans hF7 fun _ h => h.elim))
          clear hF7 d0 d1 d2 d3 e0 e1 e2 e3 z0 z1 y0 y1 y2 y3 y4 y5 y6 y7 y8 y9
          cases SB with
          | true =>
            have HB := Lib.hid (of_decide_eq_true HS.out.2.2.2.2.2.2.2.symm)
            go_wp2_with fail
            go_roundw
            case rel => exact ⟨k + 1, by omega, by go_num, Lib.hid ⟨by rw [HS.out.1, HS.out.2.1, HS.out.2.2.2.2.1]; exact congrArg (fun z => M2.take k ++ [z]) HB.out, HF7.out⟩⟩
            case measure => simp [intOf]; omega
          | false =>
            have HB := Lib.hid (HS.out.2.2.1 HS.out.2.2.2.2.2.2.2.symm)
            go_wp2_with fail
            go_ret
            exact ⟨by rw [HB.out]; rfl, HF7.out.1⟩
        · obtain rfl : k = n := by omega
          have hr : R = true := by
            obtain ⟨-, -, -, -, hn, hx, hrow, hn', hx', hrow', hR, h4, g4⟩ := H.out
            rw [List.take_of_length_le (by rw [← h4, List.length_map]; omega), List.take_of_length_le (by rw [← g4, List.length_map]; omega)] at hTk
            rw [HP.out, hTk]
            simp
          have HR := Lib.hid (And.intro hr hF)
          clear hr hTk hF hFW hT
          go_wp2_with fail
          go_ret
          exact ⟨by rw [HR.out.1]; rfl, HR.out.2⟩
    · have hl : ((n : Int) != (n' : Int)) = true := by simp; omega
      have hr : R = false := by
        rw [HP.out, decide_eq_false_iff_not]
        intro h
        obtain ⟨-, -, -, -, hn, hx, hrow, hn', hx', hrow', hR, h4, g4⟩ := H.out
        have := congrArg List.length h
        rw [← h4, ← g4, List.length_map, List.length_map] at this
        omega
      have HR := Lib.hid hr
      clear hr
      go_wp2_with fail
      go_ret
      exact ⟨by rw [HR.out]; rfl, HF1.out.1⟩
end Go.Proofs.Ytnibllkcacalhaa
