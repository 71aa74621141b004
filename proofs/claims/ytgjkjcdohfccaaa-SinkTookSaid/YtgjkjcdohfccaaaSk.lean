/- The walks of package sink: what is cloned, the answers, the offers. -/
import Derived.Test.YtgjkjcdohfccaaaLib
namespace Go.Proofs.Ytgjkjcdohfccaaa
open Go.RowKit
theorem infoB : (Try.prog.info? 4).map (fun i => (i.zero, i.size, i.bytes)) = some (some (.bool false), 1, 1) := by kernel_rfl
theorem infoH : ∃ i, Try.prog.info? 29 = some i ∧ i.zero = some (.agg #[.int .i64 0, .int .i64 0]) ∧ i.size = 2 ∧ i.bytes = 16 := by
  have h : (Try.prog.info? 29).map (fun i => (i.zero, i.size)) = some (some (.agg #[.int .i64 0, .int .i64 0]), 2) := by kernel_rfl
  have h' : (Try.prog.info? 29).map (fun i => i.bytes) = some 16 := by kernel_rfl
  cases hh : Try.prog.info? 29 with
  | none => rw [hh] at h; cases h
  | some i => rw [hh] at h h'; simp at h h'; exact ⟨i, rfl, h.1, h.2, h'⟩
def bvs (l : List Bool) : List Value := l.map Value.bool
@[simp] theorem bvs_length (l : List Bool) : (bvs l).length = l.length := by simp [bvs]
theorem bvs_one (l : List Bool) : ∀ u ∈ bvs l, u.oneCell' = true := by
  intro u hu; simp [bvs] at hu; rcases hu with ⟨_, rfl⟩ | ⟨_, rfl⟩ <;> rfl
/-- The cells of hits. -/
def flat (l : List (Int × Int)) : List Value := l.flatMap fun p => [.int .i64 p.1, .int .i64 p.2]
@[simp] theorem flat_nil : flat [] = [] := rfl
theorem flat_cons (p : Int × Int) (l : List (Int × Int)) : flat (p :: l) = .int .i64 p.1 :: .int .i64 p.2 :: flat l := rfl
theorem flat_length (l : List (Int × Int)) : (flat l).length = l.length * 2 := by
  induction l with
  | nil => rfl
  | cons p l ih => rw [flat_cons]; simp [ih]; omega
theorem flat_append (a b : List (Int × Int)) : flat (a ++ b) = flat a ++ flat b := by simp [flat]
theorem flat_one (l : List (Int × Int)) : ∀ u ∈ flat l, u.oneCell' = true := by
  intro u hu
  simp [flat] at hu
  obtain ⟨a, b, _, rfl | rfl⟩ := hu <;> rfl
theorem flat_at0 (l : List (Int × Int)) (k : Nat) (h : k < l.length) : (flat l)[k * 2]? = some (.int .i64 l[k].1) := by
  induction l generalizing k with
  | nil => simp at h
  | cons p l ih =>
    cases k with
    | zero => rfl
    | succ k =>
      rw [flat_cons, show (k + 1) * 2 = k * 2 + 1 + 1 from by omega, List.getElem?_cons_succ, List.getElem?_cons_succ]
      exact ih k (by simpa using h)
theorem flat_at1 (l : List (Int × Int)) (k : Nat) (h : k < l.length) : (flat l)[k * 2 + 1]? = some (.int .i64 l[k].2) := by
  induction l generalizing k with
  | nil => simp at h
  | cons p l ih =>
    cases k with
    | zero => rfl
    | succ k =>
      rw [flat_cons, show (k + 1) * 2 + 1 = k * 2 + 1 + 1 + 1 from by omega, List.getElem?_cons_succ, List.getElem?_cons_succ]
      exact ih k (by simpa using h)
def says (an : List Bool) (n : Nat) : Bool := an.isEmpty || an.getD (n % an.length) false
/-- What a slice of hits reads as. -/
theorem SlZ.hits {w : World} {K : Nat → Prop} {v : Value} {l : List (Int × Int)} (h : SlZ w K 2 v (flat l)) : ∃ A n c, v = .slice A n c ∧ n = l.length ∧ n ≤ c ∧ c ≤ 9223372036854775807 ∧
    (n = 0 ∨ ∃ g o, A = some ⟨g, o, none⟩ ∧ K g ∧ ∀ k (h : k < l.length), w.cell? ⟨g, o + k * 2, none⟩ = some (.int .i64 l[k].1) ∧ w.cell? ⟨g, o + k * 2 + 1, none⟩ = some (.int .i64 l[k].2)) := by
  obtain ⟨A, n, c, rfl, hn, hc, hm, hx⟩ := h
  rw [flat_length] at hn
  refine ⟨A, n, c, rfl, by omega, hc, hm, hx.imp id ?_⟩
  rintro ⟨g, o, rfl, hK, hx⟩
  refine ⟨g, o, rfl, hK, fun k hk => ?_⟩
  obtain ⟨p0, q0⟩ := List.getElem?_eq_some_iff.1 (flat_at0 l k hk)
  obtain ⟨p1, q1⟩ := List.getElem?_eq_some_iff.1 (flat_at1 l k hk)
  exact ⟨by rw [hx (k * 2) p0, q0], by rw [Nat.add_assoc, hx (k * 2 + 1) p1, q1]⟩
def CloneBPost (l : List Bool) (w : World) (e : Ending) (w' : World) : Prop :=
  ∃ v, e = .returned v ∧ OSl w' (fun k => w.heap.size ≤ k) 4 v (bvs l) ∧ Frm (fun _ => False) w w'
set_option maxHeartbeats 400000 in
theorem cloneB_any (K : Nat → Prop) (v : Value) (l : List Bool) (w : World) (h : Sl w K v (bvs l)) (hK : ∀ k, K k → k < w.heap.size) (hb : l.length ≤ 100000000) :
    Calls Try.prog 17 #[v] w (CloneBPost l w) := by
  obtain ⟨A, n, c, rfl, hn, hc, hm, hx⟩ := id h
  have hn' : n = l.length := by simpa using hn
  obtain ⟨i0, hi, hz0, hz1, hz2⟩ := info_parts infoB
  have he := fun w => Lib.run_eql_slice_nil (P := Try.prog) w 22 4 A n c 0 0 Try.underlying22
  have Hh := Lib.hid (And.intro h (And.intro hn' hx))
  clear h hn hn' hx
  cases A with
  | none =>
    go_enter Try.func17, Try.ntmps17
    go_wp2
    go_ret
    obtain ⟨_, hn, hx⟩ := Hh.out
    have hl : n = 0 := by
      rcases hx with h0 | ⟨g, o, h, _⟩
      · exact h0
      · cases h
    refine ⟨.slice none 0 0, rfl, ⟨none, 0, 0, rfl, by rw [bvs_length]; omega, by omega, by omega, Or.inl ⟨rfl, rfl⟩⟩, Frm.refl _ _⟩
  | some a =>
    go_enter Try.func17, Try.ntmps17
    go_wp2_with (at_builtin; refine wpList_append_sl (by rfl) _ _ 22 (by rfl) w.heap.size 4 i0 (.bool false) 1 Try.underlying22 hi hz0 hz1 hz2 (by rfl) _ 0 [] (by rfl) (own_new0 rfl (Nat.le_refl _)) K _ (bvs l) (by rfl) (by exact Hh.out.1.keptTo fun k hk => ⟨Below.heap_alloc _ _ _ (hK k hk), hk⟩) (bvs_one l) (by unfold maxLen; rw [bvs_length]; omega) (by rw [bvs_length]; omega) (by simp) ?_; intro A1 N c1 w1 HN hNc hc1 hown hg1 hat)
    go_ret
    refine ⟨_, rfl, OSl.of_own (base := w.heap.size) (by simpa using hown) (fun g hg => (hown.lt g hg).1), ?_⟩
    exact ((Frm.refl _ _).alloc _).grown hg1 (fun k hk => Or.inr (by have h : some w.heap.size = some k := hk; injection h; omega))
def CloneHPost (l : List (Int × Int)) (w : World) (e : Ending) (w' : World) : Prop :=
  ∃ v, e = .returned v ∧ w'.ownsRow w.heap.size 29 2 v l.length (flat l) ∧ Frm (fun _ => False) w w'
set_option maxHeartbeats 400000 in
theorem cloneH_any (K : Nat → Prop) (v : Value) (l : List (Int × Int)) (w : World) (h : SlZ w K 2 v (flat l)) (hK : ∀ k, K k → k < w.heap.size) (hb : l.length ≤ 1000000) :
    Calls Try.prog 19 #[v] w (CloneHPost l w) := by
  obtain ⟨A, n, c, rfl, hn', hc, hm, hx⟩ := h.hits
  obtain ⟨i0, hi, hz0, hz1, hz2⟩ := infoH
  have he := fun w => Lib.run_eql_slice_nil (P := Try.prog) w 23 29 A n c 0 0 Try.underlying23
  have Hh := Lib.hid (And.intro h (And.intro hn' hx))
  clear h hn' hx
  cases A with
  | none =>
    go_enter Try.func19, Try.ntmps19
    go_wp2
    go_ret
    obtain ⟨_, hn, hx⟩ := Hh.out
    have hl : n = 0 := by
      rcases hx with h0 | ⟨g, o, h, _⟩
      · exact h0
      · cases h
    obtain rfl : l = [] := List.eq_nil_of_length_eq_zero (by omega)
    exact ⟨.slice none 0 0, rfl, World.ownsRow_nil _ _ _ _, Frm.refl _ _⟩
  | some a =>
    go_enter Try.func19, Try.ntmps19
    go_wp2_with (at_builtin; refine wpList_append_slz (by rfl) _ _ 23 (by rfl) w.heap.size 29 i0 _ 2 16 Try.underlying23 hi hz0 hz1 hz2 (by rfl) (by decide) _ 0 [] (by rfl) (by exact World.ownsRow_made _ _ _ (Nat.le_refl _) (Nat.zero_le _) rfl) K _ l.length (flat l) (by rfl) (by exact Hh.out.1.keptTo fun k hk => ⟨Below.heap_alloc _ _ _ (hK k hk), hk⟩) (flat_length l) (flat_one l) (by unfold maxLen; omega) (by omega) (by simp) ?_; intro A1 N c1 w1 HN hNc hc1 hown hg1 hat)
    go_ret
    have hN : N = l.length := by have := HN.out; omega
    subst hN
    refine ⟨_, rfl, by simpa using hown, ?_⟩
    exact ((Frm.refl _ _).alloc _).grown hg1 (fun k hk => Or.inr (by have h : some w.heap.size = some k := hk; injection h; omega))
def QPost (v : Value) (w : World) (e : Ending) (w' : World) : Prop := e = .returned v ∧ ∃ k, w' = w.drewN k
theorem answer_any (K : Nat → Prop) (b : Nat) (va : Value) (an : List Bool) (n : Nat) (w : World) (hb : w.cell? ⟨b, 0, none⟩ = some va) (h : Sl w K va (bvs an)) (hn : n ≤ 1000000) (hl : an.length ≤ 1000000) :
    Calls Try.prog 18 #[.pointer (some ⟨b, 0, none⟩), .int .i64 n] w (QPost (.bool (says an n)) w) := by
  obtain ⟨A, m, c, rfl, hm, hc, hcm, hx⟩ := h
  rw [bvs_length] at hm
  cases an with
  | nil =>
    have hm0 : m = 0 := by simpa using hm
    subst hm0
    clear hx hm
    go_enter Try.func18, Try.ntmps18
    go_wp2
    go_quiet (fail)
    go_wp2
    go_ret
    exact ⟨rfl, nq, rfl⟩
  | cons x xs =>
    have hm1 : 1 ≤ m := by rw [hm]; simp
    obtain ⟨g, o, rfl, hK, hcs⟩ := hx.resolve_left (by omega)
    have hlt : n % m < m := Nat.mod_lt _ (by omega)
    have hc1 : w.cell? ⟨g, o + n % m, none⟩ = some (.bool (says (x :: xs) n)) := by
      have hj : n % m < (x :: xs).length := by omega
      rw [hcs (n % m) (by rw [bvs_length]; exact hj)]
      have e1 : says (x :: xs) n = (x :: xs)[n % m]'hj := by
        subst hm
        unfold says
        rw [List.getD, List.getElem?_eq_getElem hj]; rfl
      rw [e1]
      simp only [bvs, List.getElem_map]
    have hmz : ((m : Int) == 0) = false := by simp; omega
    have Hm := Lib.hid hm
    clear hcs hm
    generalize says (x :: xs) n = t at *
    go_enter Try.func18, Try.ntmps18
    go_wp2
    go_quiet (fail)
    go_wp2
    go_ret
    exact ⟨rfl, nq, rfl⟩
/-- The block of a sink's answers. -/
def KA (w : World) (B : Nat) (a : Option Nat) (k : Nat) : Prop := a = some k ∧ B ≤ k ∧ ∃ cs fr, w.heap[k]? = some (.cells cs 4 fr)
/-- A sink: its block b, its answers' block a, its hits' block g; the answers, the hits that were taken, how many offers. -/
def SAt (w : World) (B b : Nat) (a g : Option Nat) (an : List Bool) (tk : List (Int × Int)) (off : Nat) : Prop :=
  ∃ va vt, Blk w b 44 #[va, vt, .int .i64 off] ∧ B ≤ b ∧ Sl w (KA w B a) va (bvs an) ∧ vt.ownBlock = g ∧ w.ownsRow B 29 2 vt tk.length (flat tk) ∧ off ≤ 10000 ∧ tk.length ≤ off ∧ an.length ≤ 100000 ∧ B ≤ w.heap.size
theorem SAt.kept {w w' : World} {B b off : Nat} {a g : Option Nat} {an : List Bool} {tk : List (Int × Int)} {K : Nat → Prop} (h : SAt w B b a g an tk off) (hF : Frm K w w') (hb : ¬ K b) (hg : ∀ k, g = some k → ¬ K k) (ha : ∀ k, a = some k → ¬ K k) : SAt w' B b a g an tk off := by
  obtain ⟨va, vt, h1, h2, h3, h4, h5, h6, h7, h8, h9⟩ := h
  refine ⟨va, vt, h1.kept hF hb, h2, h3.keptTo fun k hk => ?_, h4, hF.own h5 (fun k hk => hg k (h4 ▸ hk)), h6, h7, h8, Nat.le_trans h9 hF.size⟩
  obtain ⟨q1, q2, cs, fr, q3⟩ := hk
  have := hF.block k (lt_heap q3) (ha k q1)
  exact ⟨this, q1, q2, cs, fr, by rw [this]; exact q3⟩
theorem SAt.keptF {w w' : World} {B b off : Nat} {a g : Option Nat} {an : List Bool} {tk : List (Int × Int)} (h : SAt w B b a g an tk off) (hF : Frm (fun _ => False) w w') : SAt w' B b a g an tk off := h.kept hF id (fun _ _ => id) (fun _ _ => id)
theorem SAt.lt {w : World} {B b off : Nat} {a g : Option Nat} {an : List Bool} {tk : List (Int × Int)} (h : SAt w B b a g an tk off) : b < w.heap.size ∧ (∀ k, g = some k → B ≤ k ∧ k < w.heap.size) ∧ B ≤ b := by
  obtain ⟨va, vt, h1, h2, h3, h4, h5, _⟩ := h
  exact ⟨h1.lt, fun k hk => h5.lt k (h4 ▸ hk), h2⟩
def NewPost (an : List Bool) (w : World) (e : Ending) (w' : World) : Prop :=
  ∃ b a, e = .returned (.pointer (some ⟨b, 0, none⟩)) ∧ SAt w' w.heap.size b a none an [] 0 ∧ Frm (fun _ => False) w w' ∧ (∀ k, a = some k → w.heap.size ≤ k ∧ k < w'.heap.size)
set_option maxHeartbeats 400000 in
theorem new_any (K : Nat → Prop) (v : Value) (an : List Bool) (w : World) (h : Sl w K v (bvs an)) (hK : ∀ k, K k → k < w.heap.size) (hb : an.length ≤ 100000) :
    Calls Try.prog 7 #[v] w (NewPost an w) := by
  have hc := cloneB_any K v an w h hK (by omega)
  have Hc := Lib.hid hc
  clear hc
  go_enter Try.func7, Try.ntmps7
  go_wp2_with fail
  refine Hc.out.mono ?_
  rintro e w1 ⟨v1, rfl, hv, hF⟩
  obtain ⟨A, n, c, rfl, hn, hc, hm, hx⟩ := id hv
  have Hv := Lib.hid (And.intro hv (And.intro hn (And.intro hx hF)))
  clear hv hn hx hF
  go_wp2_with fail
  go_ret
  obtain ⟨hv, hn, hx, hF⟩ := Hv.out
  have hs := hF.size
  refine ⟨w1.heap.size, A.map (·.block), rfl, ⟨_, _, Blk.new w1 _ _, hs, ?_, rfl, World.ownsRow_nil _ _ _ _, by omega, Nat.le_refl _, hb, by simp; omega⟩, hF.alloc _, ?_⟩
  · refine ⟨A, n, c, rfl, hn, hc, hm, ?_⟩
    rcases hx with ⟨rfl, rfl⟩ | ⟨g, o, cur, rfl, hg, hG, hs', hx⟩
    · exact .inl (by omega)
    · refine .inr ⟨g, o, rfl, ⟨rfl, hg, cur, (0, 0), hG.alloc _⟩, fun i hi => ?_⟩
      rw [(hG.alloc _).cell]; exact hx i hi
  · intro k hk
    rcases hx with ⟨rfl, rfl⟩ | ⟨g, o, cur, rfl, hg, hG, hs', hx⟩
    · cases hk
    · obtain rfl : g = k := by simpa using hk
      have := hG.lt
      simp; exact ⟨hg, by omega⟩
theorem offers_nil (w : World) : Calls Try.prog 10 #[.pointer none] w fun e w' => e = .returned (.int .i64 0) ∧ w = w' := by
  go_enter Try.func10, Try.ntmps10
  go_wp2
  go_ret
  exact ⟨rfl, rfl⟩
theorem offers_any (B b off : Nat) (a g : Option Nat) (an : List Bool) (tk : List (Int × Int)) (w : World) (h : SAt w B b a g an tk off) :
    Calls Try.prog 10 #[.pointer (some ⟨b, 0, none⟩)] w fun e w' => e = .returned (.int .i64 off) ∧ w = w' := by
  obtain ⟨va, vt, h1, _⟩ := h
  have hc : w.cell? ⟨b, 2, none⟩ = some (.int .i64 off) := h1.cell 2
  clear h1
  go_enter Try.func10, Try.ntmps10
  go_wp2
  go_ret
  exact ⟨rfl, rfl⟩
theorem refused_nil (w : World) : Calls Try.prog 14 #[.pointer none] w (QPost (.int .i64 0) w) := by
  go_enter Try.func14, Try.ntmps14
  go_wp2
  go_ret
  exact ⟨rfl, 0, rfl⟩
theorem refused_any (B b off : Nat) (a g : Option Nat) (an : List Bool) (tk : List (Int × Int)) (w : World) (h : SAt w B b a g an tk off) :
    Calls Try.prog 14 #[.pointer (some ⟨b, 0, none⟩)] w (QPost (.int .i64 ((off - tk.length : Nat) : Int)) w) := by
  obtain ⟨va, vt, h1, _, _, _, h5, h6, h7, _⟩ := h
  obtain ⟨A, c, rfl, _, _⟩ := own_form h5
  have hc : w.cell? ⟨b, 2, none⟩ = some (.int .i64 off) := h1.cell 2
  have hc1 : w.cell? ⟨b, 1, none⟩ = some (.slice A tk.length c) := h1.cell 1
  clear h1 h5
  generalize tk.length = t at *
  have e1 : ((off - t : Nat) : Int) = (off : Int) - (t : Int) := by omega
  rw [e1]
  clear e1
  have e2 : IntKind.i64.wrap ((off : Int) - (t : Int)) = (off : Int) - (t : Int) := IntWalk.i64_in _ (by omega)
  go_enter Try.func14, Try.ntmps14
  go_wp2
  go_quiet (fail)
  go_wp2
  go_ret
  exact ⟨rfl, nq, rfl⟩
theorem took_nil (w : World) : Calls Try.prog 13 #[.pointer none] w fun e w' => e = .returned (.slice none 0 0) ∧ w = w' := by
  go_enter Try.func13, Try.ntmps13
  go_wp2
  go_ret
  exact ⟨rfl, rfl⟩
theorem took_any (B b off : Nat) (a g : Option Nat) (an : List Bool) (tk : List (Int × Int)) (w : World) (h : SAt w B b a g an tk off) :
    Calls Try.prog 13 #[.pointer (some ⟨b, 0, none⟩)] w (CloneHPost tk w) := by
  obtain ⟨va, vt, h1, _, _, _, h5, h6, h7, _⟩ := h
  have hsl : SlZ w (fun k => k < w.heap.size) 2 vt (flat tk) := SlZ.of_own h5 fun k hk => (h5.lt k hk).2
  have hcl := cloneH_any _ vt tk w hsl (fun _ h => h) (by omega)
  have Hcl := Lib.hid hcl
  obtain ⟨A, c, rfl, _, _⟩ := own_form h5
  have hc1 : w.cell? ⟨b, 1, none⟩ = some (.slice A tk.length c) := h1.cell 1
  clear h1 h5 hsl hcl
  go_enter Try.func13, Try.ntmps13
  go_wp2_with fail
  refine Hcl.out.mono ?_
  rintro e w1 ⟨v, rfl, hv, hF⟩
  have Hv := Lib.hid (And.intro hv hF)
  clear hv hF
  go_wp2_with fail
  go_ret
  exact ⟨v, rfl, Hv.out.1, Hv.out.2⟩
end Go.Proofs.Ytgjkjcdohfccaaa
