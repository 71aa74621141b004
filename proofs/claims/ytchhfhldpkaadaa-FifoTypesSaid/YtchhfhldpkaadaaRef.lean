/- The walks of teaselref21. -/
import Derived.Test.YtchhfhldpkaadaaCi
namespace Go.Proofs.Ytchhfhldpkaadaa
open Go.RowKit
theorem iv_one (xs : List Int) : ∀ u ∈ xs.map iv, u.oneCell' = true := by
  intro u hu; simp at hu; obtain ⟨x, _, rfl⟩ := hu; rfl
/-- The reference's queue: its block b, its room, what is in it, whether it is closed; its row in blocks from E on. -/
def RefAt (w : World) (E b m : Nat) (xs : List Int) (cl : Bool) : Prop :=
  ∃ v, Blk w b 33 #[.int .i64 m, v, .bool cl] ∧ b < E ∧ E ≤ w.heap.size ∧ Sl w (fun k => E ≤ k ∧ k < w.heap.size) v (xs.map iv) ∧ xs.length ≤ 16 ∧ m ≤ 16
section
variable {w w' : World} {E b m : Nat} {xs : List Int} {cl : Bool}
theorem RefAt.kept {K : Nat → Prop} (h : RefAt w E b m xs cl) (hF : Frm K w w') (hb : ¬ K b) (hE : ∀ k, E ≤ k → k < w.heap.size → ¬ K k) : RefAt w' E b m xs cl := by
  obtain ⟨v, h1, h2, h3, h4, h5, h6⟩ := h
  have := hF.size
  exact ⟨v, h1.kept hF hb, h2, by omega, h4.keptTo fun k hk => ⟨hF.block k hk.2 (hE k hk.1 hk.2), hk.1, by omega⟩, h5, h6⟩
theorem RefAt.keptF (h : RefAt w E b m xs cl) (hF : Frm (fun _ => False) w w') : RefAt w' E b m xs cl := h.kept hF id fun _ _ _ => id
theorem RefAt.open_ (h : RefAt w E b m xs cl) : ∃ A n c, w.cell? ⟨b, 0, none⟩ = some (.int .i64 m) ∧ w.cell? ⟨b, 1, none⟩ = some (.slice A n c) ∧ w.cell? ⟨b, 2, none⟩ = some (.bool cl) ∧ Sl w (fun k => E ≤ k ∧ k < w.heap.size) (.slice A n c) (xs.map iv) ∧ n = xs.length ∧ n ≤ c ∧ c ≤ 9223372036854775807 ∧ (∀ i, w.frozen? ⟨b, i, none⟩ = false) ∧ b < E ∧ E ≤ w.heap.size ∧ xs.length ≤ 16 ∧ m ≤ 16 ∧ Blk w b 33 #[.int .i64 m, .slice A n c, .bool cl] := by
  obtain ⟨v, h1, h2, h3, h4, h5, h6⟩ := h
  obtain ⟨A, n, c, rfl, hn, hc, hm, hx⟩ := id h4
  rw [List.length_map] at hn
  exact ⟨A, n, c, h1.cell 0, h1.cell 1, h1.cell 2, h4, hn, hc, hm, h1.frozen, h2, h3, h5, h6, h1⟩
end
theorem may_any (n : Int) (w : World) : Calls Try.prog 10 #[.int .i64 n] w fun e w' => e = .returned (.bool (decide (1 ≤ n ∧ n ≤ 16))) ∧ w = w' := by
  by_cases h : 1 ≤ n
  · have hd : decide (1 ≤ n ∧ n ≤ 16) = decide (n ≤ 16) := by rw [decide_eq_decide]; omega
    rw [hd]; clear hd
    go_enter Try.func10, Try.ntmps10
    go_wp2
    go_ret
    exact ⟨rfl, rfl⟩
  · have hd : decide (1 ≤ n ∧ n ≤ 16) = false := by simp; omega
    rw [hd]; clear hd
    go_enter Try.func10, Try.ntmps10
    go_wp2
    go_ret
    exact ⟨rfl, rfl⟩
def RPost (E b m : Nat) (v : Value) (xs : List Int) (cl : Bool) (w : World) (e : Ending) (w' : World) : Prop :=
  e = .returned v ∧ RefAt w' E b m xs cl ∧ Frm (fun k => k = b) w w'
theorem rclose_any (E b m : Nat) (xs : List Int) (cl : Bool) (w : World) (h : RefAt w E b m xs cl) :
    Calls Try.prog 16 #[.pointer (some ⟨b, 0, none⟩)] w (RPost E b m (.bool !cl) xs true w) := by
  obtain ⟨A, n, c, c0, c1, c2, hs, hn, hc, hm, hf, hbE, hE, hx, hm6, hb⟩ := h.open_
  have f2 := hf 2
  have H := Lib.hid (And.intro hs hb)
  clear h hs hb hn c1 hf c0
  go_enter Try.func16, Try.ntmps16
  go_wp2
  go_ret
  obtain ⟨hs, hb⟩ := H.out
  exact ⟨rfl, ⟨_, by simpa using hb.set_ 2 (.bool true), hbE, by simpa using hE, hs.keptTo fun k hk => ⟨Below.heap_setCell _ _ _ _ (by simp; omega), by simpa using hk⟩, hx, hm6⟩, (Frm.refl (fun k => k = b) w).setCell ⟨b, 2, none⟩ (.inl rfl) _⟩
theorem rclear_any (E b m : Nat) (xs : List Int) (cl : Bool) (w : World) (h : RefAt w E b m xs cl) :
    Calls Try.prog 18 #[.pointer (some ⟨b, 0, none⟩)] w (RPost E b m (.int .i64 xs.length) [] cl w) := by
  obtain ⟨A, n, c, c0, c1, c2, hs, hn, hc, hm, hf, hbE, hE, hx, hm6, hb⟩ := h.open_
  have f1 := hf 1
  subst hn
  have H := Lib.hid (And.intro hs hb)
  clear h hs hb hf c0 c2
  generalize hL : xs.length = n at *
  clear hL
  go_enter Try.func18, Try.ntmps18
  go_wp2
  go_ret
  obtain ⟨hs, hb⟩ := H.out
  exact ⟨rfl, ⟨_, by simpa using hb.set_ 1 (.slice none 0 0), hbE, by simpa using hE, ⟨none, 0, 0, rfl, rfl, Nat.le_refl _, by omega, .inl rfl⟩, by simp, hm6⟩, (Frm.refl (fun k => k = b) w).setCell ⟨b, 1, none⟩ (.inl rfl) _⟩
theorem rget_no (E b m : Nat) (cl : Bool) (w : World) (h : RefAt w E b m [] cl) :
    Calls Try.prog 14 #[.pointer (some ⟨b, 0, none⟩)] w (RPost E b m (.tuple #[.int .i64 0, .bool false]) [] cl w) := by
  obtain ⟨A, n, c, c0, c1, c2, hs, hn, hc, hm, hf, hbE, hE, hx, hm6, hb⟩ := h.open_
  simp only [List.length_nil] at hn
  subst hn
  have H := Lib.hid h
  clear h hs hb hf c0 c2
  go_enter Try.func14, Try.ntmps14
  go_wp2
  go_ret2
  exact ⟨rfl, H.out, Frm.refl _ _⟩
theorem Sl.tail {w : World} {K : Nat → Prop} {A : Option Addr} {n c : Nat} {x : Value} {xs : List Value} (h : Sl w K (.slice A n c) (x :: xs)) : Sl w K (.slice (if c = 1 then A else A.map (·.add 1)) (n - 1) (c - 1)) xs := by
  obtain ⟨A', n', c', he, hn, hc, hm, hx⟩ := h
  cases he
  simp at hn
  obtain ⟨g, o, rfl, hK, hx⟩ := hx.resolve_left (by omega)
  refine ⟨_, _, _, rfl, by omega, by omega, by omega, ?_⟩
  by_cases h1 : n = 1
  · exact .inl (by omega)
  · refine .inr ⟨g, o + 1, ?_, hK, fun i hi => ?_⟩
    · rw [if_neg (by omega)]; simp [Addr.add]
    · have := hx (i + 1) (by simp; omega)
      rw [show o + 1 + i = o + (i + 1) from by omega, this]; simp
theorem rget_ok (E b m : Nat) (x : Int) (xs : List Int) (cl : Bool) (w : World) (h : RefAt w E b m (x :: xs) cl) :
    Calls Try.prog 14 #[.pointer (some ⟨b, 0, none⟩)] w (RPost E b m (.tuple #[.int .i64 x, .bool true]) xs cl w) := by
  obtain ⟨A, n, c, c0, c1, c2, hs, hn, hc, hm, hf, hbE, hE, hx, hm6, hb⟩ := h.open_
  have f1 := hf 1
  rw [List.length_cons] at hn hx
  have hdr := run_drop (P := Try.prog) (sz := 1) Try.underlying31 (fun w => by kernel_rfl) A n c 1 (by omega) (by omega) w
  simp only [show (1 : Int).toNat = 1 from rfl, Nat.mul_one] at hdr
  have hst : ∃ g o, A = some ⟨g, o, none⟩ ∧ w.cell? ⟨g, o, none⟩ = some (.int .i64 x) := by
    obtain ⟨A', n', c', he, hn, hc, hm, hx⟩ := id hs
    cases he
    obtain ⟨g, o, rfl, hK, hx⟩ := hx.resolve_left (by simp at hn; omega)
    exact ⟨g, o, rfl, by have := hx 0 (by simp); simpa [iv] using this⟩
  obtain ⟨g, o, rfl, cx⟩ := hst
  have hnz : ((n : Int) == 0) = false := by simp; omega
  have hn0 : 0 < n := by omega
  have ht := (show Sl w _ _ (iv x :: xs.map iv) from hs).tail
  generalize (if c = 1 then some (⟨g, o, none⟩ : Addr) else (some (⟨g, o, none⟩ : Addr)).map (·.add 1)) = A2 at *
  have H := Lib.hid (And.intro ht (And.intro hb (And.intro hn hx)))
  clear h hs hb hn hf c0 c2 ht hx
  go_enter Try.func14, Try.ntmps14
  go_wp2
  go_ret2
  obtain ⟨ht, hb, hn, hx⟩ := H.out
  exact ⟨rfl, ⟨_, by simpa using hb.set_ 1 (.slice A2 (n - 1) (c - 1)), hbE, by simpa using hE, ht.keptTo fun k hk => ⟨Below.heap_setCell _ _ _ _ (by simp; omega), by simpa using hk⟩, by omega, hm6⟩, (Frm.refl (fun k => k = b) w).setCell ⟨b, 1, none⟩ (.inl rfl) _⟩
theorem rput_no (E b m : Nat) (xs : List Int) (cl : Bool) (A : Option Addr) (n c : Nat) (w : World) (h : RefAt w E b m xs cl) (hn : n ≤ 100) (hcl : cl = true ∨ m < xs.length + n) :
    Calls Try.prog 12 #[.pointer (some ⟨b, 0, none⟩), .slice A n c] w (RPost E b m (.bool false) xs cl w) := by
  obtain ⟨A1, n1, c1', c0, c1, c2, hs, hn1, hc, hm, hf, hbE, hE, hx, hm6, hb⟩ := h.open_
  have H := Lib.hid h
  rw [← hn1] at hx hcl
  clear h hs hn1 hb hf
  cases cl with
  | true =>
    clear hcl c0 c1
    go_enter Try.func12, Try.ntmps12
    go_wp2
    go_quiet (fail)
    go_wp2
    go_ret
    exact ⟨rfl, H.out.keptF ((Frm.refl _ w).drewN nq), (Frm.refl _ w).drewN nq⟩
  | false =>
    have hd : (m : Int) < (n1 : Int) + (n : Int) := by rcases hcl with h | h; cases h; omega
    have hd2 : IntKind.i64.wrap ((n1 : Int) + (n : Int)) = (n1 : Int) + (n : Int) := IntWalk.i64_in _ (by omega)
    clear hcl
    go_enter Try.func12, Try.ntmps12
    go_wp2
    go_quiet (fail)
    go_wp2
    go_ret
    exact ⟨rfl, H.out.keptF ((Frm.refl _ w).drewN nq), (Frm.refl _ w).drewN nq⟩
set_option maxHeartbeats 1000000 in
theorem rput_ok (K : Nat → Prop) (E b m : Nat) (xs l : List Int) (v : Value) (w : World) (h : RefAt w E b m xs false) (hv : Sl w K v (l.map iv)) (hK : ∀ k, K k → k < w.heap.size) (hc : xs.length + l.length ≤ m) :
    Calls Try.prog 12 #[.pointer (some ⟨b, 0, none⟩), v] w (RPost E b m (.bool true) (xs ++ l) false w) := by
  obtain ⟨A1, n1, c1', c0, c1, c2, hs, hn1, hc', hm, hf, hbE, hE, hx, hm6, hb⟩ := h.open_
  obtain ⟨A, n, c, rfl, hn, hnc, hcm, _⟩ := id hv
  rw [List.length_map] at hn
  obtain ⟨i0, hi, hz0, hz1, hz2⟩ := info_parts CI.infoI
  have f1 := hf 1
  have hd : (n1 : Int) + (n : Int) ≤ (m : Int) := by omega
  have hd2 : IntKind.i64.wrap ((n1 : Int) + (n : Int)) = (n1 : Int) + (n : Int) := IntWalk.i64_in _ (by omega)
  have hd3 : decide ((m : Int) < (n1 : Int) + (n : Int)) = false := by simp; omega
  have H := Lib.hid (And.intro h (And.intro hs (And.intro hb (And.intro hn1 (And.intro hn (And.intro hv (And.intro hK hc)))))))
  clear h hs hn1 hb hf hx hn hv hK hc
  go_enter Try.func12, Try.ntmps12
  go_wp2_with fail
  go_quiet (fail)
  have Hq := Lib.hid (And.intro (H.out.1.keptF ((Frm.refl _ w).drewN nq)) ((Frm.refl (fun _ => False) w).drewN nq))
  have d1 : (w.drewN nq).cell? ⟨b, 1, none⟩ = some (.slice A1 n1 c1') := c1
  have g1 : (w.drewN nq).frozen? ⟨b, 1, none⟩ = false := f1
  have hs1 : Sl (w.drewN nq) (fun k => E ≤ k ∧ k < (w.drewN nq).heap.size) (.slice A1 n1 c1') (xs.map iv) := H.out.2.1
  have hv1 : Sl (w.drewN nq) (fun k => k < (w.drewN nq).heap.size) (.slice A n c) (l.map iv) := H.out.2.2.2.2.2.1.keptTo fun k hk => ⟨rfl, H.out.2.2.2.2.2.2.1 k hk⟩
  have hbl : b < (w.drewN nq).heap.size := Nat.lt_of_lt_of_le hbE hE
  have HE : Hid (E ≤ (w.drewN nq).heap.size) := hE
  have Hs := Lib.hid (And.intro hs1 hv1)
  clear c0 c1 c2 f1 hs1 hv1 hE
  generalize w.drewN nq = w1 at *
  have hfr : ∀ w2, (w1.alloc (Obj.cells #[] 3)).grownBy w2 (Value.slice (some ⟨w1.heap.size, 0, none⟩) 0 0).ownBlock → Frm (fun _ => False) w1 w2 := fun w2 hg => ((Frm.refl _ w1).alloc _).grown hg (fun k hk => Or.inr (by have h : some w1.heap.size = some k := hk; injection h; omega))
  have Hfr := Lib.hid hfr
  clear hfr
  go_wp2_with (at_builtin; first
    | (refine wpList_append_sl (by rfl) _ _ 31 (by rfl) w1.heap.size 3 i0 (.int .i64 0) 8 Try.underlying31 hi hz0 hz1 hz2 (by rfl) _ 0 [] (by rfl) (own_new0 rfl (Nat.le_refl _)) (fun k => k < w1.heap.size) _ (xs.map iv) (by rfl) (by exact Hs.out.1.keptTo fun k hk => ⟨Below.heap_alloc _ _ _ hk.2, hk.2⟩) (iv_one xs) (by unfold maxLen; rw [List.length_map]; have := H.out.2.2.2.2.2.2.2; omega) (by rw [List.length_map]; have := H.out.2.2.2.2.2.2.2; omega) (by simp) ?_; intro A2 N2 c2 w2 HN2 hNc2 hc2 hown2 hg2 hat2; have Hg2 := Lib.hid (Hfr.out w2 hg2))
    | (refine wpList_append_sl (by rfl) _ _ 31 (by rfl) w1.heap.size 3 i0 (.int .i64 0) 8 Try.underlying31 hi hz0 hz1 hz2 (by rfl) _ N2 _ (by rfl) hown2 (fun k => k < w1.heap.size) _ (l.map iv) (by rfl) (by exact Hs.out.2.keptTo fun k hk => ⟨Hg2.out.block k hk id, hk⟩) (iv_one l) (by unfold maxLen; rw [List.length_map]; have := HN2.out; rw [List.length_map] at this; have := H.out.2.2.2.2.2.2.2; omega) (by rw [List.length_map]; have := HN2.out; rw [List.length_map] at this; have := H.out.2.2.2.2.2.2.2; omega) (by have := Hg2.out.size; omega) ?_; intro A3 N3 c3 w3 HN3 hNc3 hc3 hown3 hg3 hat3; have hF3 : Frm (fun _ => False) w1 w3 := Hg2.out.grown hg3 (fun k hk => Or.inr (hown2.lt k hk).1); have e3 := hF3.cell d1 id; have f3 := (hF3.frozen (a := ⟨b, 1, none⟩) hbl id).trans g1; have HF3 := Lib.hid hF3; clear hF3 hg3 hat3 hat2 hg2))
  go_ret
  have hF3 := HF3.out
  obtain ⟨A1', n1', c1'', c0, c1, c2', hs, hn1, hc', hm', hf, _, _, hx, _, hb⟩ := Hq.out.1.open_
  have := hF3.size
  refine ⟨rfl, ⟨.slice A3 N3 c3, by simpa using (hb.kept hF3 id).set_ 1 (.slice A3 N3 c3), hbE, by simp; have := HE.out; omega, ?_, by have := H.out.2.2.2.2.2.2.2; simp; omega, hm6⟩, (Hq.out.2.trans hF3 (fun _ h => h.elim)).mono (K' := fun k => k = b) (fun _ h => h.elim) |>.setCell ⟨b, 1, none⟩ (.inl rfl) _⟩
  have hsl : Sl w3 (fun k => w1.heap.size ≤ k ∧ k < w3.heap.size) (.slice A3 N3 c3) ((xs ++ l).map iv) := by
    have := (OSl.of_own (K := fun k => w1.heap.size ≤ k ∧ k < w3.heap.size) hown3 (fun g hg => hown3.lt g hg)).sl.mono (K' := fun k => w1.heap.size ≤ k ∧ k < w3.heap.size) (fun k hk => hk.1)
    simpa using this
  exact hsl.keptTo fun k hk => ⟨Below.heap_setCell _ _ _ _ (by simp; omega), by have := HE.out; simp; omega⟩
end Go.Proofs.Ytchhfhldpkaadaa
