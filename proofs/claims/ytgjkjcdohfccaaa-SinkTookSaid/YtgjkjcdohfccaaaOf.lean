/- The walk of Sink.Offer. -/
import Derived.Test.YtgjkjcdohfccaaaSk
namespace Go.Proofs.Ytgjkjcdohfccaaa
open Go.RowKit
def OfferPost (B b off : Nat) (a g : Option Nat) (an : List Bool) (tk : List (Int × Int)) (h : Int × Int) (w : World) (e : Ending) (w' : World) : Prop :=
  e = .returned (.bool (says an off)) ∧ ∃ g', SAt w' B b a g' an (if says an off = true then tk ++ [h] else tk) (off + 1) ∧ (g' = g ∨ ∃ k, g' = some k ∧ w.heap.size ≤ k) ∧ Frm (fun k => k = b ∨ g = some k) w w'
theorem offer_nil (x y : Int) (w : World) : Calls Try.prog 8 #[.pointer none, .agg #[.int .i64 x, .int .i64 y]] w fun e w' => e = .returned (.bool false) ∧ Frm (fun _ => False) w w' := by
  go_enter Try.func8, Try.ntmps8
  go_wp2
  go_ret
  exact ⟨rfl, (Frm.refl _ _).alloc _⟩
theorem offer_no {w : World} {B b off : Nat} {a g : Option Nat} {an : List Bool} {tk : List (Int × Int)} (h : SAt w B b a g an tk off) (ho : off < 10000) (o : Obj) (n : Nat) :
    SAt (((w.alloc o).drewN n).setCell ⟨b, 2, none⟩ (.int .i64 ((off : Int) + 1))) B b a g an tk (off + 1) ∧ Frm (fun k => k = b) w (((w.alloc o).drewN n).setCell ⟨b, 2, none⟩ (.int .i64 ((off : Int) + 1))) := by
  have hF : Frm (fun k => k = b) w (((w.alloc o).drewN n).setCell ⟨b, 2, none⟩ (.int .i64 ((off : Int) + 1))) := (((Frm.refl (fun k => k = b) w).alloc o).drewN n).setCell ⟨b, 2, none⟩ (.inl rfl) _
  refine ⟨?_, hF⟩
  obtain ⟨va, vt, h1, h2, h3, h4, h5, h6, h7, h8, h9⟩ := h
  have h1' : Blk ((w.alloc o).drewN n) b 44 #[va, vt, .int .i64 off] := h1.alloc o
  refine ⟨va, vt, h1'.set_ 2 _, h2, h3.keptTo fun k hk => ?_, h4, hF.own h5 (fun k hk he => own_blk_ne h5 h1 (by decide) (he ▸ hk)), by omega, by omega, h8, Nat.le_trans h9 hF.size⟩
  obtain ⟨q1, q2, cs, fr, q3⟩ := hk
  have hne : k ≠ b := by rintro rfl; unfold Blk at h1; rw [h1] at q3; cases q3
  have := hF.block k (lt_heap q3) hne
  exact ⟨this, q1, q2, cs, fr, by rw [this]; exact q3⟩
theorem offer_yes {w2 w3 : World} {B b off N1 c0 c1 : Nat} {a : Option Nat} {an : List Bool} {tk : List (Int × Int)} {x y : Int} {va2 : Value} {A0 A1 : Option Addr} {o : Obj} (hQ : SAt w2 B b a (Value.slice A0 tk.length c0).ownBlock an tk (off + 1)) (h7 : tk.length ≤ off)
    (r1 : Blk w2 b 44 #[va2, .slice A0 tk.length c0, .int .i64 (off + 1 : Nat)]) (hown : w3.ownsRow B 29 2 (.slice A1 N1 c1) N1 (flat tk ++ [.int .i64 x, .int .i64 y])) (HN : N1 = tk.length + 1) (hg : (w2.alloc o).drew.grownBy w3 (Value.slice A0 tk.length c0).ownBlock) (hne : (Value.slice A0 tk.length c0).ownBlock ≠ some b)
    (hat : (Value.slice A1 N1 c1).ownBlock = (Value.slice A0 tk.length c0).ownBlock ∨ (Value.slice A1 N1 c1).ownBlock = some (w2.alloc o).heap.size) :
    SAt (w3.setCell ⟨b, 1, none⟩ (.slice A1 N1 c1)) B b a (Value.slice A1 N1 c1).ownBlock an (tk ++ [(x, y)]) (off + 1) ∧ Frm (fun k => k = b ∨ (Value.slice A0 tk.length c0).ownBlock = some k) w2 (w3.setCell ⟨b, 1, none⟩ (.slice A1 N1 c1)) ∧
      ((Value.slice A1 N1 c1).ownBlock = (Value.slice A0 tk.length c0).ownBlock ∨ ∃ k, (Value.slice A1 N1 c1).ownBlock = some k ∧ w2.heap.size ≤ k) := by
  have hF2 : Frm (fun k => k = b ∨ (Value.slice A0 tk.length c0).ownBlock = some k) w2 w3 := ((Frm.refl _ w2).alloc o).drew.grown hg (fun k hk => .inl (.inr hk))
  have hF : Frm (fun k => k = b ∨ (Value.slice A0 tk.length c0).ownBlock = some k) w2 (w3.setCell ⟨b, 1, none⟩ (.slice A1 N1 c1)) := hF2.setCell _ (.inl (.inl rfl)) _
  refine ⟨?_, hF, hat.imp id fun h => ⟨_, h, by simp⟩⟩
  obtain ⟨va, vt, h1, h2, h3, h4, h5, h6, h7', h8, h9⟩ := hQ
  have r3 : Blk w3 b 44 #[va2, .slice A0 tk.length c0, .int .i64 (off + 1 : Nat)] := (r1.alloc o).drew.kept (Frm.of_grown hg) hne
  have hva : va = va2 := by unfold Blk at h1 r1; rw [h1] at r1; injection r1 with r1; injection r1 with r1; simp at r1; exact r1.1
  have hvt : vt = .slice A0 tk.length c0 := by unfold Blk at h1 r1; rw [h1] at r1; injection r1 with r1; injection r1 with r1; simp at r1; exact r1.2
  have h5' := hvt ▸ h5
  subst hva
  subst HN
  refine ⟨va, .slice A1 (tk.length + 1) c1, r3.set_ 1 _, h2, h3.keptTo fun k hk => ?_, rfl, ?_, h6, by simp; omega, h8, Nat.le_trans h9 hF.size⟩
  · obtain ⟨q1, q2, cs, fr, q3⟩ := hk
    have hkb : k ≠ b := by rintro rfl; unfold Blk at h1; rw [h1] at q3; cases q3
    have := hF.block k (lt_heap q3) (fun h => h.elim hkb (own_ne h5' q3 (by decide)))
    exact ⟨this, q1, q2, cs, fr, by rw [this]; exact q3⟩
  · have hne' : ∀ g, (Value.slice A1 (tk.length + 1) c1).ownBlock = some g → ¬ g = b := fun g hg' => own_blk_ne hown r3 (by decide) |> fun h e => h (e ▸ hg')
    have := (Frm.setCell (Frm.refl (fun k => k = b) w3) ⟨b, 1, none⟩ (.inl rfl) (.slice A1 (tk.length + 1) c1)).own hown hne'
    simpa [flat_append, flat] using this
set_option maxHeartbeats 1000000 in
theorem offer_any (B b off : Nat) (a g : Option Nat) (an : List Bool) (tk : List (Int × Int)) (x y : Int) (w : World) (h : SAt w B b a g an tk off) (ho : off < 10000) :
    Calls Try.prog 8 #[.pointer (some ⟨b, 0, none⟩), .agg #[.int .i64 x, .int .i64 y]] w (OfferPost B b off a g an tk (x, y) w) := by
  obtain ⟨va, vt, h1, h2, h3, h4, h5, h6, h7, h8, h9⟩ := id h
  have hbl := h1.lt
  have c0 : w.cell? ⟨b, 0, none⟩ = some va := h1.cell 0
  have c2 : w.cell? ⟨b, 2, none⟩ = some (.int .i64 off) := h1.cell 2
  have f2 : w.frozen? ⟨b, 2, none⟩ = false := h1.frozen 2
  have d0 : (w.alloc (.cells #[.int .i64 x, .int .i64 y] 29)).cell? ⟨b, 0, none⟩ = some va := (World.cell?_alloc_lt _ _ _ hbl).trans c0
  have ha := fun n => answer_any (KA w B a) b va an off ((w.alloc (.cells #[.int .i64 x, .int .i64 y] 29)).drewN n) d0 (h3.keptTo fun k hk => ⟨by
    obtain ⟨q1, q2, cs, fr, q3⟩ := hk
    exact Below.heap_alloc _ _ _ (lt_heap q3), hk⟩) (by omega) (by omega)
  have e1 : IntKind.i64.wrap ((off : Int) + 1) = (off : Int) + 1 := IntWalk.i64_in _ (by omega)
  have Ha := Lib.hid ha
  have H := Lib.hid (And.intro h (And.intro h1 (And.intro h2 (And.intro h3 (And.intro h4 (And.intro h5 hbl))))))
  have d2 : (w.alloc (.cells #[.int .i64 x, .int .i64 y] 29)).cell? ⟨b, 2, none⟩ = some (.int .i64 off) := (World.cell?_alloc_lt _ _ _ hbl).trans c2
  have g2 : (w.alloc (.cells #[.int .i64 x, .int .i64 y] 29)).frozen? ⟨b, 2, none⟩ = false := (World.frozen?_alloc_past _ _ _ hbl).trans f2
  clear h h1 h2 h3 h4 h5 d0 ha c0 c2 f2
  unfold OfferPost
  cases hs : says an off
  · rw [hs] at Ha
    go_enter Try.func8, Try.ntmps8
    go_wp2_with fail
    go_quiet ((go_at_call 18; exact Calls.quiet_of (Ha.out _)))
    go_wp2
    go_ret
    obtain ⟨q1, q2⟩ := offer_no H.out.1 ho (.cells #[.int .i64 x, .int .i64 y] 29) nq
    exact ⟨rfl, g, q1, .inl rfl, q2.mono fun k hk => .inl (.inl hk)⟩
  · rw [hs] at Ha
    go_enter Try.func8, Try.ntmps8
    go_wp2_with fail
    go_quiet ((go_at_call 18; exact Calls.quiet_of (Ha.out _)))
    go_wp2_with fail
    obtain ⟨q1, q2⟩ := offer_no H.out.1 ho (.cells #[.int .i64 x, .int .i64 y] 29) nq
    have p0 : Blk (((w.alloc (.cells #[.int .i64 x, .int .i64 y] 29)).drewN nq).setCell ⟨b, 2, none⟩ (.int .i64 ((off : Int) + 1))) w.heap.size 29 #[.int .i64 x, .int .i64 y] := by
      have h0 : Blk ((w.alloc (.cells #[.int .i64 x, .int .i64 y] 29)).drewN nq) w.heap.size 29 #[.int .i64 x, .int .i64 y] := Blk.new w _ _
      exact h0.far (p := ⟨b, 2, none⟩) (by simp; omega) _
    have hw : w.heap.size = w.heap.size := rfl
    generalize hb0 : w.heap.size = b0 at p0
    generalize ((w.alloc (.cells #[.int .i64 x, .int .i64 y] 29)).drewN nq).setCell ⟨b, 2, none⟩ (.int .i64 ((off : Int) + 1)) = w2 at *
    obtain ⟨va2, vt2, r1, r2, r3, r4, r5, r6, r7, r8, r9⟩ := id q1
    obtain ⟨A0, c0, rfl, _, _⟩ := own_form r5
    obtain ⟨i0, hi, hz0, hz1, hz2⟩ := infoH
    have u0 : w2.cell? ⟨b0, 0, none⟩ = some (.int .i64 x) := p0.cell 0
    have u1 : w2.cell? ⟨b0, 1, none⟩ = some (.int .i64 y) := p0.cell 1
    have u2 : w2.cell? ⟨b, 1, none⟩ = some (.slice A0 tk.length c0) := r1.cell 1
    have u3 : w2.frozen? ⟨b, 1, none⟩ = false := r1.frozen 1
    have hbl2 := r1.lt
    have hb0l := p0.lt
    have hgb := own_blk_ne r5 r1 (by decide)
    have Hq := Lib.hid (And.intro q1 (And.intro q2 (And.intro r1 (And.intro r5 (And.intro r4 (And.intro hgb r9))))))
    clear q1 q2 r1 r2 r3 r4 r5 p0 d2 g2 hgb H Ha hw
    go_region_law (refine step_append_slz (by rfl) (.tmp 28) (.tmp 30) 23 (by rfl) B 29 i0 _ 2 16 Try.underlying23 hi hz0 hz1 hz2 (by rfl) (by decide) _ tk.length _ (by rfl) (by exact Hq.out.2.2.2.1.alloc _) (fun k => k = w2.heap.size) _ 1 [.int .i64 x, .int .i64 y] (by rfl) (by exact SlZ.blk2 w2 _ _ _) (by rfl) (by simp [Value.oneCell']) (by unfold maxLen; omega) (by omega) (by simp; omega) ?_; intro A1 N1 c1 w3 HN1 hNc1 hcm1 hown1 hg1 hat1; have f3 : w3.frozen? ⟨b, 1, none⟩ = false := ((Frm.of_grown hg1).frozen (a := ⟨b, 1, none⟩) (by simp; omega) (Hq.out.2.2.2.2.2.1)).trans ((World.frozen?_alloc_past _ _ _ hbl2).trans u3); have s3 : w3.cell? ⟨b, 1, none⟩ = some (.slice A0 tk.length c0) := (Frm.of_grown hg1).cell (a := ⟨b, 1, none⟩) ((World.cell?_alloc_lt _ _ _ hbl2).trans u2) (Hq.out.2.2.2.2.2.1))
    all_goals
      go_wp2_with fail
      go_ret
      obtain ⟨q1, q2, q3, q4, q5, q6, _⟩ := Hq.out
      rw [← q5] at q1 ⊢
      obtain ⟨z1, z2, z3⟩ := offer_yes q1 h7 q3 hown1 HN1.out hg1 q6 hat1
      have hs2 := q2.size
      refine ⟨rfl, _, z1, z3.imp id fun ⟨k, e1, e2⟩ => ⟨k, e1, by omega⟩, (q2.mono fun k hk => .inl (.inl hk)).trans' z2⟩
end Go.Proofs.Ytgjkjcdohfccaaa
