/- The walk of teasellaw26.wakes. -/
import Derived.Test.YtgjkjcdohfccaaaOf
import Derived.Test.YtgjkjcdohfccaaaWj
import Derived.Test.YtgjkjcdohfccaaaRe
namespace Go.Proofs.Ytgjkjcdohfccaaa
open Go.RowKit
theorem Sl.blkL (w : World) (xs : List Value) (n : Nat) (t : TypeId) (hn : n = xs.length) (hl : n ≤ 1000) : Sl (w.alloc (.cells xs.toArray t)) (fun k => k = w.heap.size) (.slice (some ⟨w.heap.size, 0, none⟩) n n) xs :=
  ⟨_, _, _, rfl, hn, Nat.le_refl _, by omega, .inr ⟨_, 0, rfl, rfl, fun i hi => by
    rw [cell_of_row _ _ _ _ t (0, 0) (heap_alloc_new w _)]; simp⟩⟩
theorem SlZ.blkL (w : World) (xs : List Value) (n sz : Nat) (t : TypeId) (hn : xs.length = n * sz) (hl : n ≤ 1000) : SlZ (w.alloc (.cells xs.toArray t)) (fun k => k = w.heap.size) sz (.slice (some ⟨w.heap.size, 0, none⟩) n n) xs :=
  ⟨_, _, _, rfl, hn, Nat.le_refl _, by omega, .inr ⟨_, 0, rfl, rfl, fun i hi => by
    rw [cell_of_row _ _ _ _ t (0, 0) (heap_alloc_new w _)]; simp⟩⟩
theorem Sl.none (w : World) : Sl w (fun _ => False) (.slice none 0 0) [] := ⟨_, _, _, rfl, rfl, Nat.le_refl _, by omega, .inl rfl⟩
/-- What an offer changes lies behind w0. -/
theorem offer_frm {w0 w w' : World} {B b off : Nat} {a g : Option Nat} {an : List Bool} {tk : List (Int × Int)} (h : SAt w B b a g an tk off) (hB : w0.heap.size ≤ B) (hF : Frm (fun _ => False) w0 w) (hF' : Frm (fun k => k = b ∨ g = some k) w w') : Frm (fun _ => False) w0 w' :=
  hF.trans hF' (fun k hk => .inr (by obtain ⟨_, h2, h3⟩ := h.lt; rcases hk with rfl | hk; omega; have := (h2 k hk).1; omega))
/-- Two sinks apart: an offer to one leaves the other. -/
theorem SAt.apart {w w' : World} {B b off B2 b2 off2 : Nat} {a g a2 g2 : Option Nat} {an an2 : List Bool} {tk tk2 : List (Int × Int)} (h : SAt w B b a g an tk off) (s : SAt w B2 b2 a2 g2 an2 tk2 off2) (hF : Frm (fun k => k = b2 ∨ g2 = some k) w w') (hb : b ≠ b2) (hg : ∀ k, g = some k → g2 ≠ some k) : SAt w' B b a g an tk off := by
  obtain ⟨va, vt, h1, h2, h3, h4, h5, h6, h7, h8, h9⟩ := h
  obtain ⟨va2, vt2, s1, s2, s3, s4, s5, s6, s7, s8, s9⟩ := s
  refine ⟨va, vt, h1.kept hF ?_, h2, h3.keptTo fun k hk => ?_, h4, hF.own h5 ?_, h6, h7, h8, Nat.le_trans h9 hF.size⟩
  · rintro (rfl | h)
    · exact hb rfl
    · exact own_blk_ne s5 h1 (by decide) (s4 ▸ h)
  · obtain ⟨q1, q2, cs, fr, q3⟩ := hk
    have hne : ¬ (k = b2 ∨ g2 = some k) := by
      rintro (rfl | h)
      · unfold Blk at s1; rw [s1] at q3; cases q3
      · exact own_ne s5 q3 (by decide) (s4 ▸ h)
    have := hF.block k (lt_heap q3) hne
    exact ⟨this, q1, q2, cs, fr, by rw [this]; exact q3⟩
  · intro k hk
    rintro (rfl | h)
    · exact own_blk_ne h5 s1 (by decide) hk
    · exact hg k (h4 ▸ hk) h
theorem within_eq {K : Nat → Prop} {va : Value} {an : List Bool} {w : World} {f : Nat} {o : Bool} (h : Sl w K va (bvs an)) (hK : ∀ k, K k → k < w.heap.size) (hl : an.length ≤ 10000) (hw : winOf an = (f, o)) :
    Calls Try.prog 15 #[va] w fun e w' => e = .returned (.tuple #[.int .i64 f, .bool o]) ∧ Frm (fun _ => False) w w' :=
  (within_any K va an w h hK hl).mono (by rintro e w' ⟨rfl, hF⟩; rw [hw]; exact ⟨rfl, hF⟩)
theorem offer_eq {w : World} {B b off : Nat} {a g : Option Nat} {an : List Bool} {tk tk' : List (Int × Int)} {x y : Int} {s : Bool} (h : SAt w B b a g an tk off) (ho : off < 10000) (hs : says an off = s) (ht : (if s = true then tk ++ [(x, y)] else tk) = tk') :
    Calls Try.prog 8 #[.pointer (some ⟨b, 0, none⟩), .agg #[.int .i64 x, .int .i64 y]] w fun e w' => e = .returned (.bool s) ∧ ∃ g', SAt w' B b a g' an tk' (off + 1) ∧ (g' = g ∨ ∃ k, g' = some k ∧ w.heap.size ≤ k) ∧ Frm (fun k => k = b ∨ g = some k) w w' := by
  subst ht hs
  exact offer_any B b off a g an tk x y w h ho
theorem new_eq {K : Nat → Prop} {v : Value} {an : List Bool} {w : World} (h : Sl w K v (bvs an)) (hK : ∀ k, K k → k < w.heap.size) (hb : an.length ≤ 100000) :
    Calls Try.prog 7 #[v] w fun e w' => ∃ b a B, e = .returned (.pointer (some ⟨b, 0, none⟩)) ∧ SAt w' B b a none an [] 0 ∧ Frm (fun _ => False) w w' ∧ (w.heap.size ≤ B ∧ ∀ k, a = some k → w.heap.size ≤ k ∧ k < w'.heap.size) :=
  (new_any K v an w h hK hb).mono (by rintro e w' ⟨b, a, h1, h2, h3, h4⟩; exact ⟨b, a, _, h1, h2, h3, Nat.le_refl _, h4⟩)
set_option maxRecDepth 100000 in
set_option maxHeartbeats 4000000 in
theorem wakes_any (w : World) : Calls Try.prog 6 #[] w fun e w' => e = .returned (.bool true) ∧ Frm (fun _ => False) w w' := by
  go_enter Try.func6, Try.ntmps6
  go_wp2_with fail
  refine (new_eq (an := [true, false, false]) (Sl.blkL w (bvs [true, false, false]) 3 _ rfl (by omega)) (fun k hk => by subst hk; simp) (by decide)).mono ?_
  rintro e w1 ⟨b, a, B, rfl, h, hF, hB, ha⟩
  have H := Lib.hid (((Frm.refl (fun _ => False) w).alloc (.cells #[.bool true, .bool false, .bool false] 4)).trans hF (fun _ h => h.elim))
  have HB := Lib.hid (show w.heap.size ≤ B from Nat.le_trans (by simp) hB)
  have Ha := Lib.hid ha
  clear hF hB ha
  go_wp2_with fail
  refine (offer_eq (s := true) (tk' := [(1, 0)]) h (by omega) rfl rfl).mono ?_
  rintro e w2 ⟨rfl, g1, h2, hg, hF⟩
  have H := Lib.hid (offer_frm h HB.out H.out hF)
  clear hF hg h
  go_wp2_with fail
  refine (offer_eq (s := false) (tk' := [(1, 0)]) h2 (by omega) rfl rfl).mono ?_
  rintro e w3 ⟨rfl, g2, h3, hg, hF⟩
  have H := Lib.hid (offer_frm h2 HB.out H.out hF)
  clear hF hg h2
  go_wp2_with fail
  refine (offer_eq (s := false) (tk' := [(1, 0)]) h3 (by omega) rfl rfl).mono ?_
  rintro e w4 ⟨rfl, g3, h4, hg, hF⟩
  have H := Lib.hid (offer_frm h3 HB.out H.out hF)
  clear hF hg h3
  go_wp2_with fail
  refine (offer_eq (s := true) (tk' := [(1, 0), (4, 0)]) h4 (by omega) rfl rfl).mono ?_
  rintro e w5 ⟨rfl, g4, h5, hg, hF⟩
  have H := Lib.hid (offer_frm h4 HB.out H.out hF)
  clear hF hg h4
  simp only [Nat.zero_add, Nat.reduceAdd] at h5
  have hwin : ∀ (l : List Bool) (n : Nat) (wc : World), Hid (Frm (fun _ => False) w wc) → SAt wc B b a g4 [true, false, false] [(1, 0), (4, 0)] 4 → n = (bvs l).length → n ≤ 1000 → ∀ f o, winOf l = (f, o) →
      Calls Try.prog 15 #[.slice (some ⟨wc.heap.size, 0, none⟩) n n] (wc.alloc (.cells (bvs l).toArray 4)) fun e w' => e = .returned (.tuple #[.int .i64 f, .bool o]) ∧ Frm (fun _ => False) w w' ∧ SAt w' B b a g4 [true, false, false] [(1, 0), (4, 0)] 4 := fun l n wc hF hS hn hn' f o hw =>
    (within_eq (Sl.blkL wc (bvs l) n _ hn hn') (fun k hk => by subst hk; simp) (by rw [bvs_length] at hn; omega) hw).mono (by
      rintro e w' ⟨rfl, hF'⟩
      have hF2 := ((Frm.refl (fun _ => False) wc).alloc (.cells (bvs l).toArray 4)).trans hF' (fun _ h => h.elim)
      exact ⟨rfl, hF.out.trans hF2 (fun _ h => h.elim), hS.keptF hF2⟩)
  have Hwin := Lib.hid hwin
  clear hwin
  go_wp2_with fail
  refine (Hwin.out [true, false, false] 3 _ H h5 rfl (by omega) 3 true (by decide)).mono ?_
  rintro e w6 ⟨rfl, hF, h6⟩
  have H := Lib.hid hF
  clear hF h5
  go_wp2_with fail
  refine (within_eq (an := []) (Sl.none w6) (fun _ h => h.elim) (by decide) (f := 1) (o := true) rfl).mono ?_
  rintro e w7 ⟨rfl, hF⟩
  have H := Lib.hid (H.out.trans hF (fun _ h => h.elim))
  have h7 := h6.keptF hF
  clear hF h6
  go_wp2_with fail
  refine (Hwin.out [false] 1 _ H h7 rfl (by omega) 0 false (by decide)).mono ?_
  rintro e w8 ⟨rfl, hF, h8⟩
  have H := Lib.hid hF
  clear hF h7
  go_wp2_with fail
  refine (Hwin.out [false, true] 2 _ H h8 rfl (by omega) 2 true (by decide)).mono ?_
  rintro e w9 ⟨rfl, hF, h9⟩
  have H := Lib.hid hF
  clear hF h8 Hwin
  go_wp2_with fail
  refine (new_eq (an := []) (Sl.none w9) (fun _ h => h.elim) (by decide)).mono ?_
  rintro e w10 ⟨b2, a2, B2, rfl, s, hF, hB2, _⟩
  have H' := Lib.hid (H.out.trans hF (fun _ h => h.elim))
  have h10 := h9.keptF hF
  have hsz := H.out.size
  have HB2 := Lib.hid (And.intro hB2 (show w.heap.size ≤ B2 from by omega))
  have HL := Lib.hid h9.lt
  clear hF h9 hB2 H hsz
  go_wp2_with fail
  refine (offer_eq (s := true) (tk' := [(0, 5)]) s (by omega) rfl rfl).mono ?_
  rintro e w11 ⟨rfl, g5, s11, hg, hF⟩
  have H := Lib.hid (offer_frm s HB2.out.2 H'.out hF)
  have h11 := h10.apart s hF (by have := HL.out.1; have := HB2.out.1; have := s.lt.2.2; omega) (fun k _ h => by cases h)
  clear hF hg s h10 H'
  go_wp2_with fail
  refine (took_any _ _ _ _ _ _ _ _ h11).mono ?_
  rintro e w12 ⟨v, rfl, hv, hF⟩
  have H := Lib.hid (H.out.trans hF (fun _ h => h.elim))
  have h12 := h11.keptF hF
  have s12 := s11.keptF hF
  obtain ⟨A1, c1, rfl, _, _⟩ := own_form hv
  have Hv := Lib.hid hv
  clear hF h11 s11 hv
  go_wp2_with fail
  refine (same_any _ _ _ _ [(1, 0), (4, 0)] [(1, 0), (4, 0)] _ (SlZ.of_own (K := fun _ => True) (Hv.out.alloc _) (fun _ _ => trivial)) (SlZ.blkL w12 (flat [(1, 0), (4, 0)]) 2 2 _ rfl (by omega))).mono ?_
  rintro e w' ⟨rfl, q, rfl⟩
  have hF : Frm (fun _ => False) w12 ((w12.alloc (.cells (flat [(1, 0), (4, 0)]).toArray 29)).drewN q) := ((Frm.refl _ _).alloc _).drewN q
  have H := Lib.hid (H.out.trans hF (fun _ h => h.elim))
  have h13 := h12.keptF hF
  have s13 := s12.keptF hF
  clear hF h12 s12 Hv
  generalize (w12.alloc (.cells (flat [(1, 0), (4, 0)]).toArray 29)).drewN q = w13 at *
  rw [show decide (([(1, 0), (4, 0)] : List (Int × Int)) = [(1, 0), (4, 0)]) = true from rfl]
  go_wp2_with fail
  refine (offers_any _ _ _ _ _ _ _ _ h13).mono ?_
  rintro e w' ⟨rfl, rfl⟩
  go_wp2_with fail
  refine (refused_any _ _ _ _ _ _ _ _ h13).mono ?_
  rintro e w' ⟨rfl, q2, rfl⟩
  have H := Lib.hid (H.out.drewN q2)
  have s14 := s13.keptF ((Frm.refl _ _).drewN q2)
  clear h13 s13
  generalize w13.drewN q2 = w14 at *
  go_wp2_with fail
  refine (refused_any _ _ _ _ _ _ _ _ s14).mono ?_
  rintro e w' ⟨rfl, q3, rfl⟩
  have H := Lib.hid (H.out.drewN q3)
  clear s14
  generalize w14.drewN q3 = w15 at *
  go_wp2_with fail
  refine (offer_nil _ _ _).mono ?_
  rintro e w16 ⟨rfl, hF⟩
  have H := Lib.hid (H.out.trans hF (fun _ h => h.elim))
  clear hF
  go_wp2_with fail
  refine (offers_nil _).mono ?_
  rintro e w' ⟨rfl, rfl⟩
  go_wp2_with fail
  refine (refused_nil _).mono ?_
  rintro e w' ⟨rfl, q4, rfl⟩
  have H := Lib.hid (H.out.drewN q4)
  generalize w16.drewN q4 = w17 at *
  go_wp2_with fail
  refine (took_nil _).mono ?_
  rintro e w' ⟨rfl, rfl⟩
  go_wp2_with fail
  go_ret
  exact ⟨rfl, H.out⟩
end Go.Proofs.Ytgjkjcdohfccaaa
