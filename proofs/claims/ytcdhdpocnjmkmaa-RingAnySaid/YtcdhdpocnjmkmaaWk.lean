/- The walk of teasellaw22.wakes. -/
import Derived.Test.YtcdhdpocnjmkmaaRib
import Derived.Test.YtcdhdpocnjmkmaaRsb
import Derived.Test.YtcdhdpocnjmkmaaRef
import Derived.Test.YtcdhdpocnjmkmaaInts
namespace Go.Proofs.Ytcdhdpocnjmkmaa
open Go.RowKit Go.Shelf
set_option maxRecDepth 100000 in
set_option maxHeartbeats 4000000 in
theorem wakes_any (w : World) : Calls Try.prog 6 #[] w fun e w' => e = .returned (.bool true) ∧ Frm (fun _ => False) w w' := by
  go_enter Try.func6, Try.ntmps6
  go_wp2_with fail
  refine (RI.new_ok' 2 2 w rfl (by omega) (by omega)).mono ?_
  rintro e w1 ⟨rfl, h, hF⟩
  have H := Lib.hid hF
  have hb : w.heap.size ≤ w.heap.size + 1 := by omega

  generalize hbb : w.heap.size + 1 = b at h hb
  generalize hgg : w.heap.size = g at h
  have HB := Lib.hid (And.intro hbb (And.intro hgg hb))
  clear hF hbb hgg hb
  go_wp2_with fail
  refine (RI.new_no 17 w1 (by omega)).mono ?_
  rintro e w' ⟨rfl, rfl⟩
  go_wp2_with fail
  refine (RI.put_ok' b g 2 0 _ 1 1 11 _ h rfl (by omega) rfl).mono ?_
  rintro e w2 ⟨rfl, h, hF⟩
  have H := Lib.hid (H.out.trans hF (fun k hk => .inr (by rcases hk with rfl | rfl; exact HB.out.2.2; exact Nat.le_of_eq HB.out.2.1)))
  clear hF
  go_wp2_with fail
  refine (RI.put_no' b g 2 0 _ 2 12 _ h (by omega) (by decide)).mono ?_
  rintro e w' ⟨rfl, k1, rfl⟩
  replace h := h.drewN k1
  have H := Lib.hid (H.out.drewN k1)
  generalize w2.drewN k1 = w3 at *
  go_wp2_with fail
  refine (RI.put_ok' b g 2 0 _ 0 0 10 _ h rfl (by omega) rfl).mono ?_
  rintro e w4 ⟨rfl, h, hF⟩
  have H := Lib.hid (H.out.trans hF (fun k hk => .inr (by rcases hk with rfl | rfl; exact HB.out.2.2; exact Nat.le_of_eq HB.out.2.1)))
  clear hF
  go_wp2_with fail
  refine (RI.put_full' b g 2 0 _ 0 0 9 10 _ h rfl (by omega) rfl).mono ?_
  rintro e w' ⟨rfl, k2, rfl⟩
  replace h := h.drewN k2
  have H := Lib.hid (H.out.drewN k2)
  generalize w4.drewN k2 = w5 at *
  go_wp2_with fail
  refine (RI.take_ok b g 2 0 _ 10 _ h rfl (by omega)).mono ?_
  rintro e w6 ⟨rfl, h, hF⟩
  have H := Lib.hid (H.out.trans hF (fun k hk => .inr (by rcases hk with rfl | rfl; exact HB.out.2.2; exact Nat.le_of_eq HB.out.2.1)))
  clear hF
  unfold RI.ev
  go_wp2_with fail
  refine (RI.put_ok' b g 2 1 _ 1 2 12 _ h rfl (by omega) rfl).mono ?_
  rintro e w7 ⟨rfl, h, hF⟩
  have H := Lib.hid (H.out.trans hF (fun k hk => .inr (by rcases hk with rfl | rfl; exact HB.out.2.2; exact Nat.le_of_eq HB.out.2.1)))
  clear hF
  go_wp2_with fail
  refine (RI.take_ok b g 2 1 _ 11 _ h rfl (by omega)).mono ?_
  rintro e w8 ⟨rfl, h, hF⟩
  have H := Lib.hid (H.out.trans hF (fun k hk => .inr (by rcases hk with rfl | rfl; exact HB.out.2.2; exact Nat.le_of_eq HB.out.2.1)))
  clear hF
  unfold RI.ev
  go_wp2_with fail
  refine (RS.new_ok' 3 3 w8 rfl (by omega) (by omega)).mono ?_
  rintro e w9 ⟨rfl, s, hF⟩
  have HL := Lib.hid h.lt
  replace h := h.kept (hF.block _ HL.out.1 id) (hF.block _ HL.out.2 id)
  have hz := H.out.size
  have H := Lib.hid (H.out.trans hF (fun _ h => h.elim))
  generalize hbb : w8.heap.size + 1 = b2 at s
  generalize hgg : w8.heap.size = g2 at s
  have HC := Lib.hid (And.intro hbb (And.intro hgg hz))
  clear hF hbb hgg hz
  go_wp2_with fail
  refine (RS.put_ok' b2 g2 3 0 _ 2 2 ⟨#[122]⟩ _ s rfl (by omega) rfl).mono ?_
  rintro e w10 ⟨rfl, s, hF⟩
  have hn : ∀ k, k = b ∨ k = g → ¬ (k = b2 ∨ k = g2) := fun k hk => by
    have h1 := HL.out; have h2 := HC.out
    omega
  have Hn := Lib.hid hn
  clear hn
  replace h := h.kept (hF.block _ (by have := h.lt.1; omega) (Hn.out b (.inl rfl))) (hF.block _ (by have := h.lt.2; omega) (Hn.out g (.inr rfl)))
  have H := Lib.hid (H.out.trans hF (fun k hk => .inr (by have h2 := HC.out; omega)))
  clear hF
  go_wp2_with fail
  refine (RS.take_no b2 g2 3 0 _ _ s rfl).mono ?_
  rintro e w' ⟨rfl, k3, rfl⟩
  replace s := s.drewN k3
  replace h := h.drewN k3
  have H := Lib.hid (H.out.drewN k3)
  generalize w10.drewN k3 = w11 at *
  go_wp2_with fail
  refine (RS.clear_eq b2 g2 3 0 _ 1 _ s rfl).mono ?_
  rintro e w12 ⟨rfl, s, hF⟩
  have hl := h.lt
  replace h := h.kept (hF.block _ hl.1 (fun h1 => h1.elim (fun h2 => by omega) (fun h2 => Hn.out b (.inl rfl) (.inr h2)))) (hF.block _ hl.2 (fun h1 => h1.elim (fun h2 => by omega) (fun h2 => Hn.out g (.inr rfl) (.inr h2))))
  have H := Lib.hid (H.out.trans hF (fun k hk => .inr (by have h2 := HC.out; have h3 := H.out.size; omega)))
  clear hF hl
  go_wp2_with fail
  refine (RI.take_nil _).mono ?_
  rintro e w' ⟨rfl, k4, rfl⟩
  replace s := s.drewN k4
  replace h := h.drewN k4
  have H := Lib.hid (H.out.drewN k4)
  generalize w12.drewN k4 = w13 at *
  go_wp2_with fail
  refine (RI.next_any b g 2 2 _ _ h).mono ?_
  rintro e w' ⟨rfl, rfl⟩
  go_wp2_with fail
  refine (RI.nums_eq b g 2 2 _ _ h (xs := [2]) rfl).mono ?_
  rintro e w14 ⟨v, rfl, hv, hF⟩
  have hl := h.lt
  have hl2 := s.lt
  replace h := h.kept (hF.block _ hl.1 id) (hF.block _ hl.2 id)
  replace s := s.kept (hF.block _ hl2.1 id) (hF.block _ hl2.2 id)
  have H := Lib.hid (H.out.trans hF (fun _ h => h.elim))
  obtain ⟨A1, n1, c1, rfl, hn1, hc1, hm1, hx1⟩ := id hv
  have Hv := Lib.hid hv
  clear hF hl hl2 hv hn1 hx1
  go_wp2_with fail
  have hi := ints_any (.slice A1 n1 c1) (.slice (some ⟨w14.heap.size, 0, none⟩) 1 1) _ _ [2] [2] (w14.alloc (.cells #[.int .i64 2] 3))
    ((Hv.out.apart (K2 := fun _ => False) (fun _ _ h => h)).keptTo (K' := fun _ => True) fun k hk => ⟨Below.heap_alloc _ _ _ hk.2, trivial⟩) (Sl.blk1 w14 _ _)
  refine hi.mono ?_
  rintro e w' ⟨rfl, k5, rfl⟩
  replace h := ((h.kept (w' := w14.alloc (.cells #[.int .i64 2] 3)) (Below.heap_alloc _ _ _ h.lt.1) (Below.heap_alloc _ _ _ h.lt.2))).drewN k5
  replace s := ((s.kept (w' := w14.alloc (.cells #[.int .i64 2] 3)) (Below.heap_alloc _ _ _ s.lt.1) (Below.heap_alloc _ _ _ s.lt.2))).drewN k5
  have H := Lib.hid ((H.out.alloc (.cells #[.int .i64 2] 3)).drewN k5)
  clear hi Hv
  generalize (w14.alloc (.cells #[.int .i64 2] 3)).drewN k5 = w15 at *
  rw [show decide (([2] : List Int) = [2]) = true from rfl]
  go_wp2_with fail
  refine (RI.admits_eq b g 2 2 _ 3 _ h (by omega) (t := true) (by decide)).mono ?_
  rintro e w' ⟨rfl, q0, rfl⟩
  replace s := s.drewN q0
  replace h := h.drewN q0
  have H := Lib.hid (H.out.drewN q0)
  generalize w15.drewN q0 = w16 at *
  go_wp2_with fail
  refine (RI.admits_eq b g 2 2 _ 4 _ h (by omega) (t := false) (by decide)).mono ?_
  rintro e w' ⟨rfl, q1, rfl⟩
  replace s := s.drewN q1
  replace h := h.drewN q1
  have H := Lib.hid (H.out.drewN q1)
  generalize w16.drewN q1 = w17 at *
  go_wp2_with fail
  refine (RI.admits_eq b g 2 2 _ 1 _ h (by omega) (t := false) (by decide)).mono ?_
  rintro e w' ⟨rfl, q2, rfl⟩
  replace s := s.drewN q2
  replace h := h.drewN q2
  have H := Lib.hid (H.out.drewN q2)
  generalize w17.drewN q2 = w18 at *
  go_wp2_with fail
  refine (RS.next_any b2 g2 3 0 _ _ s).mono ?_
  rintro e w' ⟨rfl, rfl⟩
  go_wp2_with fail
  refine (RS.nums_eq b2 g2 3 0 _ _ s (xs := []) rfl).mono ?_
  rintro e w19 ⟨v, rfl, hv, hF⟩
  obtain ⟨A1, n1, c1, rfl, hn1, hc1, hm1, hx1⟩ := id hv
  have : n1 = 0 := hn1
  subst this
  have H := Lib.hid (H.out.trans hF (fun _ h => h.elim))
  clear hF hv hx1 h s hn1
  go_wp2_with fail
  refine (RI.put_nil' 0 1 _).mono ?_
  rintro e w' ⟨rfl, k6, rfl⟩
  have H := Lib.hid (H.out.drewN k6)
  generalize w19.drewN k6 = w20 at *
  go_wp2_with fail
  refine (RI.admits_nil 0 _).mono ?_
  rintro e w' ⟨rfl, k7, rfl⟩
  have H := Lib.hid (H.out.drewN k7)
  generalize w20.drewN k7 = w21 at *
  go_wp2_with fail
  refine (RI.clear_nil _).mono ?_
  rintro e w' ⟨rfl, rfl⟩
  go_wp2_with fail
  go_ret
  exact ⟨rfl, H.out⟩
end Go.Proofs.Ytcdhdpocnjmkmaa
