/- The walk of teasellaw21.wakes. -/
import Derived.Test.YtchhfhldpkaadaaQid
import Derived.Test.YtchhfhldpkaadaaQsd
import Derived.Test.YtchhfhldpkaadaaInts
namespace Go.Proofs.Ytchhfhldpkaadaa
open Go.RowKit Go.Shelf
theorem ba1 (b : UInt8) : ByteArray.mk #[b] = ⟨#[b]⟩ := rfl
set_option maxRecDepth 100000 in
set_option maxHeartbeats 4000000 in
theorem wakes_any (w : World) : Calls Try.prog 8 #[] w fun e w' => e = .returned (.bool true) ∧ Frm (fun _ => False) w w' := by
  go_enter Try.func8, Try.ntmps8
  go_wp2_with fail
  refine (QI.W.new 2 w (by omega) (by omega)).mono ?_
  rintro e w1 ⟨b, g, rfl, h, -⟩
  have H := Lib.hid h
  clear h
  go_wp2_with fail
  refine (QI.new_no 0 w1 (by omega)).mono ?_
  rintro e w' ⟨rfl, rfl⟩
  go_wp2_with fail
  refine (H.out.putNew (l := [1, 2]) rfl rfl (by decide)).mono ?_
  rintro e w2 ⟨rfl, h, -⟩
  have H := Lib.hid h
  clear h
  go_wp2_with fail
  refine (H.out.putNewNo (.inr (by decide))).mono ?_
  rintro e w3 ⟨rfl, h, -⟩
  have H := Lib.hid h
  clear h
  go_wp2_with fail
  refine (H.out.get (x := 1) (xs := [2])).mono ?_
  rintro e w4 ⟨rfl, h, -⟩
  have H := Lib.hid h
  clear h
  go_wp2_with fail
  refine (H.out.putNew (l := [3]) rfl rfl (by decide)).mono ?_
  rintro e w5 ⟨rfl, h, -⟩
  have H := Lib.hid h
  clear h
  go_wp2_with fail
  refine (H.out.close (v := true) rfl).mono ?_
  rintro e w6 ⟨rfl, h, -⟩
  have H := Lib.hid h
  clear h
  go_wp2_with fail
  refine (H.out.putNewNo (.inl rfl)).mono ?_
  rintro e w7 ⟨rfl, h, -⟩
  have H := Lib.hid h
  clear h
  go_wp2_with fail
  refine H.out.all.mono ?_
  rintro e w8 ⟨v, rfl, hv, h, hF8⟩
  have HB : Hid (b < w7.heap.size ∧ g < w7.heap.size) := Lib.hid H.out.1.lt
  have Hv : Hid (Sl w8 (fun k => w7.heap.size ≤ k ∧ k < w8.heap.size) v ([2, 3].map iv)) := Lib.hid (hv.sl.mono fun k hk => ⟨hk.1, hk.lt⟩)
  have H := Lib.hid h
  obtain ⟨A1, n1, c1, rfl, -, -, -, -⟩ := id hv
  have HF : Hid (Frm (fun k => k = b ∨ k = g) w8 w8) := Lib.hid (Frm.refl _ _)
  clear h hv hF8
  go_wp2_with fail
  refine (H.out.get (x := 2) (xs := [3])).mono ?_
  rintro e w9 ⟨rfl, h, hF⟩
  have HF := Lib.hid (HF.out.trans' hF)
  have H := Lib.hid h
  clear h hF
  go_wp2_with fail
  refine (H.out.get (x := 3) (xs := [])).mono ?_
  rintro e w10 ⟨rfl, h, hF⟩
  have HF := Lib.hid (HF.out.trans' hF)
  have H := Lib.hid h
  clear h hF
  go_wp2_with fail
  refine H.out.getNo.mono ?_
  rintro e w11 ⟨rfl, h, hF⟩
  have HF := Lib.hid (HF.out.trans' hF)
  have H := Lib.hid h
  clear h hF
  go_wp2_with fail
  refine (H.out.putNo (.inl rfl)).mono ?_
  rintro e w12 ⟨rfl, h, hF⟩
  have HF := Lib.hid (HF.out.trans' hF)
  have H := Lib.hid h
  have Hv := Lib.hid (Hv.out.keptTo (K' := fun k => w7.heap.size ≤ k ∧ k < w12.heap.size) fun k hk => ⟨HF.out.block k hk.2 (by have := HB.out; omega), hk.1, Nat.lt_of_lt_of_le hk.2 HF.out.size⟩)
  clear h hF
  go_wp2_with fail
  refine (QS.W.new 16 w12 (by omega) (by omega)).mono ?_
  rintro e w13 ⟨b2, g2, rfl, hS, -⟩
  have HS := Lib.hid hS
  clear hS HF
  go_wp2_with fail
  refine (HS.out.putNew (l := [⟨#[97]⟩, ⟨#[98]⟩]) rfl rfl (by decide)).mono ?_
  rintro e w14 ⟨rfl, hS, -⟩
  have HS := Lib.hid hS
  clear hS
  go_wp2_with fail
  refine (HS.out.clear (n := 2) rfl).mono ?_
  rintro e w15 ⟨rfl, hS, -⟩
  have HS := Lib.hid hS
  clear hS
  go_wp2_with fail
  refine (QS.get_nil w15).mono ?_
  rintro e w' ⟨rfl, k1, rfl⟩
  have HS := Lib.hid (HS.out.drewN k1)
  generalize w15.drewN k1 = w16 at *
  go_wp2_with fail
  have H := Lib.hid (H.out.same HS.out.2.1)
  have Hv := Lib.hid (Hv.out.keptTo (K' := fun k => w7.heap.size ≤ k ∧ k < w16.heap.size) fun k hk => ⟨HS.out.2.1.block k hk.2 id, hk.1, Nat.lt_of_lt_of_le hk.2 HS.out.2.1.size⟩)
  refine (ints_any (.slice A1 n1 c1) (.slice (some ⟨w16.heap.size, 0, none⟩) 2 2) _ _ [2, 3] [2, 3] (w16.alloc (.cells #[.int .i64 2, .int .i64 3] 3))
    (Hv.out.keptTo (K' := fun _ => True) fun k hk => ⟨Below.heap_alloc _ _ _ hk.2, trivial⟩) (Sl.blk w16 #[.int .i64 2, .int .i64 3] 3 rfl (by decide))).mono ?_
  rintro e w' ⟨rfl, k2, rfl⟩
  have H := Lib.hid ((H.out.alloc (.cells #[.int .i64 2, .int .i64 3] 3)).drewN k2)
  have HS := Lib.hid ((HS.out.alloc (.cells #[.int .i64 2, .int .i64 3] 3)).drewN k2)
  clear Hv
  generalize (w16.alloc (.cells #[.int .i64 2, .int .i64 3] 3)).drewN k2 = w17 at *
  rw [show decide (([2, 3] : List Int) = [2, 3]) = true from rfl]
  go_wp2_with fail
  refine H.out.closed.mono ?_
  rintro e w18 ⟨rfl, h, hF⟩
  have HS := Lib.hid (HS.out.same hF)
  have H := Lib.hid h
  clear h hF
  go_wp2_with fail
  refine (H.out.len (n := 0) rfl).mono ?_
  rintro e w' ⟨rfl, rfl⟩
  go_wp2_with fail
  refine (H.out.free (n := 2) rfl).mono ?_
  rintro e w19 ⟨rfl, h, hF⟩
  have HS := Lib.hid (HS.out.same hF)
  have H := Lib.hid h
  clear h hF
  go_wp2_with fail
  refine (HS.out.free (n := 16) rfl).mono ?_
  rintro e w20 ⟨rfl, h, hF⟩
  have H := Lib.hid (H.out.same hF)
  have HS := Lib.hid h
  clear h hF
  go_wp2_with fail
  refine HS.out.closed.mono ?_
  rintro e w21 ⟨rfl, h, hF⟩
  have H := Lib.hid (H.out.same hF)
  clear h hF HS
  go_wp2_with fail
  refine (QS.put_nil _ _ _ _).mono ?_
  rintro e w' ⟨rfl, rfl⟩
  have H := Lib.hid (H.out.alloc (.cells #[.string ⟨#[97]⟩] 9))
  generalize w21.alloc (.cells #[.string ⟨#[97]⟩] 9) = w22 at *
  go_wp2_with fail
  refine (QS.close_nil _).mono ?_
  rintro e w' ⟨rfl, rfl⟩
  go_wp2_with fail
  refine (QS.free_nil _).mono ?_
  rintro e w' ⟨rfl, k3, rfl⟩
  have H := Lib.hid (H.out.drewN k3)
  generalize w22.drewN k3 = w23 at *
  go_wp2_with fail
  refine (QS.all_nil _).mono ?_
  rintro e w' ⟨rfl, rfl⟩
  go_wp2_with fail
  go_ret
  exact ⟨rfl, H.out.2.1⟩
end Go.Proofs.Ytchhfhldpkaadaa
