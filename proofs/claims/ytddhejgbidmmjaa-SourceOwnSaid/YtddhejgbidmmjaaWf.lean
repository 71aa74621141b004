/- The walk of teasellaw17.wakes. -/
import Derived.Test.YtddhejgbidmmjaaWe
import Derived.Lib.SmallJoins
namespace Go.Proofs.Ytddhejgbidmmjaa
open Go.RowKit Go.Shelf
/-- A block's cells from its head on, as a slice that reads them. -/
theorem Sl.of_cells {w : World} {K : Nat → Prop} {g : Nat} {cs : List Value} {t : TypeId} {fr : Nat × Nat} (h : w.heap[g]? = some (.cells cs.toArray t fr)) (hK : K g) (hs : cs.length ≤ 9223372036854775807) : Sl w K (.slice (some ⟨g, 0, none⟩) cs.length cs.length) cs :=
  ⟨_, _, _, rfl, rfl, Nat.le_refl _, hs, .inr ⟨g, 0, rfl, hK, fun i hi => by rw [cell_of_row w g _ _ t fr h]; simp [hi]⟩⟩
theorem Sl.nil (w : World) (K : Nat → Prop) : Sl w K (.slice none 0 0) [] := ⟨none, 0, 0, rfl, rfl, Nat.le_refl _, by omega, .inl rfl⟩

theorem next_eq (K : Nat → Prop) (b : Nat) (brk : Bool) (told : Nat) (L : List (List UInt8)) (most : Int) (w : World) (h : SrcAt w K b L brk told) {r : List UInt8 × Bool × List (List UInt8)} (hr : nextL L most = r) :
    Calls Try.prog 10 #[.pointer (some ⟨b, 0, none⟩), .int .i64 most] w (NextPost K b brk told r w) := hr ▸ next_any K b brk told L most w h
theorem Each.nil (w : World) (K : Nat → Prop) : Each w K [] [] := ⟨rfl, fun i v l hv => by simp at hv⟩
set_option maxRecDepth 100000 in
set_option maxHeartbeats 2000000 in
theorem wakes_any (w : World) : Calls Try.prog 7 #[] w fun e w' => e = .returned (.bool true) ∧ Frm (fun _ => False) w w' := by
  have kc := fun (w : World) (C : Array Value) (n c g : Nat) (hg : g = w.heap.size) => Joins.run_convert_bytes_const_at (P := Try.prog) w 30 5 C n c g hg Try.underlying30 Try.underlying5
  go_enter Try.func7, Try.ntmps7
  go_wp2_with fail
  have b0 : (((w.alloc (.cells #[.int .u8 97, .int .u8 98, .int .u8 99] 5 (3, 4))).alloc (.cells #[.int .u8 100] 5 (1, 2))).alloc (.cells #[.slice (some ⟨w.heap.size, 0, none⟩) 3 3, .slice none 0 0, .slice (some ⟨w.heap.size + 1, 0, none⟩) 1 1] 30)).heap[w.heap.size]? = some (.cells #[.int .u8 97, .int .u8 98, .int .u8 99] 5 (3, 4)) := by
    rw [Below.heap_alloc _ _ _ (by simp; omega), Below.heap_alloc _ _ _ (by simp)]; exact heap_alloc_new _ _
  have b1 : (((w.alloc (.cells #[.int .u8 97, .int .u8 98, .int .u8 99] 5 (3, 4))).alloc (.cells #[.int .u8 100] 5 (1, 2))).alloc (.cells #[.slice (some ⟨w.heap.size, 0, none⟩) 3 3, .slice none 0 0, .slice (some ⟨w.heap.size + 1, 0, none⟩) 1 1] 30)).heap[w.heap.size + 1]? = some (.cells #[.int .u8 100] 5 (1, 2)) := by
    rw [Below.heap_alloc _ _ _ (by simp)]; have := heap_alloc_new (w.alloc (.cells #[.int .u8 97, .int .u8 98, .int .u8 99] 5 (3, 4))) (.cells #[.int .u8 100] 5 (1, 2)); simpa using this
  have b2 : (((w.alloc (.cells #[.int .u8 97, .int .u8 98, .int .u8 99] 5 (3, 4))).alloc (.cells #[.int .u8 100] 5 (1, 2))).alloc (.cells #[.slice (some ⟨w.heap.size, 0, none⟩) 3 3, .slice none 0 0, .slice (some ⟨w.heap.size + 1, 0, none⟩) 1 1] 30)).heap[w.heap.size + 1 + 1]? = some (.cells #[.slice (some ⟨w.heap.size, 0, none⟩) 3 3, .slice none 0 0, .slice (some ⟨w.heap.size + 1, 0, none⟩) 1 1] 30) := by
    have := heap_alloc_new ((w.alloc (.cells #[.int .u8 97, .int .u8 98, .int .u8 99] 5 (3, 4))).alloc (.cells #[.int .u8 100] 5 (1, 2))) (.cells #[.slice (some ⟨w.heap.size, 0, none⟩) 3 3, .slice none 0 0, .slice (some ⟨w.heap.size + 1, 0, none⟩) 1 1] 30); simpa using this
  have bF : Frm (fun _ => False) w (((w.alloc (.cells #[.int .u8 97, .int .u8 98, .int .u8 99] 5 (3, 4))).alloc (.cells #[.int .u8 100] 5 (1, 2))).alloc (.cells #[.slice (some ⟨w.heap.size, 0, none⟩) 3 3, .slice none 0 0, .slice (some ⟨w.heap.size + 1, 0, none⟩) 1 1] 30)) := (((Frm.refl _ _).alloc _).alloc _).alloc _
  have bS : (((w.alloc (.cells #[.int .u8 97, .int .u8 98, .int .u8 99] 5 (3, 4))).alloc (.cells #[.int .u8 100] 5 (1, 2))).alloc (.cells #[.slice (some ⟨w.heap.size, 0, none⟩) 3 3, .slice none 0 0, .slice (some ⟨w.heap.size + 1, 0, none⟩) 1 1] 30)).heap.size = w.heap.size + 3 := by simp
  generalize (((w.alloc (.cells #[.int .u8 97, .int .u8 98, .int .u8 99] 5 (3, 4))).alloc (.cells #[.int .u8 100] 5 (1, 2))).alloc (.cells #[.slice (some ⟨w.heap.size, 0, none⟩) 3 3, .slice none 0 0, .slice (some ⟨w.heap.size + 1, 0, none⟩) 1 1] 30)) = w0 at *
  have hsl : Sl w0 (fun k => k < w0.heap.size) (.slice (some ⟨w.heap.size + 1 + 1, 0, none⟩) 3 3) _ := Sl.of_cells b2 (by omega) (by simp)
  have hea : Each w0 (fun k => k < w0.heap.size) [.slice (some ⟨w.heap.size, 0, none⟩) 3 3, .slice none 0 0, .slice (some ⟨w.heap.size + 1, 0, none⟩) 1 1] [[97, 98, 99], [], [100]] :=
    ⟨rfl, fun i v l hv hl => by
      match i, hv, hl with
      | 0, hv, hl => cases hv; cases hl; exact Sl.of_cells (cs := bv [97, 98, 99]) b0 (by omega) (by simp)
      | 1, hv, hl => cases hv; cases hl; exact Sl.nil _ _
      | 2, hv, hl => cases hv; cases hl; exact Sl.of_cells (cs := bv [100]) b1 (by omega) (by simp)⟩
  have hnew := new_any true _ _ _ _ [[97, 98, 99], [], [100]] w0 hsl hea (fun _ h => h) (fun _ h => h) (by decide) (by decide)
  have Hn := Lib.hid (And.intro hnew bF)
  clear hnew hsl hea b0 b1 b2 bF bS
  refine Hn.out.1.mono ?_
  rintro e w1 ⟨b, K, rfl, hs, hK, hF⟩
  have Hn0 := Lib.hid Hn.out.2.size
  have H1 := Lib.hid (Hn.out.2.trans hF (fun _ h => h.elim)); have HK := Lib.hid hK; clear hF Hn hK
  go_wp2_with fail
  refine (left_any _ _ _ _ _ _ hs).mono ?_
  rintro e w2 ⟨rfl, hF⟩
  have hs2 := hs.kept hF.size (fun k hk => hF.block k (hs.lt k hk) id)
  have H2 := Lib.hid (H1.out.trans hF (fun _ h => h.elim)); clear hF H1 hs
  go_wp2_with fail
  refine (next_eq K b true 0 [[97, 98, 99], [], [100]] 2 _ hs2 (show nextL [[97, 98, 99], [], [100]] 2 = ([97, 98], false, [[99], [], [100]]) from by decide)).mono ?_
  rintro e w3 ⟨v1, rfl, hv, hs3, hF⟩
  have H3 := Lib.hid (H2.out.trans hF (fun k hk => .inr (Nat.le_trans Hn0.out (HK.out k hk)))); clear H2
  have V1 := Lib.hid (hv.apart (K2 := K) (fun x hx hk => Nat.not_lt.2 hx (hs2.lt x hk)))
  clear hF hv hs2
  go_wp2_with fail
  refine (next_eq K b true 2 [[99], [], [100]] 0 _ hs3 (show nextL [[99], [], [100]] 0 = ([], false, [[99], [], [100]]) from by decide)).mono ?_
  rintro e w4 ⟨v2, rfl, hv, hs4, hF⟩
  have H4 := Lib.hid (H3.out.trans hF (fun k hk => .inr (Nat.le_trans Hn0.out (HK.out k hk)))); clear H3
  have V1 := Lib.hid (V1.out.next hF)
  clear hF hv hs3
  go_wp2_with fail
  refine (next_eq K b true 2 [[99], [], [100]] 2 _ hs4 (show nextL [[99], [], [100]] 2 = ([99], false, [[], [100]]) from by decide)).mono ?_
  rintro e w5 ⟨v3, rfl, hv, hs5, hF⟩
  have H5 := Lib.hid (H4.out.trans hF (fun k hk => .inr (Nat.le_trans Hn0.out (HK.out k hk)))); clear H4
  have V1 := Lib.hid (V1.out.next hF)
  have V3 := Lib.hid (hv.apart (K2 := K) (fun x hx hk => Nat.not_lt.2 hx (hs4.lt x hk)))
  clear hF hv hs4
  go_wp2_with fail
  refine (next_eq K b true 3 [[], [100]] 2 _ hs5 (show nextL [[], [100]] 2 = ([], false, [[100]]) from by decide)).mono ?_
  rintro e w6 ⟨v4, rfl, hv, hs6, hF⟩
  have H6 := Lib.hid (H5.out.trans hF (fun k hk => .inr (Nat.le_trans Hn0.out (HK.out k hk)))); clear H5
  have V1 := Lib.hid (V1.out.next hF)
  have V3 := Lib.hid (V3.out.next hF)
  have V4 := Lib.hid (hv.apart (K2 := K) (fun x hx hk => Nat.not_lt.2 hx (hs5.lt x hk)))
  clear hF hv hs5
  go_wp2_with fail
  refine (next_eq K b true 3 [[100]] 2 _ hs6 (show nextL [[100]] 2 = ([100], false, []) from by decide)).mono ?_
  rintro e w7 ⟨v5, rfl, hv, hs7, hF⟩
  have H7 := Lib.hid (H6.out.trans hF (fun k hk => .inr (Nat.le_trans Hn0.out (HK.out k hk)))); clear H6
  have V1 := Lib.hid (V1.out.next hF)
  have V3 := Lib.hid (V3.out.next hF)
  have V4 := Lib.hid (V4.out.next hF)
  have V5 := Lib.hid (hv.apart (K2 := K) (fun x hx hk => Nat.not_lt.2 hx (hs6.lt x hk)))
  clear hF hv hs6
  go_wp2_with fail
  refine (next_eq K b true 4 [] 2 _ hs7 (show nextL [] 2 = ([], true, []) from by decide)).mono ?_
  rintro e w8 ⟨v6, rfl, hv, hs8, hF⟩
  have H8 := Lib.hid (H7.out.trans hF (fun k hk => .inr (Nat.le_trans Hn0.out (HK.out k hk)))); clear H7
  have V1 := Lib.hid (V1.out.next hF)
  have V3 := Lib.hid (V3.out.next hF)
  have V4 := Lib.hid (V4.out.next hF)
  have V5 := Lib.hid (V5.out.next hF)
  have V6 := Lib.hid (hv.apart (K2 := K) (fun x hx hk => Nat.not_lt.2 hx (hs7.lt x hk)))
  clear hF hv hs7
  go_wp2_with fail
  refine (next_eq K b true 4 [] 0 _ hs8 (show nextL [] 0 = ([], true, []) from by decide)).mono ?_
  rintro e w9 ⟨v7, rfl, hv, hs9, hF⟩
  have H9 := Lib.hid (H8.out.trans hF (fun k hk => .inr (Nat.le_trans Hn0.out (HK.out k hk)))); clear H8
  have V1 := Lib.hid (V1.out.next hF)
  have V3 := Lib.hid (V3.out.next hF)
  have V4 := Lib.hid (V4.out.next hF)
  have V5 := Lib.hid (V5.out.next hF)
  have V6 := Lib.hid (V6.out.next hF)
  clear hF hv hs8
  go_wp2_with fail
  refine (new_any false _ [] _ _ [] _ (Sl.nil _ (fun _ => False)) (Each.nil _ (fun _ => False)) (fun _ h => h.elim) (fun _ h => h.elim) (by decide) (by decide)).mono ?_
  rintro e w10 ⟨b2, K2, rfl, ho, hK2, hF⟩
  have hs10 := hs9.kept hF.size (fun k hk => hF.block k (hs9.lt k hk) id)
  have H10 := Lib.hid (H9.out.trans hF (fun _ h => h.elim)); clear H9
  have V1 := Lib.hid (V1.out.next (hF.mono fun _ h => h.elim))
  have V3 := Lib.hid (V3.out.next (hF.mono fun _ h => h.elim))
  have V4 := Lib.hid (V4.out.next (hF.mono fun _ h => h.elim))
  have V5 := Lib.hid (V5.out.next (hF.mono fun _ h => h.elim))
  have V6 := Lib.hid (V6.out.next (hF.mono fun _ h => h.elim))
  clear hF hs9 hK2
  go_wp2_with fail
  refine (next_nil 1 _).mono ?_
  rintro e w11 ⟨rfl, rfl⟩
  have e1 := run_conv (P := Try.prog) Try.underlying30 Try.underlying5 Try.underlying9 V1.out
  have e3 := run_conv (P := Try.prog) Try.underlying30 Try.underlying5 Try.underlying9 V3.out
  have e5 := run_conv (P := Try.prog) Try.underlying30 Try.underlying5 Try.underlying9 V5.out
  obtain ⟨A4, n4, c4, rfl, h4, _⟩ := V4.out
  obtain ⟨A6, n6, c6, rfl, h6, _⟩ := V6.out
  have h4' : n4 = 0 := h4
  have h6' : n6 = 0 := h6
  subst h4' h6'
  clear h4 h6 V1 V3 V5
  go_wp2_with fail
  refine (told_any _ _ _ _ _ _ hs10).mono ?_; rintro e w' ⟨rfl, rfl⟩
  go_wp2_with fail
  refine (broken_any _ _ _ _ _ _ hs10).mono ?_; rintro e w' ⟨rfl, rfl⟩
  go_wp2_with fail
  refine (broken_any _ _ _ _ _ _ ho).mono ?_; rintro e w' ⟨rfl, rfl⟩
  go_wp2_with fail
  refine (broken_nil _).mono ?_; rintro e w' ⟨rfl, rfl⟩
  go_wp2_with fail
  refine (told_nil _).mono ?_; rintro e w' ⟨rfl, rfl⟩
  go_wp2_with fail
  go_ret
  exact ⟨rfl, H10.out⟩
end Go.Proofs.Ytddhejgbidmmjaa
