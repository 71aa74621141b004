/- The walks of package fifo at int: All. -/
import Derived.Test.YtchhfhldpkaadaaQib
import Derived.Test.YtchhfhldpkaadaaStill
namespace Go.Proofs.Ytchhfhldpkaadaa
open Go.RowKit Go.Shelf
namespace QI
set_option maxRecDepth 100000 in
set_option maxHeartbeats 2000000 in
theorem all1_in (n : Nat) (hn : 1 ≤ n) (l Bc n₀ b g m f : Nat) (xs : List Int) (cl : Bool) (J Jx : List Int → World → Prop) (hJ : ∀ s A k, J s A → J s (A.drewN k))
    (hY : ∀ pre x W, J pre W → pre.length < xs.length → YieldAt Fence.wide (n - 1) Try.prog l #[iv x] W fun e W' =>
      (e = .returned (.bool true) ∧ J (pre ++ [x]) W' ∧ Below n₀ W W') ∨ (e = .returned (.bool false) ∧ Jx (pre ++ [x]) W'))
    (W : World) (hBc : W.cell? ⟨Bc, 0, none⟩ = some (.pointer (some ⟨b, 0, none⟩))) (hR : QAt W b g m f xs cl) (hlt : Bc < n₀ ∧ b < n₀ ∧ g < n₀) (h0 : J [] W) :
    CallsIn Fence.wide n Try.prog 44 #[.func (.yield l) #[] #[], .pointer (some ⟨Bc, 0, none⟩)] W fun e W' => (∃ v, e = .returned v) ∧
      ((∃ ys, ys = xs ∧ J ys W') ∨ (∃ pre, pre <+: xs ∧ Jx pre W')) := by
  obtain ⟨hl1, hl2, hl3⟩ := hlt
  obtain ⟨hm1, hm2, hf, hxm⟩ := hR.room
  obtain ⟨c0, c1, c2, c3⟩ := hR.cells
  refine callsIn_of_wp Try.func44 rfl trivial ?_ rfl
  simp only [Try.ntmps44, List.size_toArray, List.length_cons, List.length_nil, Nat.reduceAdd, Nat.reduceSub, Array.replicate_succ, Array.replicate_zero, List.push_toArray, List.append_toArray, List.nil_append, List.cons_append]
  have HR := Lib.hid hR
  clear hR
  generalize hL : xs.length = L at *
  have HL := Lib.hid hL
  clear hL
  gi_wp2
  gi_loopw [8] (fun i wr => ∃ k : Nat, k ≤ L ∧ i = .int .i64 k ∧ J (xs.take k) wr ∧ Below n₀ W wr) (fun i _ => L - (intOf i).toNat)
  case atStart => exact ⟨0, Nat.zero_le _, rfl, by simpa using h0, Below.refl _ _⟩
  case round =>
    obtain ⟨k, hk, rfl, hJs, hnx⟩ := hrel
    by_cases hlt : k < L
    · have hRr : QAt wr b g m f xs cl := HR.out.kept (hnx.block _ hl2) (hnx.block _ hl3)
      have hkl : k < xs.length := by have := HL.out; omega
      have hth := hRr.drewN 1 |>.thing k hkl
      obtain ⟨d0, d1, d2, d3⟩ := (hRr.drewN 1).cells
      have hBcr : (wr.drewN 1).cell? ⟨Bc, 0, none⟩ = some (.pointer (some ⟨b, 0, none⟩)) := (hnx.cell (p := ⟨Bc, 0, none⟩) hl1).trans hBc
      have hts : xs.take (k + 1) = xs.take k ++ [xs[k]] := List.take_succ_eq_append_getElem hkl
      have hpre : xs.take k ++ [xs[k]] <+: xs := by rw [← hts]; exact List.take_prefix _ _
      have hJk := hJ _ _ 1 hJs
      have hnk : Below n₀ W (wr.drewN 1) := ⟨hnx.os, hnx.tape, hnx.output, hnx.size, hnx.block⟩
      have hY1 := hY _ xs[k] (wr.drewN 1) hJk (by simp; omega)
      have Hy := Lib.hid (And.intro hts hpre)
      have hlp : (f + k) % m < m := Nat.mod_lt _ (by omega)
      have hidx : ((f : Int) + (k : Int)) % (m : Int) = (((f + k) % m : Nat) : Int) := by simp
      have htm : ((f : Int) + (k : Int)).tmod (m : Int) = (((f + k) % m : Nat) : Int) := by rw [Int.tmod_eq_emod_of_nonneg (by omega)]; exact hidx
      have hw1 : IntKind.i64.wrap ((f : Int) + (k : Int)) = (f : Int) + (k : Int) := IntWalk.i64_in _ (by omega)
      have hmz : ((m : Int) == 0) = false := by simp; omega
      have hm0 : ¬ m = 0 := by omega
      unfold ev at hth
      clear c0 c1 c2 c3 hRr hJs hnx hts hpre hBc d2 d3 hJk
      generalize xs[k] = x at *
      clear hkl
      generalize hp : (f + k) % m = p at *
      have Hp := Lib.hid hp
      clear hp
      simp only [iv] at hY1
      obtain ⟨fn, tmps, assign, body, hy, hRd⟩ := hY1
      gi_wp2
      refine wpIn_region_tail 19 (by kernel_rfl) (by kernel_rfl) ?_
      generalize wr.drewN 1 = wq at *
      simp only [List.take_succ_cons, List.take_zero, List.drop_succ_cons, List.drop_zero]
      repeat still_step
      refine wpStill_nil ?_
      gi_wp2
      refine hRd.mono ?_
      rintro e W3 (⟨rfl, hJ3, hk3⟩ | ⟨rfl, hJx3⟩)
      · gi_wp2
        go_roundw
        case rel => exact ⟨k + 1, by omega, by go_num, by rw [Hy.out.1]; exact hJ3, hnk.trans hk3⟩
        case measure => simp [intOf]; omega
      · gi_wp2
        refine bodyPost_ret (results_none rfl _ _ _) rfl ?_
        exact ⟨⟨_, rfl⟩, .inr ⟨_, Hy.out.2, hJx3⟩⟩
    · obtain rfl : k = L := by omega
      have HJ := Lib.hid hJs
      clear hJs
      gi_wp2
      go_end0
      exact ⟨⟨_, rfl⟩, .inl ⟨_, rfl, by have := HJ.out; rwa [List.take_of_length_le (by have := HL.out; omega)] at this⟩⟩
theorem all_stops (n : Nat) (hn : 1 ≤ n) (Bc n₀ b g m f : Nat) (xs : List Int) (cl : Bool) (w : World)
    (hBc : w.cell? ⟨Bc, 0, none⟩ = some (.pointer (some ⟨b, 0, none⟩))) (hR : QAt w b g m f xs cl) (hlt : Bc < n₀ ∧ b < n₀ ∧ g < n₀) (hn0 : n₀ ≤ w.heap.size) :
    SeqStopsK Fence.wide n Try.prog 44 #[.pointer (some ⟨Bc, 0, none⟩)] (fun x : Int => #[iv x]) (Below n₀) (fun ys => ys = xs) (fun pre => pre <+: xs) xs.length w := fun l J Jx W hW hJ _ hY h0 =>
  all1_in n hn l Bc n₀ b g m f xs cl J Jx (fun s A k hs => hJ s A _ none hs ⟨rfl, rfl, rfl, Nat.le_refl _, fun _ _ _ => rfl⟩ (fun r hr => by cases hr)) hY W
    ((hW.cell (p := ⟨Bc, 0, none⟩) (by simp; omega)).trans hBc) (hR.kept (hW.block _ (by omega)) (hW.block _ (by omega))) hlt h0
theorem allf_any (p : Option Addr) (w : World) :
    Calls Try.prog 37 #[.pointer p] w fun e w' => e = .returned (.func (.func 44) #[] #[.pointer (some ⟨w.heap.size, 0, none⟩)]) ∧
      w' = w.alloc (.cells #[.pointer p] 73) := by
  go_enter Try.func37, Try.ntmps37
  go_wp2
  go_ret
  exact ⟨rfl, rfl⟩
def AllPost (xs : List Int) (w : World) (e : Ending) (w' : World) : Prop :=
  ∃ v, e = .returned v ∧ OSl w' (fun k => w.heap.size ≤ k) 3 v (xs.map ev) ∧ Frm (fun _ => False) w w'
theorem coll_any (b g m f : Nat) (xs : List Int) (cl : Bool) (w : World) (h : QAt w b g m f xs cl) :
    Calls Try.prog 36 #[.func (.func 44) #[] #[.pointer (some ⟨w.heap.size, 0, none⟩)]]
      (w.alloc (.cells #[.pointer (some ⟨b, 0, none⟩)] 73)) (AllPost xs w) := by
  obtain ⟨hl1, hl2⟩ := h.lt
  have e1 := Blk.new w 73 #[.pointer (some ⟨b, 0, none⟩)]
  have hF : Frm (fun _ => False) w (w.alloc (.cells #[.pointer (some ⟨b, 0, none⟩)] 73)) := (Frm.refl _ _).alloc _
  have hsz : (w.alloc (.cells #[.pointer (some ⟨b, 0, none⟩)] 73)).heap.size = w.heap.size + 1 := by simp
  generalize w.alloc (.cells #[.pointer (some ⟨b, 0, none⟩)] 73) = w1 at *
  have hm := h.room
  refine (CI.collect_calls _ _ (enters_of Try.func44 (by kernel_rfl) rfl) xs (by omega) w1
    (all_stops 6 (by omega) w.heap.size w1.heap.size b g m f xs cl w1 (e1.cell 0) (h.keptF hF) ⟨by omega, by omega, by omega⟩ (Nat.le_refl _))).mono ?_
  rintro e w' ⟨v, rfl, hr, _, hB⟩
  exact ⟨v, rfl, OSl.of_own (xs := xs.map ev) hr fun k hk => by have := (hr.lt k hk).1; omega, hF.trans (Frm.of_below hB) (fun _ h => h.elim)⟩
theorem all_nil (w : World) : Calls Try.prog 20 #[.pointer none] w fun e w' => e = .returned (.slice none 0 0) ∧ w = w' := by
  go_enter Try.func20, Try.ntmps20
  go_wp2
  go_ret
  exact ⟨rfl, rfl⟩
theorem all_any (b g m f : Nat) (xs : List Int) (cl : Bool) (w : World) (h : QAt w b g m f xs cl) :
    Calls Try.prog 20 #[.pointer (some ⟨b, 0, none⟩)] w (AllPost xs w) := by
  have H := Lib.hid h
  clear h
  go_enter Try.func20, Try.ntmps20
  go_wp2_with fail
  refine (allf_any (some ⟨b, 0, none⟩) w).mono ?_
  rintro e w' ⟨rfl, rfl⟩
  go_wp2_with fail
  refine (coll_any b g m f xs cl w H.out).mono ?_
  rintro e w1 ⟨v, rfl, hv, hF⟩
  go_wp2_with fail
  go_ret
  exact ⟨_, rfl, hv, hF⟩
end QI
end Go.Proofs.Ytchhfhldpkaadaa
