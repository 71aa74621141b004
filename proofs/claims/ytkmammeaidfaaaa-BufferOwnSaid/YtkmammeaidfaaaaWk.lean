/- The walk of teasellaw18.wakes. -/
import Derived.Test.YtkmammeaidfaaaaPq
import Derived.Test.YtkmammeaidfaaaaInts
namespace Go.Proofs.Ytkmammeaidfaaaa
open Go.RowKit
/-- A pool that was made behind w0; what was there at w0 is as it was. -/
def PW (w0 : World) (b m size : Nat) (fr : List Nat) (us : List Bool) (dt : List (List UInt8)) (wr : World) : Prop :=
  ∃ S, PAt wr S b m size fr us dt ∧ (∀ k, S k → w0.heap.size ≤ k) ∧ Frm (fun _ => False) w0 wr
section
variable {w0 wr w2 : World} {b m size n : Nat} {fr fr' : List Nat} {us us' : List Bool} {dt dt' : List (List UInt8)}
theorem PW.same (h : PW w0 b m size fr us dt wr) (hF : Frm (fun _ => False) wr w2) : PW w0 b m size fr us dt w2 := by
  obtain ⟨S, h1, h2, h3⟩ := h
  exact ⟨S, h1.keptF hF, h2, h3.trans hF fun _ h => h.elim⟩
theorem PW.frm (h : PW w0 b m size fr us dt wr) : Frm (fun _ => False) w0 wr := h.choose_spec.2.2
theorem PW.step {S : Nat → Prop} (h2 : ∀ k, S k → w0.heap.size ≤ k) (h3 : Frm (fun _ => False) w0 wr) (hL : Left S b m size fr' us' dt' wr w2) : PW w0 b m size fr' us' dt' w2 := by
  obtain ⟨S', p1, p2, p3⟩ := hL
  refine ⟨S', p1, fun k hk => ?_, h3.trans p3 fun k hk => .inr (h2 k hk)⟩
  rcases p2 k hk with h | h
  · exact h2 k h
  · have := h3.size; omega
theorem PW.take (h : PW w0 b m size (fr ++ [n]) us dt wr) : Calls Try.prog 12 #[.pointer (some ⟨b, 0, none⟩)] wr fun e w2 => e = .returned (.tuple #[.int .i64 n, .bool true]) ∧ PW w0 b m size fr (us.set n true) (dt.set n []) w2 := by
  obtain ⟨S, h1, h2, h3⟩ := h
  exact (take_ok S b m size n fr us dt wr h1).mono fun e w' ⟨he, hL⟩ => ⟨he, PW.step h2 h3 hL⟩
theorem PW.takeNo (h : PW w0 b m size [] us dt wr) : Calls Try.prog 12 #[.pointer (some ⟨b, 0, none⟩)] wr fun e w2 => e = .returned (.tuple #[.int .i64 0, .bool false]) ∧ wr = w2 := by
  obtain ⟨S, h1, h2, h3⟩ := h
  exact take_no S b m size us dt wr h1
theorem PW.has (h : PW w0 b m size fr us dt wr) (k : Int) : Calls Try.prog 26 #[.pointer (some ⟨b, 0, none⟩), .int .i64 k] wr fun e w' => e = .returned (.bool (inUse us k)) ∧ wr = w' := by
  obtain ⟨S, h1, h2, h3⟩ := h
  exact has_any S b m size fr us dt k wr h1
theorem PW.give (h : PW w0 b m size fr us dt wr) (hu : us[n]? = some true) (hl : fr.length < m) {v : Int} (hv : v = (n : Int)) : Calls Try.prog 14 #[.pointer (some ⟨b, 0, none⟩), .int .i64 v] wr fun e w2 => e = .returned (.bool true) ∧ PW w0 b m size (fr ++ [n]) (us.set n false) (dt.set n []) w2 := by
  subst hv
  obtain ⟨S, h1, h2, h3⟩ := h
  exact (give_ok S b m size n fr us dt wr h1 hu hl).mono fun e w' ⟨he, hL⟩ => ⟨he, PW.step h2 h3 hL⟩
theorem PW.giveNo (h : PW w0 b m size fr us dt wr) {v : Int} (hu : inUse us v = false) : Calls Try.prog 14 #[.pointer (some ⟨b, 0, none⟩), .int .i64 v] wr fun e w2 => e = .returned (.bool false) ∧ wr = w2 := by
  have := h.has v
  rw [hu] at this
  exact give_no _ v wr this
theorem PW.put {l bs : List UInt8} {K : Nat → Prop} {a : Value} (h : PW w0 b m size fr us dt wr) (hu : us[n]? = some true) (hdl : dt[n]? = some l) {v : Int} (hv : v = (n : Int)) (hs : Sl wr K a (bv bs)) (hK : ∀ k, K k → k < wr.heap.size) (hl : l.length + bs.length ≤ size) :
    Calls Try.prog 16 #[.pointer (some ⟨b, 0, none⟩), .int .i64 v, a] wr fun e w2 => e = .returned (.bool true) ∧ PW w0 b m size fr us (dt.set n (l ++ bs)) w2 := by
  subst hv
  obtain ⟨S, h1, h2, h3⟩ := h
  exact (put_ok S K b m size n fr us dt l bs a wr h1 hu hdl hs hK hl).mono fun e w' ⟨he, hL⟩ => ⟨he, PW.step h2 h3 hL⟩
theorem PW.putFull {l : List UInt8} {A : Option Addr} {L c : Nat} (h : PW w0 b m size fr us dt wr) (hu : us[n]? = some true) (hdl : dt[n]? = some l) {v : Int} (hv : v = (n : Int)) (hl : size < l.length + L) (hL : L ≤ 1000000) :
    Calls Try.prog 16 #[.pointer (some ⟨b, 0, none⟩), .int .i64 v, .slice A L c] wr fun e w2 => e = .returned (.bool false) ∧ PW w0 b m size fr us dt w2 := by
  subst hv
  obtain ⟨S, h1, h2, h3⟩ := id h
  refine (put_full S b m size n fr us dt l A L c wr h1 hu hdl hl hL).mono ?_
  rintro e w' ⟨he, k, rfl⟩
  exact ⟨he, h.same ((Frm.refl _ wr).drewN k)⟩
theorem PW.putNo {A : Option Addr} {L c : Nat} (h : PW w0 b m size fr us dt wr) {v : Int} (hu : inUse us v = false) :
    Calls Try.prog 16 #[.pointer (some ⟨b, 0, none⟩), .int .i64 v, .slice A L c] wr fun e w2 => e = .returned (.bool false) ∧ PW w0 b m size fr us dt w2 := by
  have := fun k => (h.same ((Frm.refl _ wr).drewN k)).has v
  rw [hu] at this
  refine (put_no' _ v A L c wr this).mono ?_
  rintro e w' ⟨he, k, rfl⟩
  exact ⟨he, h.same ((Frm.refl _ wr).drewN k)⟩
theorem PW.data {l : List UInt8} (h : PW w0 b m size fr us dt wr) (hu : us[n]? = some true) (hdl : dt[n]? = some l) {v : Int} (hv : v = (n : Int)) :
    Calls Try.prog 22 #[.pointer (some ⟨b, 0, none⟩), .int .i64 v] wr (DataPost l wr) := by
  subst hv
  obtain ⟨S, h1, h2, h3⟩ := h
  exact data_ok S b m size n fr us dt l wr h1 hu hdl
theorem PW.dataNo (h : PW w0 b m size fr us dt wr) {v : Int} (hu : inUse us v = false) :
    Calls Try.prog 22 #[.pointer (some ⟨b, 0, none⟩), .int .i64 v] wr (DataPost [] wr) := by
  have := h.has v
  rw [hu] at this
  exact data_no _ v wr this
theorem PW.live (h : PW w0 b m size fr us dt wr) : Calls Try.prog 19 #[.pointer (some ⟨b, 0, none⟩)] wr (LivePost us m wr) := by
  obtain ⟨S, h1, h2, h3⟩ := h
  exact live_any S b m size fr us dt wr h1
theorem PW.free (h : PW w0 b m size fr us dt wr) {k : Nat} (hk : fr.length = k) : Calls Try.prog 21 #[.pointer (some ⟨b, 0, none⟩)] wr fun e w' => e = .returned (.int .i64 k) ∧ wr = w' := by
  subst hk
  obtain ⟨S, h1, h2, h3⟩ := h
  exact free_any S b m size fr us dt wr h1
end
set_option maxRecDepth 100000 in
set_option maxHeartbeats 4000000 in
theorem wakes_any (w : World) : Calls Try.prog 8 #[] w fun e w' => e = .returned (.bool true) ∧ Frm (fun _ => False) w w' := by
  go_enter Try.func8, Try.ntmps8
  go_wp2_with fail
  refine (new_ok 2 3 w (by omega) (by omega) (by omega) (by omega)).mono ?_
  rintro e w1 ⟨b, S, rfl, h, hS, hF⟩
  have H : Hid (PW w b 2 3 ([] ++ [1] ++ [0]) [false, false] [[], []] w1) := Lib.hid ⟨S, h, hS, hF⟩
  clear h hS hF
  go_wp2_with fail
  refine (new_no 0 3 w1 (by decide)).mono ?_
  rintro e w' ⟨rfl, rfl⟩
  go_wp2_with fail
  refine (H.out.take).mono ?_
  rintro e w2 ⟨rfl, h⟩
  have H := Lib.hid h
  clear h
  go_wp2_with fail
  refine (H.out.take).mono ?_
  rintro e w3 ⟨rfl, h⟩
  have H := Lib.hid h
  clear h
  go_wp2_with fail
  refine (H.out.takeNo).mono ?_
  rintro e w' ⟨rfl, rfl⟩
  go_wp2_with fail
  refine ((H.out.same ((Frm.refl _ w3).alloc _)).put (n := 1) (bs := [120, 121]) rfl rfl rfl (Sl.blk w3 #[.int .u8 120, .int .u8 121] 5 rfl (by decide)) (fun k hk => by subst hk; simp) (by decide)).mono ?_
  rintro e w4 ⟨rfl, h⟩
  have H := Lib.hid h
  clear h
  go_wp2_with fail
  refine (H.out.give (n := 0) rfl (by decide) rfl).mono ?_
  rintro e w5 ⟨rfl, h⟩
  have H := Lib.hid h
  clear h
  go_wp2_with fail
  refine (H.out.giveNo (by decide)).mono ?_
  rintro e w' ⟨rfl, rfl⟩
  go_wp2_with fail
  refine (H.out.take).mono ?_
  rintro e w6 ⟨rfl, h⟩
  have H := Lib.hid h
  clear h
  go_wp2_with fail
  refine ((H.out.same ((Frm.refl _ w6).alloc _)).putFull (n := 0) rfl rfl rfl (by decide) (by decide)).mono ?_
  rintro e w7 ⟨rfl, h⟩
  have H := Lib.hid h
  clear h
  go_wp2_with fail
  refine (take_nil _).mono ?_
  rintro e w' ⟨rfl, rfl⟩
  go_wp2_with fail
  refine (H.out.data (n := 0) rfl rfl rfl).mono ?_
  rintro e w8 ⟨v8, rfl, ho, hF⟩
  obtain ⟨A8, c8, rfl, -, -⟩ := own_form (n := 0) ho
  have H := Lib.hid (H.out.same hF)
  clear ho hF
  go_wp2_with fail
  refine (H.out.data (n := 1) (l := [120, 121]) rfl rfl rfl).mono ?_
  rintro e w9 ⟨v9, rfl, ho, hF⟩
  obtain ⟨A9, c9, rfl, -, -⟩ := own_form (n := 2) ho
  have H := Lib.hid (H.out.same hF)
  have hcv := run_conv (P := Try.prog) (dst := 9) Try.underlying32 Try.underlying5 Try.underlying9 (OSl.of_own (K := fun _ => True) (n := 2) (xs := bv [120, 121]) ho (fun _ _ => trivial)).sl
  clear ho hF
  go_wp2_with fail
  refine (H.out.live).mono ?_
  rintro e w10 ⟨v10, rfl, ho, hF⟩
  have H := Lib.hid (H.out.same hF)
  have Ho := Lib.hid (OSl.of_own (K := fun k => w9.heap.size ≤ k ∧ k < w10.heap.size) (n := 2) (xs := [iv 0, iv 1]) ho (fun g hg => ho.lt g hg))
  clear ho hF hcv
  go_wp2_with fail
  refine (ints_any v10 (.slice (some ⟨w10.heap.size, 0, none⟩) 2 2) _ _ [0, 1] [0, 1] (w10.alloc (.cells #[.int .i64 0, .int .i64 1] 3))
    (Ho.out.sl.keptTo (K' := fun _ => True) fun k hk => ⟨Below.heap_alloc _ _ _ hk.lt, trivial⟩) (Sl.blk w10 #[.int .i64 0, .int .i64 1] 3 rfl (by decide))).mono ?_
  rintro e w' ⟨rfl, k2, rfl⟩
  have H := Lib.hid (H.out.same (((Frm.refl _ w10).alloc (.cells #[.int .i64 0, .int .i64 1] 3)).drewN k2))
  clear Ho
  generalize (w10.alloc (.cells #[.int .i64 0, .int .i64 1] 3)).drewN k2 = w11 at *
  rw [show decide (([0, 1] : List Int) = [0, 1]) = true from rfl]
  go_wp2_with fail
  refine (H.out.free (k := 0) rfl).mono ?_
  rintro e w' ⟨rfl, rfl⟩
  go_wp2_with fail
  refine (free_nil _).mono ?_
  rintro e w' ⟨rfl, rfl⟩
  go_wp2_with fail
  refine (give_no none 0 _ (has_nil 0 _)).mono ?_
  rintro e w' ⟨rfl, rfl⟩
  go_wp2_with fail
  refine (put_no' none 0 _ _ _ _ (fun k => has_nil 0 _)).mono ?_
  rintro e w' ⟨rfl, k3, rfl⟩
  have H := Lib.hid (H.out.same ((Frm.refl _ w11).drewN k3))
  generalize w11.drewN k3 = w12 at *
  go_wp2_with fail
  refine (live_nil _).mono ?_
  rintro e w' ⟨rfl, rfl⟩
  go_wp2_with fail
  go_ret
  exact ⟨rfl, H.out.frm⟩
end Go.Proofs.Ytkmammeaidfaaaa
