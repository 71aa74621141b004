/- A pool and the reference's pool, in one walk. -/
import Derived.Test.YtkmammeaidfaaaaWk
import Derived.Test.YtkmammeaidfaaaaRg
namespace Go.Proofs.Ytkmammeaidfaaaa
open Go.RowKit
/-- Each buffer is free or in use. -/
def Inv (m : Nat) (fr : List Nat) (us : List Bool) : Prop := us.length = m ∧ fr.length + us.count true = m ∧ fr.Nodup ∧ ∀ i ∈ fr, us[i]? = some false
theorem count_set_true {us : List Bool} {n : Nat} (h : us[n]? = some false) : (us.set n true).count true = us.count true + 1 := by
  induction us generalizing n with
  | nil => simp at h
  | cons u us ih =>
    cases n with
    | zero => simp at h; subst h; simp
    | succ n => simp at h; simp [ih h, List.count_cons]; omega
theorem count_set_false {us : List Bool} {n : Nat} (h : us[n]? = some true) : (us.set n false).count true + 1 = us.count true := by
  induction us generalizing n with
  | nil => simp at h
  | cons u us ih =>
    cases n with
    | zero => simp at h; subst h; simp
    | succ n => simp at h; have := ih h; simp [List.count_cons]; omega
theorem Inv.room {m n : Nat} {fr : List Nat} {us : List Bool} (h : Inv m fr us) (hu : us[n]? = some true) : fr.length < m := by
  have := count_set_false hu
  have := h.2.1
  omega
theorem Inv.take {m n : Nat} {fr : List Nat} {us : List Bool} (h : Inv m (fr ++ [n]) us) : Inv m fr (us.set n true) := by
  obtain ⟨h1, h2, h3, h4⟩ := h
  have hn := h4 n (by simp)
  have := count_set_true hn
  rw [List.nodup_append] at h3
  refine ⟨by simpa using h1, by simp at h2; omega, h3.1, fun i hi => ?_⟩
  rw [List.getElem?_set_ne (by rintro rfl; exact h3.2.2 n hi n (by simp) rfl)]
  exact h4 i (by simp [hi])
theorem Inv.give {m n : Nat} {fr : List Nat} {us : List Bool} (h : Inv m fr us) (hu : us[n]? = some true) : Inv m (fr ++ [n]) (us.set n false) := by
  obtain ⟨h1, h2, h3, h4⟩ := h
  have := count_set_false hu
  have hlt := (List.getElem?_eq_some_iff.1 hu).1
  refine ⟨by simpa using h1, by simp; omega, ?_, fun i hi => ?_⟩
  · rw [List.nodup_append]
    exact ⟨h3, by simp, fun a ha c hc => by simp at hc; subst hc; rintro rfl; have := h4 a ha; rw [hu] at this; cases this⟩
  · rcases List.mem_append.1 hi with hi | hi
    · by_cases e : n = i
      · subst e; rw [List.getElem?_set_self hlt]
      · rw [List.getElem?_set_ne e]; exact h4 i hi
    · simp at hi; subst hi; rw [List.getElem?_set_self hlt]
theorem inUse_nat {us : List Bool} {n : Int} (h : inUse us n = true) : ∃ k : Nat, n = (k : Int) ∧ n.toNat = k ∧ us[k]? = some true := by
  simp only [inUse, Bool.and_eq_true, decide_eq_true_eq] at h
  obtain ⟨k, rfl⟩ := Int.eq_ofNat_of_zero_le h.1
  refine ⟨k, rfl, by simp, ?_⟩
  have h2 := h.2
  simp only [Int.toNat_natCast, List.getD] at h2
  cases hk : us[k]? with
  | none => rw [hk] at h2; cases h2
  | some x => rw [hk] at h2; simp at h2; rw [h2]
def giveFr (fr : List Nat) (us : List Bool) (n : Int) : List Nat := if inUse us n then fr ++ [n.toNat] else fr
def giveUs (us : List Bool) (n : Int) : List Bool := if inUse us n then us.set n.toNat false else us
def giveDt (us : List Bool) (dt : List (List UInt8)) (n : Int) : List (List UInt8) := if inUse us n then dt.set n.toNat [] else dt
def fitsB (size : Nat) (us : List Bool) (dt : List (List UInt8)) (n : Int) (L : Nat) : Bool := inUse us n && decide ((dt.getD n.toNat []).length + L ≤ size)
def putDt (size : Nat) (us : List Bool) (dt : List (List UInt8)) (n : Int) (bs : List UInt8) : List (List UInt8) := if fitsB size us dt n bs.length then dt.set n.toNat (dt.getD n.toNat [] ++ bs) else dt
def bytesOf (us : List Bool) (dt : List (List UInt8)) (n : Int) : List UInt8 := if inUse us n then dt.getD n.toNat [] else []
/-- The two pools, apart. -/
def J2 (w0 : World) (b b' m size : Nat) (fr : List Nat) (us : List Bool) (dt : List (List UInt8)) (row : List Nat) (us' : List Bool) (dt' : List (List UInt8)) (wr : World) : Prop :=
  ∃ S T, PAt wr S b m size fr us dt ∧ RAt wr T b' m size row us' dt' ∧ (∀ k, S k → w0.heap.size ≤ k) ∧ (∀ k, T k → w0.heap.size ≤ k) ∧ (∀ k, S k → ¬ T k) ∧ Frm (fun _ => False) w0 wr
section
variable {w0 wr w2 : World} {b b' m size n : Nat} {fr fr1 row row1 : List Nat} {us us1 us' us1' : List Bool} {dt dt1 dt' dt1' : List (List UInt8)}
theorem J2.same (h : J2 w0 b b' m size fr us dt row us' dt' wr) (hF : Frm (fun _ => False) wr w2) : J2 w0 b b' m size fr us dt row us' dt' w2 := by
  obtain ⟨S, T, h1, h2, h3, h4, h5, h6⟩ := h
  exact ⟨S, T, h1.keptF hF, h2.keptF hF, h3, h4, h5, h6.trans hF fun _ h => h.elim⟩
theorem J2.frm (h : J2 w0 b b' m size fr us dt row us' dt' wr) : Frm (fun _ => False) w0 wr := by
  obtain ⟨S, T, h1, h2, h3, h4, h5, h6⟩ := h
  exact h6
theorem J2.left {S T : Nat → Prop} (hT : RAt wr T b' m size row us' dt') (h3 : ∀ k, S k → w0.heap.size ≤ k) (h4 : ∀ k, T k → w0.heap.size ≤ k) (h5 : ∀ k, S k → ¬ T k) (h6 : Frm (fun _ => False) w0 wr) (hL : Left S b m size fr1 us1 dt1 wr w2) :
    J2 w0 b b' m size fr1 us1 dt1 row us' dt' w2 := by
  obtain ⟨S', p1, p2, p3⟩ := hL
  have hs := h6.size
  have hlt := hT.lt.2
  refine ⟨S', T, p1, hT.kept p3 fun k hk hk' => h5 k hk' hk, fun k hk => ?_, h4, fun k hk hk' => ?_, h6.trans p3 fun k hk => .inr (h3 k hk)⟩
  · rcases p2 k hk with h | h
    · exact h3 k h
    · omega
  · rcases p2 k hk with h | h
    · exact h5 k h hk'
    · have := hlt k hk'; omega
theorem J2.right {S T : Nat → Prop} (hS : PAt wr S b m size fr us dt) (h3 : ∀ k, S k → w0.heap.size ≤ k) (h4 : ∀ k, T k → w0.heap.size ≤ k) (h5 : ∀ k, S k → ¬ T k) (h6 : Frm (fun _ => False) w0 wr) (hL : RLeft T b' m size row1 us1' dt1' wr w2) :
    J2 w0 b b' m size fr us dt row1 us1' dt1' w2 := by
  obtain ⟨T', p1, p2, p3⟩ := hL
  have hs := h6.size
  have hlt := hS.lt.2
  refine ⟨S, T', hS.kept p3 h5, p1, h3, fun k hk => ?_, fun k hk hk' => ?_, h6.trans p3 fun k hk => .inr (h4 k hk)⟩
  · rcases p2 k hk with h | h
    · exact h4 k h
    · omega
  · rcases p2 k hk' with h | h
    · exact h5 k hk h
    · have := hlt k hk; omega
theorem J2.pw (h : J2 w0 b b' m size fr us dt row us' dt' wr) : PW w0 b m size fr us dt wr := by
  obtain ⟨S, T, h1, h2, h3, h4, h5, h6⟩ := h
  exact ⟨S, h1, h3, h6⟩
theorem J2.take (h : J2 w0 b b' m size (fr ++ [n]) us dt row us' dt' wr) : Calls Try.prog 12 #[.pointer (some ⟨b, 0, none⟩)] wr fun e w2 => e = .returned (.tuple #[.int .i64 n, .bool true]) ∧ J2 w0 b b' m size fr (us.set n true) (dt.set n []) row us' dt' w2 := by
  obtain ⟨S, T, h1, h2, h3, h4, h5, h6⟩ := h
  exact (take_ok S b m size n fr us dt wr h1).mono fun e w' ⟨he, hL⟩ => ⟨he, J2.left h2 h3 h4 h5 h6 hL⟩
theorem J2.rtake (h : J2 w0 b b' m size fr us dt (n :: row) us' dt' wr) : Calls Try.prog 13 #[.pointer (some ⟨b', 0, none⟩)] wr fun e w2 => e = .returned (.tuple #[.int .i64 n, .bool true]) ∧ J2 w0 b b' m size fr us dt row (us'.set n true) (dt'.set n []) w2 := by
  obtain ⟨S, T, h1, h2, h3, h4, h5, h6⟩ := h
  exact (rtake_ok T b' m size n row us' dt' wr h2).mono fun e w' ⟨he, hL⟩ => ⟨he, J2.right h1 h3 h4 h5 h6 hL⟩
theorem J2.rtakeNo (h : J2 w0 b b' m size fr us dt [] us' dt' wr) : Calls Try.prog 13 #[.pointer (some ⟨b', 0, none⟩)] wr fun e w2 => e = .returned (.tuple #[.int .i64 0, .bool false]) ∧ wr = w2 := by
  obtain ⟨S, T, h1, h2, h3, h4, h5, h6⟩ := h
  exact rtake_no T b' m size us' dt' wr h2
theorem J2.give (h : J2 w0 b b' m size fr us dt row us' dt' wr) (hI : Inv m fr us) (v : Int) : Calls Try.prog 14 #[.pointer (some ⟨b, 0, none⟩), .int .i64 v] wr fun e w2 =>
    e = .returned (.bool (inUse us v)) ∧ J2 w0 b b' m size (giveFr fr us v) (giveUs us v) (giveDt us dt v) row us' dt' w2 := by
  unfold giveFr giveUs giveDt
  cases hu : inUse us v with
  | true =>
    obtain ⟨k, rfl, hk, hu'⟩ := inUse_nat hu
    simp only [if_true, hk]
    obtain ⟨S, T, h1, h2, h3, h4, h5, h6⟩ := h
    exact (give_ok S b m size k fr us dt wr h1 hu' (hI.room hu')).mono fun e w' ⟨he, hL⟩ => ⟨he, J2.left h2 h3 h4 h5 h6 hL⟩
  | false =>
    refine (h.pw.giveNo hu).mono ?_
    rintro e w' ⟨he, rfl⟩
    exact ⟨he, h⟩
theorem J2.rgive (h : J2 w0 b b' m size fr us dt row us' dt' wr) (hI : Inv m row us') (v : Int) : Calls Try.prog 15 #[.pointer (some ⟨b', 0, none⟩), .int .i64 v] wr fun e w2 =>
    e = .returned (.bool (inUse us' v)) ∧ J2 w0 b b' m size fr us dt (if inUse us' v then v.toNat :: row else row) (giveUs us' v) (giveDt us' dt' v) w2 := by
  unfold giveUs giveDt
  obtain ⟨S, T, h1, h2, h3, h4, h5, h6⟩ := id h
  cases hu : inUse us' v with
  | true =>
    obtain ⟨k, rfl, hk, hu'⟩ := inUse_nat hu
    simp only [if_true, hk]
    exact (rgive_ok T b' m size k row us' dt' wr h2 hu' (hI.room hu')).mono fun e w' ⟨he, hL⟩ => ⟨he, J2.right h1 h3 h4 h5 h6 hL⟩
  | false =>
    refine (rgive_no T b' m size row us' dt' v wr h2 hu).mono ?_
    rintro e w' ⟨he, rfl⟩
    exact ⟨he, h⟩
theorem J2.put (h : J2 w0 b b' m size fr us dt row us' dt' wr) (v : Int) {K : Nat → Prop} {A : Option Addr} {L c : Nat} {bs : List UInt8} (hs : Sl wr K (.slice A L c) (bv bs)) (hK : ∀ k, K k → k < wr.heap.size) (hL : L ≤ 1000000) :
    Calls Try.prog 16 #[.pointer (some ⟨b, 0, none⟩), .int .i64 v, .slice A L c] wr fun e w2 => e = .returned (.bool (fitsB size us dt v bs.length)) ∧ J2 w0 b b' m size fr us (putDt size us dt v bs) row us' dt' w2 := by
  unfold putDt
  obtain ⟨S, T, h1, h2, h3, h4, h5, h6⟩ := id h
  have hLb : L = bs.length := by obtain ⟨_, _, _, he, hn, _⟩ := hs; cases he; simpa using hn
  cases hu : inUse us v with
  | true =>
    obtain ⟨k, rfl, hk, hu'⟩ := inUse_nat hu
    have hkd : k < dt.length := by have := (List.getElem?_eq_some_iff.1 hu').1; have := h1.sz.2; omega
    obtain ⟨l, hl⟩ : ∃ l, dt[k]? = some l := ⟨_, List.getElem?_eq_getElem hkd⟩
    have hgd : dt.getD k [] = l := by simp [List.getD, hl]
    by_cases hfit : l.length + bs.length ≤ size
    · have e : fitsB size us dt (k : Int) bs.length = true := by unfold fitsB; rw [hu, hk, hgd]; simpa using hfit
      rw [e, if_pos rfl, hk, hgd]
      exact (put_ok S K b m size k fr us dt l bs _ wr h1 hu' hl hs hK hfit).mono fun e w' ⟨he, hL⟩ => ⟨he, J2.left h2 h3 h4 h5 h6 hL⟩
    · have e : fitsB size us dt (k : Int) bs.length = false := by unfold fitsB; rw [hu, hk, hgd]; simpa using hfit
      rw [e, if_neg (by decide)]
      refine (put_full S b m size k fr us dt l A L c wr h1 hu' hl (by omega) hL).mono ?_
      rintro e w' ⟨he, q, rfl⟩
      exact ⟨he, h.same ((Frm.refl _ wr).drewN q)⟩
  | false =>
    have e : fitsB size us dt v bs.length = false := by unfold fitsB; rw [hu]; rfl
    rw [e, if_neg (by decide)]
    have := fun k => ((h.same ((Frm.refl _ wr).drewN k)).pw).has v
    rw [hu] at this
    refine (put_no' _ v A L c wr this).mono ?_
    rintro e w' ⟨he, k, rfl⟩
    exact ⟨he, h.same ((Frm.refl _ wr).drewN k)⟩
theorem J2.rput (h : J2 w0 b b' m size fr us dt row us' dt' wr) (v : Int) {K : Nat → Prop} {A : Option Addr} {L c : Nat} {bs : List UInt8} (hs : Sl wr K (.slice A L c) (bv bs)) (hK : ∀ k, K k → k < wr.heap.size) (hL : L ≤ 1000000) :
    Calls Try.prog 17 #[.pointer (some ⟨b', 0, none⟩), .int .i64 v, .slice A L c] wr fun e w2 => e = .returned (.bool (fitsB size us' dt' v bs.length)) ∧ J2 w0 b b' m size fr us dt row us' (putDt size us' dt' v bs) w2 := by
  unfold putDt
  obtain ⟨S, T, h1, h2, h3, h4, h5, h6⟩ := id h
  have hLb : L = bs.length := by obtain ⟨_, _, _, he, hn, _⟩ := hs; cases he; simpa using hn
  cases hu : inUse us' v with
  | true =>
    obtain ⟨k, rfl, hk, hu'⟩ := inUse_nat hu
    have hkd : k < dt'.length := by have := (List.getElem?_eq_some_iff.1 hu').1; have := h2.sz.2; omega
    obtain ⟨l, hl⟩ : ∃ l, dt'[k]? = some l := ⟨_, List.getElem?_eq_getElem hkd⟩
    have hgd : dt'.getD k [] = l := by simp [List.getD, hl]
    by_cases hfit : l.length + bs.length ≤ size
    · have e : fitsB size us' dt' (k : Int) bs.length = true := by unfold fitsB; rw [hu, hk, hgd]; simpa using hfit
      rw [e, if_pos rfl, hk, hgd]
      exact (rput_ok T K b' m size k row us' dt' l bs _ wr h2 hu' hl hs hK hfit).mono fun e w' ⟨he, hL⟩ => ⟨he, J2.right h1 h3 h4 h5 h6 hL⟩
    · have e : fitsB size us' dt' (k : Int) bs.length = false := by unfold fitsB; rw [hu, hk, hgd]; simpa using hfit
      rw [e, if_neg (by decide)]
      refine (rput_full T b' m size k row us' dt' l A L c wr h2 hu' hl (by omega) hL).mono ?_
      rintro e w' ⟨he, q, rfl⟩
      exact ⟨he, h.same ((Frm.refl _ wr).drewN q)⟩
  | false =>
    have e : fitsB size us' dt' v bs.length = false := by unfold fitsB; rw [hu]; rfl
    rw [e, if_neg (by decide)]
    refine (rput_no T b' m size row us' dt' v A L c wr h2 hu).mono ?_
    rintro e w' ⟨he, k, rfl⟩
    exact ⟨he, h.same ((Frm.refl _ wr).drewN k)⟩
theorem PW.dataAll (h : PW w0 b m size fr us dt wr) (v : Int) : Calls Try.prog 22 #[.pointer (some ⟨b, 0, none⟩), .int .i64 v] wr (DataPost (bytesOf us dt v) wr) := by
  unfold bytesOf
  cases hu : inUse us v with
  | true =>
    obtain ⟨k, rfl, hk, hu'⟩ := inUse_nat hu
    have hkd : k < dt.length := by obtain ⟨S, h1, _⟩ := h; have := (List.getElem?_eq_some_iff.1 hu').1; have := h1.sz.2; omega
    obtain ⟨l, hl⟩ : ∃ l, dt[k]? = some l := ⟨_, List.getElem?_eq_getElem hkd⟩
    have hgd : dt.getD k [] = l := by simp [List.getD, hl]
    rw [if_pos rfl, hk, hgd]
    exact h.data hu' hl rfl
  | false =>
    rw [if_neg (by decide)]
    exact h.dataNo hu
def RB (l : List UInt8) (w : World) (e : Ending) (w' : World) : Prop := ∃ v, e = .returned v ∧ Sl w (fun k => k < w.heap.size) v (bv l) ∧ w = w'
theorem J2.rbytes (h : J2 w0 b b' m size fr us dt row us' dt' wr) (v : Int) : Calls Try.prog 23 #[.pointer (some ⟨b', 0, none⟩), .int .i64 v] wr (RB (bytesOf us' dt' v) wr) := by
  unfold bytesOf
  obtain ⟨S, T, h1, h2, h3, h4, h5, h6⟩ := h
  cases hu : inUse us' v with
  | true =>
    obtain ⟨k, rfl, hk, hu'⟩ := inUse_nat hu
    have hkd : k < dt'.length := by have := (List.getElem?_eq_some_iff.1 hu').1; have := h2.sz.2; omega
    obtain ⟨l, hl⟩ : ∃ l, dt'[k]? = some l := ⟨_, List.getElem?_eq_getElem hkd⟩
    have hgd : dt'.getD k [] = l := by simp [List.getD, hl]
    rw [if_pos rfl, hk, hgd]
    refine (rbytes_ok T b' m size k row us' dt' l wr h2 hu' hl).mono ?_
    rintro e w' ⟨A, c, he, hs, hw⟩
    exact ⟨_, he, hs.mono fun k hk => h2.lt.2 k hk, hw⟩
  | false =>
    rw [if_neg (by decide)]
    refine (rbytes_no T b' m size row us' dt' v wr h2 hu).mono ?_
    rintro e w' ⟨he, hw⟩
    exact ⟨_, he, Sl.nil_ _ _, hw⟩
theorem J2.rlive (h : J2 w0 b b' m size fr us dt row us' dt' wr) : Calls Try.prog 20 #[.pointer (some ⟨b', 0, none⟩)] wr (LivePost us' m wr) := by
  obtain ⟨S, T, h1, h2, h3, h4, h5, h6⟩ := h
  exact rlive_any T b' m size row us' dt' wr h2
theorem J2.rowcell (h : J2 w0 b b' m size fr us dt row us' dt' wr) : ∃ A c, wr.cell? ⟨b', 1, none⟩ = some (.slice A row.length c) ∧ row.length ≤ c ∧ c ≤ 9223372036854775807 := by
  obtain ⟨S, T, h1, ⟨gu, gd, vr, vs, h2⟩, h3, h4, h5, h6⟩ := h
  obtain ⟨A, n, c, rfl, hn, hc, hm, _⟩ := h2.sl
  rw [List.length_map] at hn
  subst hn
  exact ⟨A, c, h2.cells.2.1, hc, hm⟩
end
end Go.Proofs.Ytkmammeaidfaaaa
