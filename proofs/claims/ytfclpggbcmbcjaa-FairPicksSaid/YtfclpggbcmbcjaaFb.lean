/- Picks by a plan. -/
import Derived.Test.YtfclpggbcmbcjaaFa
import Derived.Deep.DeepCutAuto
import Derived.Deep.CutBlock
namespace Go.Proofs.Ytfclpggbcmbcjaa
open Go.RowKit
def seedN (s : Int) : Int := (s * 1664525 + 1013904223) % 4294967296
theorem seedN_le (s : Int) : 0 ≤ seedN s ∧ seedN s ≤ 4294967295 := by unfold seedN; omega
def seedAt (s : Int) (n : Nat) : Nat := (s / 65536 % (n : Int)).toNat
def pickK (k s z : Int) (l : List Int) : Option (Int × Int) :=
  if l = [] then none else if k = 1 then some (minL l, s) else if k = 2 then some (maxL l, s) else if k = 3 then some (roundL z l, s) else if k = 4 then some (l.getD (seedAt (seedN s) l.length) 0, seedN s) else none
def PlanAt (w : World) (b : Nat) (t : TypeId) (k s z : Int) : Prop := Blk w b t #[.int .u8 k, .int .u32 s, .int .i64 z]
def PickPost (t : TypeId) (b : Nat) (k : Int) (o : Option (Int × Int)) (w : World) (e : Ending) (w' : World) : Prop :=
  match o with
  | none => e = .returned (.tuple #[.int .i64 0, .bool false]) ∧ w = w'
  | some (x, s') => e = .returned (.tuple #[.int .i64 x, .bool true]) ∧ PlanAt w' b t k s' x ∧ Frm (fun q => q = b) w w'
theorem PlanAt.cells {w : World} {b : Nat} {t : TypeId} {k s z : Int} (h : PlanAt w b t k s z) : w.cell? ⟨b, 0, none⟩ = some (.int .u8 k) ∧ w.cell? ⟨b, 1, none⟩ = some (.int .u32 s) ∧ w.cell? ⟨b, 2, none⟩ = some (.int .i64 z) ∧ w.frozen? ⟨b, 1, none⟩ = false ∧ w.frozen? ⟨b, 2, none⟩ = false :=
  ⟨Blk.cell h 0, Blk.cell h 1, Blk.cell h 2, Blk.frozen h 1, Blk.frozen h 2⟩
theorem PlanAt.seed {w : World} {b : Nat} {t : TypeId} {k s z : Int} (h : PlanAt w b t k s z) (s' : Int) : PlanAt (w.setCell ⟨b, 1, none⟩ (.int .u32 s')) b t k s' z := Blk.set_ h 1 _
theorem PlanAt.last {w : World} {b : Nat} {t : TypeId} {k s z : Int} (h : PlanAt w b t k s z) (x : Int) : PlanAt (w.setCell ⟨b, 2, none⟩ (.int .i64 x)) b t k s x := Blk.set_ h 2 _
set_option maxRecDepth 100000 in
set_option maxHeartbeats 1600000 in
theorem pick_any (b : Nat) (t : TypeId) (v : Value) (K : Nat → Prop) (l : List Int) (k s z : Int) (w : World) (h : Sl w K v (l.map iv)) (hl : l.length ≤ 1000000) (hK : ∀ q, K q → q ≠ b) (hb : PlanAt w b t k s z) :
    Calls Try.prog 16 #[.pointer (some ⟨b, 0, none⟩), v] w (PickPost t b k (pickK k s z l) w) := by
  by_cases hl0 : l = []
  · subst hl0
    obtain ⟨A, n, c, rfl, hn, -⟩ := h
    simp at hn
    subst hn
    clear hb hK
    go_enter Try.func16, Try.ntmps16
    go_wp2_with fail
    go_ret2
    exact ⟨rfl, rfl⟩
  · have hmin := min_any v K l hl0 w h
    have hmax := max_any v K l hl0 w h
    obtain ⟨c0, c1, c2, f1, f2⟩ := hb.cells
    have hround := round_any b v K l hl0 z w h c2
    obtain ⟨A, n, c, rfl, hn, hc, hm, hx⟩ := id h
    rw [List.length_map] at hn
    have hpos : 0 < l.length := List.length_pos_iff.2 hl0
    have hn1 : 1 ≤ n := by omega
    have hnn : ((n : Int) == 0) = false := by simp; omega
    have H := Lib.hid (And.intro h (And.intro hn (And.intro hb (And.intro hl0 hl))))
    have Hr := Lib.hid (And.intro hmin (And.intro hmax hround))
    have Hx := Lib.hid (And.intro hx hK)
    clear h hn hb hl0 hx hmin hmax hround hpos hl hK
    by_cases k1 : k = 1
    · subst k1
      have HP : Hid (pickK 1 s z l = some (minL l, s)) := Lib.hid (by unfold pickK; rw [if_neg H.out.2.2.2.1, if_pos rfl])
      go_enter Try.func16, Try.ntmps16
      go_wp2_with fail
      refine Hr.out.1.mono ?_
      rintro e w' ⟨rfl, rfl⟩
      go_wp2_with fail
      go_ret2
      rw [HP.out]
      exact ⟨rfl, H.out.2.2.1.last _, ((Frm.refl (fun q => q = b) w).setCell ⟨b, 2, none⟩ (.inl rfl) _)⟩
    · have e1 : (k == 1) = false := by simpa using k1
      by_cases k2 : k = 2
      · subst k2
        have HP : Hid (pickK 2 s z l = some (maxL l, s)) := Lib.hid (by unfold pickK; rw [if_neg H.out.2.2.2.1, if_neg k1, if_pos rfl])
        go_enter Try.func16, Try.ntmps16
        go_wp2_with fail
        refine Hr.out.2.1.mono ?_
        rintro e w' ⟨rfl, rfl⟩
        go_wp2_with fail
        go_ret2
        rw [HP.out]
        exact ⟨rfl, H.out.2.2.1.last _, ((Frm.refl (fun q => q = b) w).setCell ⟨b, 2, none⟩ (.inl rfl) _)⟩
      · have e2 : (k == 2) = false := by simpa using k2
        by_cases k3 : k = 3
        · subst k3
          have HP : Hid (pickK 3 s z l = some (roundL z l, s)) := Lib.hid (by unfold pickK; rw [if_neg H.out.2.2.2.1, if_neg k1, if_neg k2, if_pos rfl])
          go_enter Try.func16, Try.ntmps16
          go_wp2_with fail
          refine Hr.out.2.2.mono ?_
          rintro e w' ⟨rfl, rfl⟩
          go_wp2_with fail
          go_ret2
          rw [HP.out]
          exact ⟨rfl, H.out.2.2.1.last _, ((Frm.refl (fun q => q = b) w).setCell ⟨b, 2, none⟩ (.inl rfl) _)⟩
        · have e3 : (k == 3) = false := by simpa using k3
          by_cases k4 : k = 4
          · subst k4
            have HP : Hid (pickK 4 s z l = some (l.getD (seedAt (seedN s) l.length) 0, seedN s)) := Lib.hid (by unfold pickK; rw [if_neg H.out.2.2.2.1, if_neg k1, if_neg k2, if_neg k3, if_pos rfl])
            obtain ⟨g, o, rfl, hg, hx⟩ := Hx.out.1.resolve_left (by omega)
            have hq : (s * 1664525 + 1013904223) % 4294967296 / 65536 % (n : Int) = ((seedAt (seedN s) n : Nat) : Int) := by
              unfold seedAt seedN
              have := Int.emod_nonneg ((s * 1664525 + 1013904223) % 4294967296 / 65536) (show (n : Int) ≠ 0 by omega)
              omega
            have hqn : seedAt (seedN s) n < n := by
              have := Int.emod_lt_of_pos ((s * 1664525 + 1013904223) % 4294967296 / 65536) (show 0 < (n : Int) by omega)
              omega
            have hql : seedAt (seedN s) n < l.length := by have := H.out.2.1; omega
            have c5 : ∀ u, (w.setCell ⟨b, 1, none⟩ u).cell? ⟨g, o + seedAt (seedN s) n, none⟩ = some (.int .i64 l[seedAt (seedN s) n]) := fun u => by
              have := hx (seedAt (seedN s) n) (by simpa using hql)
              rw [List.getElem_map] at this
              exact ((Frm.refl (fun q => q = b) w).setCell ⟨b, 1, none⟩ (.inl rfl) u).cell this (Hx.out.2 g hg)
            have HQ : Hid (pickK 4 s z l = some (l[seedAt (seedN s) n], seedN s)) := Lib.hid (by
              rw [HP.out, List.getD_eq_getElem?_getD, ← H.out.2.1, List.getElem?_eq_getElem hql]; rfl)
            have HN : Hid (seedN s = (s * 1664525 + 1013904223) % 4294967296) := Lib.hid rfl
            clear hx HP Hx Hr
            generalize l[seedAt (seedN s) n] = x at *
            clear hql
            generalize hqq : seedAt (seedN s) n = q at *
            have hqz : (s * 1664525 + 1013904223) % 4294967296 / 65536 % (n : Int) = (q : Int) := hq
            clear hqq hq
            go_enter Try.func16, Try.ntmps16
            go_wp2_with fail
            go_ret2
            rw [HQ.out]
            refine ⟨rfl, ?_, ((Frm.refl (fun q => q = b) w).setCell ⟨b, 1, none⟩ (.inl rfl) _).setCell ⟨b, 2, none⟩ (.inl rfl) _⟩
            rw [HN.out]
            exact (H.out.2.2.1.seed _).last _
          · have e4 : (k == 4) = false := by simpa using k4
            have HP : Hid (pickK k s z l = none) := Lib.hid (by unfold pickK; rw [if_neg H.out.2.2.2.1, if_neg k1, if_neg k2, if_neg k3, if_neg k4])
            go_enter Try.func16, Try.ntmps16
            go_wp2_with fail
            go_ret2
            rw [HP.out]
            exact ⟨rfl, rfl⟩
end Go.Proofs.Ytfclpggbcmbcjaa
