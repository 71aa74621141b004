/- Pick, Next. -/
import Derived.Test.YtfclpggbcmbcjaaFb
namespace Go.Proofs.Ytfclpggbcmbcjaa
open Go.RowKit
def NextPost (k s z : Int) (o : Option (Int × Int)) (w : World) (e : Ending) (w' : World) : Prop :=
  (match o with
  | none => e = .returned (.tuple #[.agg #[.int .u8 k, .int .u32 s, .int .i64 z], .int .i64 0, .bool false])
  | some (x, s') => e = .returned (.tuple #[.agg #[.int .u8 k, .int .u32 s', .int .i64 x], .int .i64 x, .bool true])) ∧ Frm (fun _ => False) w w'
def pickN (n : Int) (l : List Int) : Int := l.getD (n % (l.length : Int)).toNat 0
def PickNPost (n : Int) (l : List Int) (w : World) (e : Ending) (w' : World) : Prop :=
  e = .returned (if l = [] then .tuple #[.int .i64 0, .bool false] else .tuple #[.int .i64 (pickN n l), .bool true]) ∧ w = w'
set_option maxHeartbeats 800000 in
theorem pickn_any (x : Int) (v : Value) (K : Nat → Prop) (l : List Int) (w : World) (h : Sl w K v (l.map iv)) (hl : l.length ≤ 1000000) :
    Calls Try.prog 12 #[.int .i64 x, v] w (PickNPost x l w) := by
  obtain ⟨A, n, c, rfl, hn, hc, hm, hx⟩ := h
  rw [List.length_map] at hn
  by_cases hl0 : l = []
  · subst hl0
    simp at hn
    subst hn
    go_enter Try.func12, Try.ntmps12
    go_wp2_with fail
    go_ret2
    exact ⟨rfl, rfl⟩
  · have hpos : 0 < l.length := List.length_pos_iff.2 hl0
    obtain ⟨g, o, rfl, _, hx⟩ := hx.resolve_left (by omega)
    have hn1 : 1 ≤ n := by omega
    have hnn : ((n : Int) == 0) = false := by simp; omega
    have hn0 : ¬ n = 0 := by omega
    have hb := Int.emod_nonneg x (show (n : Int) ≠ 0 by omega)
    have hb2 := Int.emod_lt_of_pos x (show 0 < (n : Int) by omega)
    have hq : (x % (n : Int)) = (((x % (n : Int)).toNat : Nat) : Int) := by omega
    have hb3 := Int.tmod_lt_of_pos x (show 0 < (n : Int) by omega)
    have hb4 : -(n : Int) < Int.tmod x n := by
      have h1 := Int.tmod_lt_of_pos (-x) (show 0 < (n : Int) by omega)
      rw [Int.neg_tmod] at h1
      omega
    have hw1 : IntKind.i64.wrap (Int.tmod x n + n) = Int.tmod x n + n := IntWalk.i64_in _ (by omega)
    have ht : Int.tmod (Int.tmod x n + n) n = (((x % (n : Int)).toNat : Nat) : Int) := by
      rw [Int.tmod_eq_emod_of_nonneg (by omega), Int.add_emod_right, ← hq]
      rw [Int.tmod_eq_emod]
      split
      · simp
      · simp
    have hql : (x % (n : Int)).toNat < l.length := by omega
    have c5 : w.cell? ⟨g, o + (x % (n : Int)).toNat, none⟩ = some (.int .i64 l[(x % (n : Int)).toNat]) := by have := hx (x % (n : Int)).toNat (by simpa using hql); simpa [iv] using this
    have hqn : (x % (n : Int)).toNat < n := by omega
    have HP : Hid (pickN x l = l[(x % (n : Int)).toNat] ∧ l ≠ []) := Lib.hid ⟨by unfold pickN; rw [← hn, List.getD_eq_getElem?_getD, List.getElem?_eq_getElem hql]; rfl, hl0⟩
    clear hx hb hb2 hb3 hb4 hpos
    generalize l[(x % (n : Int)).toNat] = y at *
    clear hql hn hq hl hl0
    generalize (x % (n : Int)).toNat = q at *
    go_enter Try.func12, Try.ntmps12
    go_wp2_with fail
    go_ret2
    exact ⟨by rw [if_neg HP.out.2, HP.out.1]; rfl, rfl⟩
theorem results_c2 {P : Program} {fn : Func} {p u v : Tmp} {ty : TypeId} (h : fn.results = #[.cell p ty, .tmp u, .tmp v]) (tmps : Array Value) (w : World) (g : Nat) (t : TypeId) (cs : Array Value) (fr : Nat × Nat) (d : TypeDesc)
    (hp : tmps.getD p undef = .pointer (some ⟨g, 0, none⟩)) (hg : w.heap[g]? = some (.cells cs t fr))
    (hu : P.underlying ty = some d) (hd : (match d with | .struct _ | .array _ _ => true | _ => false) = true) (hi : (P.info? ty).map (·.size) = some cs.size) :
    (results fn tmps).run P w = .ok (.tuple #[.agg cs, tmps.getD u undef, tmps.getD v undef]) w := by
  have hp' : tmps[p]?.getD undef = .pointer (some ⟨g, 0, none⟩) := by simpa using hp
  simp [results, h, hp', asAddr, run_loadVar_row w g t ty cs fr d hg hu hd hi]
theorem PlanAt.stored {w : World} {b : Nat} {t : TypeId} {k s z : Int} (h : PlanAt w b t k s z) (k' s' z' : Int) :
    PlanAt (((w.setCell ⟨b, 0, none⟩ (.int .u8 k')).setCell ⟨b, 1, none⟩ (.int .u32 s')).setCell ⟨b, 2, none⟩ (.int .i64 z')) b t k' s' z' := ((Blk.set_ h 0 _).set_ 1 _).set_ 2 _
theorem next_ret {k s z : Int} {tmps : Array Value} {w : World} {b : Nat} {x y : Value} (h : PlanAt w b 31 k s z) (h4 : tmps.getD 4 undef = .pointer (some ⟨b, 0, none⟩)) (h5 : tmps.getD 5 undef = x) (h6 : tmps.getD 6 undef = y) :
    (results Try.f13 tmps).run Try.prog w = .ok (.tuple #[.agg #[.int .u8 k, .int .u32 s, .int .i64 z], x, y]) w := by
  rw [results_c2 (u := 5) (v := 6) rfl tmps w b 31 _ (0, 0) _ h4 h Try.underlying31 rfl (by kernel_rfl), h5, h6]
set_option maxHeartbeats 800000 in
theorem next_any (k s z : Int) (v : Value) (K : Nat → Prop) (l : List Int) (w : World) (h : Sl w K v (l.map iv)) (hl : l.length ≤ 1000000) (hK : ∀ q, K q → q < w.heap.size) :
    Calls Try.prog 13 #[.agg #[.int .u8 k, .int .u32 s, .int .i64 z], v] w (NextPost k s z (pickK k s z l) w) := by
  obtain ⟨A, n, c, rfl, hn, hc, hm, hx⟩ := id h
  rw [List.length_map] at hn
  have HH := Lib.hid (And.intro h (And.intro hl hK))
  clear h hl hK hx hn
  go_enter Try.func13, Try.ntmps13
  go_wp2_with fail
  have hF : Frm (fun _ => False) w (((w.alloc (.cells #[.int .u8 k, .int .u32 s, .int .i64 z] 31)).alloc (.cells #[.int .u8 0, .int .u32 0, .int .i64 0] 31)).alloc (.cells #[.int .u8 k, .int .u32 s, .int .i64 z] 47)) := (((Frm.refl _ w).alloc _).alloc _).alloc _
  have hO : PlanAt (((w.alloc (.cells #[.int .u8 k, .int .u32 s, .int .i64 z] 31)).alloc (.cells #[.int .u8 0, .int .u32 0, .int .i64 0] 31)).alloc (.cells #[.int .u8 k, .int .u32 s, .int .i64 z] 47)) (w.heap.size + 1) 31 0 0 0 := by
    have := (Blk.new (w.alloc (.cells #[.int .u8 k, .int .u32 s, .int .i64 z] 31)) 31 #[.int .u8 0, .int .u32 0, .int .i64 0]).alloc (.cells #[.int .u8 k, .int .u32 s, .int .i64 z] 47)
    rwa [World.size_alloc] at this
  have hP : PlanAt (((w.alloc (.cells #[.int .u8 k, .int .u32 s, .int .i64 z] 31)).alloc (.cells #[.int .u8 0, .int .u32 0, .int .i64 0] 31)).alloc (.cells #[.int .u8 k, .int .u32 s, .int .i64 z] 47)) (w.heap.size + 1 + 1) 47 k s z := by
    have := Blk.new ((w.alloc (.cells #[.int .u8 k, .int .u32 s, .int .i64 z] 31)).alloc (.cells #[.int .u8 0, .int .u32 0, .int .i64 0] 31)) 47 #[.int .u8 k, .int .u32 s, .int .i64 z]
    rwa [World.size_alloc, World.size_alloc] at this
  generalize (((w.alloc (.cells #[.int .u8 k, .int .u32 s, .int .i64 z] 31)).alloc (.cells #[.int .u8 0, .int .u32 0, .int .i64 0] 31)).alloc (.cells #[.int .u8 k, .int .u32 s, .int .i64 z] 47)) = w3 at *
  have H3 := Lib.hid (And.intro hF (And.intro hO hP))
  clear hF hO hP
  refine (pick_any (w.heap.size + 1 + 1) 47 _ K l k s z w3 (HH.out.1.kept fun q hq => H3.out.1.block q (HH.out.2.2 q hq) id) HH.out.2.1 (fun q hq => by have := HH.out.2.2 q hq; omega) H3.out.2.2).mono ?_
  have HW : Hid (∃ B, B = w.heap.size) := ⟨_, rfl⟩
  obtain ⟨B, hB⟩ := HW.out
  have HB := Lib.hid hB
  rw [← hB]
  rw [← hB] at H3
  clear hB HW
  generalize pickK k s z l = o at *
  cases o with
  | none =>
    rintro e w' ⟨rfl, rfl⟩
    obtain ⟨d0, d1, d2, -, -⟩ := H3.out.2.2.cells
    obtain ⟨e0, e1, e2, f1, f2⟩ := H3.out.2.1.cells
    have f0 := Blk.frozen H3.out.2.1 0
    go_wp2_with fail
    refine bodyPost_ret (next_ret (H3.out.2.1.stored _ _ _) rfl rfl rfl) rfl ?_
    exact ⟨rfl, ((H3.out.1.setCell ⟨B + 1, 0, none⟩ (.inr (by have := HB.out; simp; omega)) _).setCell ⟨B + 1, 1, none⟩ (.inr (by have := HB.out; simp; omega)) _).setCell ⟨B + 1, 2, none⟩ (.inr (by have := HB.out; simp; omega)) _⟩
  | some p =>
    obtain ⟨x, s'⟩ := p
    rintro e w4 ⟨rfl, hP4, hF4⟩
    have hO4 : PlanAt w4 (B + 1) 31 0 0 0 := Blk.kept H3.out.2.1 hF4 (by omega)
    have H4 := Lib.hid (H3.out.1.trans hF4 fun q hq => .inr (by have := HB.out; omega))
    obtain ⟨d0, d1, d2, -, -⟩ := hP4.cells
    obtain ⟨e0, e1, e2, f1, f2⟩ := hO4.cells
    have f0 := Blk.frozen hO4 0
    have HO4 := Lib.hid hO4
    clear hP4 hF4 hO4
    go_wp2_with fail
    refine bodyPost_ret (next_ret (HO4.out.stored _ _ _) rfl rfl rfl) rfl ?_
    exact ⟨rfl, ((H4.out.setCell ⟨B + 1, 0, none⟩ (.inr (by have := HB.out; simp; omega)) _).setCell ⟨B + 1, 1, none⟩ (.inr (by have := HB.out; simp; omega)) _).setCell ⟨B + 1, 2, none⟩ (.inr (by have := HB.out; simp; omega)) _⟩
end Go.Proofs.Ytfclpggbcmbcjaa
