/- The walks of teaselref22. -/
import Derived.Test.YtcdhdpocnjmkmaaLib
import Derived.Deep.DeepCutAuto
import Derived.Deep.CutBlock
namespace Go.Proofs.Ytcdhdpocnjmkmaa
open Go.RowKit
theorem infoT : (Try.prog.info? 62).map (fun i => (i.zero, i.size)) = some (some (.agg #[.int .i64 0, .int .i64 0]), 2) := by kernel_rfl
theorem bytesT : (Try.prog.info? 62).map (fun i => i.bytes) = some 16 := by kernel_rfl
theorem infoT' : ∃ i, Try.prog.info? 62 = some i ∧ i.zero = some (.agg #[.int .i64 0, .int .i64 0]) ∧ i.size = 2 ∧ i.bytes = 16 := by
  have h := infoT
  have h' := bytesT
  cases hh : Try.prog.info? 62 with
  | none => rw [hh] at h; cases h
  | some i => rw [hh] at h h'; simp at h h'; exact ⟨i, rfl, h.1, h.2, h'⟩
/-- The cells of things. -/
def flat (l : List (Int × Int)) : List Value := l.flatMap fun p => [.int .i64 p.1, .int .i64 p.2]
@[simp] theorem flat_nil : flat [] = [] := rfl
theorem flat_cons (p : Int × Int) (l : List (Int × Int)) : flat (p :: l) = .int .i64 p.1 :: .int .i64 p.2 :: flat l := rfl
theorem flat_length (l : List (Int × Int)) : (flat l).length = l.length * 2 := by
  induction l with
  | nil => rfl
  | cons p l ih => rw [flat_cons]; simp [ih]; omega
theorem flat_append (a b : List (Int × Int)) : flat (a ++ b) = flat a ++ flat b := by simp [flat]
theorem flat_one (l : List (Int × Int)) : ∀ u ∈ flat l, u.oneCell' = true := by
  intro u hu
  simp [flat] at hu
  obtain ⟨a, b, _, rfl | rfl⟩ := hu <;> rfl
theorem flat_at0 (l : List (Int × Int)) (k : Nat) (h : k < l.length) : (flat l)[k * 2]? = some (.int .i64 l[k].1) := by
  induction l generalizing k with
  | nil => simp at h
  | cons p l ih =>
    cases k with
    | zero => rfl
    | succ k =>
      rw [flat_cons, show (k + 1) * 2 = k * 2 + 1 + 1 from by omega, List.getElem?_cons_succ, List.getElem?_cons_succ]
      exact ih k (by simpa using h)
theorem flat_at1 (l : List (Int × Int)) (k : Nat) (h : k < l.length) : (flat l)[k * 2 + 1]? = some (.int .i64 l[k].2) := by
  induction l generalizing k with
  | nil => simp at h
  | cons p l ih =>
    cases k with
    | zero => rfl
    | succ k =>
      rw [flat_cons, show (k + 1) * 2 + 1 = k * 2 + 1 + 1 + 1 from by omega, List.getElem?_cons_succ, List.getElem?_cons_succ]
      exact ih k (by simpa using h)
/-- The reference's ring: its block b, its room, the next number, its things; these in blocks from E on. -/
def RefAt (w : World) (E b m next : Nat) (l : List (Int × Int)) : Prop :=
  ∃ v, Blk w b 32 #[.int .i64 m, .int .i64 next, v] ∧ b < E ∧ E ≤ w.heap.size ∧ SlZ w (fun k => E ≤ k ∧ k < w.heap.size) 2 v (flat l) ∧ l.length ≤ 1000 ∧ m ≤ 16 ∧ next ≤ 1000000
section
variable {w w' : World} {E b m next : Nat} {l : List (Int × Int)}
theorem RefAt.kept {K : Nat → Prop} (h : RefAt w E b m next l) (hF : Frm K w w') (hb : ¬ K b) (hE : ∀ k, E ≤ k → k < w.heap.size → ¬ K k) : RefAt w' E b m next l := by
  obtain ⟨v, h1, h2, h3, h4, h5, h6, h7⟩ := h
  have := hF.size
  exact ⟨v, h1.kept hF hb, h2, by omega, h4.keptTo fun k hk => ⟨hF.block k hk.2 (hE k hk.1 hk.2), hk.1, by omega⟩, h5, h6, h7⟩
theorem RefAt.sl (h : RefAt w E b m next l) : ∃ A n c, w.cell? ⟨b, 0, none⟩ = some (.int .i64 m) ∧ w.cell? ⟨b, 1, none⟩ = some (.int .i64 next) ∧ w.cell? ⟨b, 2, none⟩ = some (.slice A n c) ∧ n = l.length ∧ n ≤ c ∧ c ≤ 9223372036854775807 ∧ n ≤ 1000 ∧ m ≤ 16 ∧ next ≤ 1000000 ∧
    SlZ w (fun k => E ≤ k ∧ k < w.heap.size) 2 (.slice A n c) (flat l) ∧
    (n = 0 ∨ ∃ g o, A = some ⟨g, o, none⟩ ∧ b ≠ g ∧ ∀ k (h : k < l.length), w.cell? ⟨g, o + k * 2, none⟩ = some (.int .i64 l[k].1) ∧ w.cell? ⟨g, o + k * 2 + 1, none⟩ = some (.int .i64 l[k].2)) := by
  obtain ⟨v, h1, h2, h3, h4, h5, h6, h7⟩ := h
  obtain ⟨A, n, c, rfl, hn, hc, hm, hx⟩ := id h4
  rw [flat_length] at hn
  refine ⟨A, n, c, h1.cell 0, h1.cell 1, h1.cell 2, by omega, hc, hm, by omega, h6, h7, h4, hx.imp id ?_⟩
  rintro ⟨g, o, rfl, hK, hx⟩
  refine ⟨g, o, rfl, by omega, fun k hk => ?_⟩
  have f0 := flat_at0 l k hk
  have f1 := flat_at1 l k hk
  obtain ⟨p0, q0⟩ := List.getElem?_eq_some_iff.1 f0
  obtain ⟨p1, q1⟩ := List.getElem?_eq_some_iff.1 f1
  exact ⟨by rw [hx (k * 2) p0, q0], by rw [Nat.add_assoc, hx (k * 2 + 1) p1, q1]⟩
theorem RefAt.blk (h : RefAt w E b m next l) : ∃ v, Blk w b 32 #[.int .i64 m, .int .i64 next, v] ∧ b < E ∧ E ≤ w.heap.size := by
  obtain ⟨v, h1, h2, h3, _⟩ := h
  exact ⟨v, h1, h2, h3⟩
end
def AdmitR (m next : Nat) (n : Int) : Bool := decide ((next : Int) ≤ n ∧ n < next + m)
def QPost (v : Value) (w : World) (e : Ending) (w' : World) : Prop := e = .returned v ∧ ∃ k, w' = w.drewN k
theorem may_any (n : Int) (w : World) : Calls Try.prog 8 #[.int .i64 n] w fun e w' => e = .returned (.bool (decide (1 ≤ n ∧ n ≤ 16))) ∧ w = w' := by
  by_cases h : 1 ≤ n
  · have hd : decide (1 ≤ n ∧ n ≤ 16) = decide (n ≤ 16) := by rw [decide_eq_decide]; omega
    rw [hd]; clear hd
    go_enter Try.func8, Try.ntmps8
    go_wp2
    go_ret
    exact ⟨rfl, rfl⟩
  · have hd : decide (1 ≤ n ∧ n ≤ 16) = false := by simp; omega
    rw [hd]; clear hd
    go_enter Try.func8, Try.ntmps8
    go_wp2
    go_ret
    exact ⟨rfl, rfl⟩
theorem radmits_any (E b m next : Nat) (l : List (Int × Int)) (n : Int) (w : World) (h : RefAt w E b m next l) (_ : n ≤ 9223372036854775807) :
    Calls Try.prog 10 #[.pointer (some ⟨b, 0, none⟩), .int .i64 n] w (QPost (.bool (AdmitR m next n)) w) := by
  obtain ⟨A, N, c, hc0, hc1, _, _, _, _, _, hm, hnx, _⟩ := h.sl
  clear h
  by_cases h1 : n < next
  · have hd : decide ((next : Int) ≤ n) = false := by simp; omega
    have hA : AdmitR m next n = false := by unfold AdmitR; simp; omega
    rw [hA]
    clear hA
    go_enter Try.func10, Try.ntmps10
    go_wp2
    go_quiet (fail)
    go_wp2
    go_ret
    exact ⟨rfl, nq, rfl⟩
  · have hd : decide ((next : Int) ≤ n) = true := by simp; omega
    have hA : AdmitR m next n = decide (n ≤ (next : Int) + (m : Int) - 1) := by unfold AdmitR; rw [decide_eq_decide]; omega
    rw [hA]
    have H1 : IntKind.i64.wrap ((next : Int) + (m : Int)) = (next : Int) + (m : Int) := IntWalk.i64_in _ (by omega)
    have H2 : IntKind.i64.wrap ((next : Int) + (m : Int) - 1) = (next : Int) + (m : Int) - 1 := IntWalk.i64_in _ (by omega)
    clear hA
    go_enter Try.func10, Try.ntmps10
    go_wp2
    go_quiet (fail)
    go_wp2
    go_ret
    exact ⟨rfl, nq, rfl⟩
theorem rclear_any (E b m next : Nat) (l : List (Int × Int)) (w : World) (h : RefAt w E b m next l) :
    Calls Try.prog 16 #[.pointer (some ⟨b, 0, none⟩)] w fun e w' => e = .returned (.int .i64 l.length) ∧ RefAt w' E b m next [] ∧ Frm (fun k => k = b) w w' := by
  obtain ⟨A, N, c, hc0, hc1, hc2, hN, _, _, hN1, hm, hnx, _⟩ := h.sl
  obtain ⟨v, hb, hbE, hE⟩ := h.blk
  have hf2 := hb.frozen 2
  have H := Lib.hid (And.intro hb hN)
  clear h hb hN
  go_enter Try.func16, Try.ntmps16
  go_wp2
  go_ret
  obtain ⟨hb, hN⟩ := H.out
  subst hN
  exact ⟨rfl, ⟨_, hb.set_ 2 _, hbE, by simpa using hE, SlZ.nil _ _ _, by simp, hm, hnx⟩, (Frm.refl (fun k => k = b) w).setCell ⟨b, 2, none⟩ (.inl rfl) _⟩
def RTakePost (E b m next : Nat) (l : List (Int × Int)) (x : Int) (w : World) (e : Ending) (w' : World) : Prop :=
  e = .returned (.tuple #[.int .i64 x, .bool true]) ∧ RefAt w' E b m (next + 1) l ∧ Frm (fun k => k = b) w w'
theorem rtake_no (E b m next : Nat) (l : List (Int × Int)) (w : World) (h : RefAt w E b m next l) (hl : ∀ p, l.head? = some p → p.1 ≠ next) :
    Calls Try.prog 14 #[.pointer (some ⟨b, 0, none⟩)] w (QPost (.tuple #[.int .i64 0, .bool false]) w) := by
  obtain ⟨A, N, c, hc0, hc1, hc2, hN, _, _, hN1, hm, hnx, _, hx⟩ := h.sl
  clear h
  cases l with
  | nil =>
    have : N = 0 := by simpa using hN
    clear hx hN
    subst this
    go_enter Try.func14, Try.ntmps14
    go_wp2
    go_quiet (fail)
    go_wp2
    go_ret2
    exact ⟨rfl, nq, rfl⟩
  | cons p l =>
    have hN0 : 0 < N := by rw [hN]; simp
    have hNz : ((N : Int) == 0) = false := by simp; omega
    obtain ⟨g, o, rfl, hne, hx⟩ := hx.resolve_left (by omega)
    have hx0 := (hx 0 (by simp)).1
    simp only [Nat.zero_mul, Nat.add_zero, List.getElem_cons_zero] at hx0
    have hp : (p.1 != (next : Int)) = true := by simpa using hl p rfl
    clear hx hN hl
    go_enter Try.func14, Try.ntmps14
    go_wp2
    go_quiet (fail)
    go_wp2
    go_ret2
    exact ⟨rfl, nq, rfl⟩
theorem SlZ.tail2 {w : World} {K : Nat → Prop} {g o N c : Nat} {p : Int × Int} {l : List (Int × Int)} {A' : Option Addr} (h : SlZ w K 2 (.slice (some ⟨g, o, none⟩) N c) (flat (p :: l))) (hA : c = 1 ∨ A' = some ⟨g, o + 2, none⟩) :
    SlZ w K 2 (.slice A' (N - 1) (c - 1)) (flat l) := by
  obtain ⟨A, n, c', hv, hn, hc, hm, hx⟩ := h
  cases hv
  rw [flat_length, List.length_cons] at hn
  refine ⟨A', N - 1, c - 1, rfl, by rw [flat_length]; omega, by omega, by omega, ?_⟩
  rcases hA with rfl | rfl
  · exact .inl (by omega)
  · obtain ⟨g', o', hv, hK, hx⟩ := hx.resolve_left (by omega)
    cases hv
    refine .inr ⟨g, o + 2, rfl, hK, fun i hi => ?_⟩
    have := hx (i + 2) (by rw [flat_cons]; simp; omega)
    rw [show o + 2 + i = o + (i + 2) from by omega, this]
    simp [flat_cons]
theorem rtake_fin {w : World} {E b m next : Nat} {x : Int} {l : List (Int × Int)} {v u : Value} (h : RefAt w E b m next (((next : Int), x) :: l)) (hb : Blk w b 32 #[.int .i64 m, .int .i64 next, v]) (hnx1 : next < 1000000)
    (hsl : SlZ w (fun k => E ≤ k ∧ k < w.heap.size) 2 u (flat l)) (nq : Nat) : RefAt (((w.drewN nq).setCell ⟨b, 2, none⟩ u).setCell ⟨b, 1, none⟩ (.int .i64 ((next : Int) + 1))) E b m (next + 1) l := by
  obtain ⟨v', h1, h2, h3, h4, h5, h6, h7⟩ := h
  have hb0 : Blk (w.drewN nq) b 32 #[.int .i64 m, .int .i64 next, v] := hb
  refine ⟨u, (hb0.set_ 2 u).set_ 1 _, h2, by simpa using h3, (hsl.keptTo (w' := w.drewN nq) (K' := fun k => E ≤ k ∧ k < w.heap.size) fun k hk => ⟨rfl, hk⟩).keptTo fun k hk => ⟨?_, by simpa using hk⟩, by simp at h5; omega, h6, by omega⟩
  rw [Below.heap_setCell _ _ _ _ (show k ≠ b by omega), Below.heap_setCell _ _ _ _ (show k ≠ b by omega)]
theorem rtake_frm {w : World} {b : Nat} {u u' : Value} (nq : Nat) : Frm (fun k => k = b) w (((w.drewN nq).setCell ⟨b, 2, none⟩ u).setCell ⟨b, 1, none⟩ u') :=
  ((((Frm.refl (fun k => k = b) w).drewN nq).setCell ⟨b, 2, none⟩ (.inl rfl) u).setCell ⟨b, 1, none⟩ (.inl rfl) u')
set_option maxHeartbeats 400000 in
theorem rtake_ok (E b m next : Nat) (x : Int) (l : List (Int × Int)) (w : World) (h : RefAt w E b m next (((next : Int), x) :: l)) (hnx1 : next < 1000000) :
    Calls Try.prog 14 #[.pointer (some ⟨b, 0, none⟩)] w (RTakePost E b m next l x w) := by
  obtain ⟨A, N, c, hc0, hc1, hc2, hN, hNc, hcm, hN1, hm, hnx, hsl, hx⟩ := h.sl
  obtain ⟨v, hb, hbE, hE⟩ := h.blk
  have hN0 : 0 < N := by rw [hN]; simp
  have hNz : ((N : Int) == 0) = false := by simp; omega
  obtain ⟨g, o, rfl, hne, hx⟩ := hx.resolve_left (by omega)
  have hx0 := (hx 0 (by simp)).1
  have hx1 := (hx 0 (by simp)).2
  simp only [Nat.zero_mul, Nat.add_zero, List.getElem_cons_zero] at hx0 hx1
  have hf1 := hb.frozen 1
  have hf2 := hb.frozen 2
  have hz : ∀ w, (sizeOf 62).run Try.prog w = .ok 2 w := fun w => Try.sizeOf62 w
  have hcut : ∀ W, (Instr.slice 30 (.slice (some ⟨g, o, none⟩) N c) (some (.int .i64 1)) none none).run Try.prog W = .ok (.slice (if c = 1 then some ⟨g, o, none⟩ else some ⟨g, o + 2, none⟩) (N - 1) (c - 1)) W := fun W => by
    rw [run_drop Try.underlying30 hz _ N c 1 (by omega) (by omega) W]
    simp [Addr.add]
  have H := Lib.hid (And.intro h (And.intro hsl (And.intro hN hb)))
  clear h hsl hN hb hx
  go_enter Try.func14, Try.ntmps14
  go_wp2
  go_quiet (fail)
  go_wp2
  all_goals
    go_ret2
    obtain ⟨hRR, hsl, hN, hb⟩ := H.out
  · have hcc : c = 1 := by assumption
    subst hcc
    have hs2 : SlZ w (fun k => E ≤ k ∧ k < w.heap.size) 2 (.slice (some ⟨g, o, none⟩) (N - 1) 0) (flat l) := hsl.tail2 (.inl rfl)
    exact ⟨rfl, rtake_fin hRR hb hnx1 hs2 nq, rtake_frm nq⟩
  · have hs2 : SlZ w (fun k => E ≤ k ∧ k < w.heap.size) 2 (.slice (some ⟨g, o + 2, none⟩) (N - 1) (c - 1)) (flat l) := hsl.tail2 (.inr rfl)
    exact ⟨rfl, rtake_fin hRR hb hnx1 hs2 nq, rtake_frm nq⟩
theorem infoI' : (Try.prog.info? 3).map (fun i => (i.zero, i.size, i.bytes)) = some (some (.int .i64 0), 1, 8) := by kernel_rfl
def RNumsPost (xs : List Int) (w : World) (e : Ending) (w' : World) : Prop :=
  ∃ v, e = .returned v ∧ OSl w' (fun k => w.heap.size ≤ k) 3 v (xs.map iv) ∧ Frm (fun _ => False) w w'
def RNumsRel (w : World) (l : List (Int × Int)) (k : Nat) (t : Value) (wr : World) : Prop :=
  wr.ownsRow w.heap.size 3 1 t k (((l.take k).map (·.1)).map iv) ∧ Frm (fun _ => False) w wr
set_option maxHeartbeats 400000 in
theorem rnums_any (E b m next : Nat) (l : List (Int × Int)) (w : World) (h : RefAt w E b m next l) :
    Calls Try.prog 20 #[.pointer (some ⟨b, 0, none⟩)] w (RNumsPost (l.map (·.1)) w) := by
  obtain ⟨i0, hi, hz0, hz1, hz2⟩ := info_parts infoI'
  obtain ⟨A, N, c, _, _, hc2, hN, hNc, hcm, hN1, _, _, _, hx⟩ := h.sl
  have H := Lib.hid (And.intro hN hx)
  clear h hN hx
  go_enter Try.func20, Try.ntmps20
  go_wp2_with fail
  go_loopw [3, 4] (fun t i wr => ∃ k : Nat, k ≤ N ∧ i = .int .i64 k ∧ RNumsRel w l k t wr) (fun _ i _ => N - (intOf i).toNat)
  case atStart => exact ⟨0, Nat.zero_le _, rfl, World.ownsRow_nil _ _ _ _, Frm.refl _ _⟩
  case round =>
    obtain ⟨k, hk, rfl, hown, hF⟩ := hrel
    have hc2r : wr.cell? ⟨b, 2, none⟩ = some (.slice A N c) := hF.cell hc2 id
    by_cases hlt : k < N
    · obtain ⟨g, o, rfl, hne, hcs⟩ := H.out.2.resolve_left (by omega)
      have hkl : k < l.length := by have := H.out.1; omega
      have hcx : wr.cell? ⟨g, o + k * 2, none⟩ = some (.int .i64 l[k].1) := hF.cell (hcs k hkl).1 id
      have hts : ((l.take (k + 1)).map (·.1)).map iv = ((l.take k).map (·.1)).map iv ++ [iv l[k].1] := by
        rw [List.take_succ_eq_append_getElem hkl, List.map_append, List.map_append]; rfl
      have Ht := Lib.hid hts
      clear hcs hts
      simp only [iv] at Ht
      generalize l[k].1 = x at *
      have hz := hF.size
      go_wp2_with (at_builtin; refine wpList_append_sl (by rfl) _ _ 40 (by rfl) w.heap.size 3 i0 (.int .i64 0) 8 Try.underlying40 hi hz0 hz1 hz2 (by rfl) _ k _ (by rfl) (hown.alloc _) (fun q => q = wr.heap.size) _ [.int .i64 x] (by rfl) (Sl.blk1 wr _ _) (by simp [Value.oneCell']) (by unfold maxLen; simp; omega) (by simp; omega) (by simp; omega) ?_; intro A1 N1 c1 w1 HN hNc1 hc1 hown1 hg1 hat1)
      go_roundw
      case rel => exact ⟨k + 1, by omega, by go_num, by have := HN.out; simp only [List.length_singleton] at this; subst this; rw [Ht.out]; exact hown1, (hF.alloc _).grown hg1 fun q hq => .inr (hown.lt q hq).1⟩
      case measure => simp [intOf]; omega
    · obtain rfl : k = N := by omega
      rw [List.take_of_length_le (by have := H.out.1; omega)] at hown
      have Ho := Lib.hid hown
      clear hown
      go_wp2_with fail
      go_ret
      exact ⟨_, rfl, OSl.of_own Ho.out fun q hq => (Ho.out.lt q hq).1, hF⟩
/-- x put at n into sorted things. -/
def putL (l : List (Int × Int)) (n x : Int) : List (Int × Int) := l.takeWhile (fun p => p.1 < n) ++ (n, x) :: l.dropWhile (fun p => p.1 < n)
theorem putL_eq (n x : Int) : ∀ (l : List (Int × Int)) (k : Nat), k ≤ l.length → (∀ j (h : j < l.length), j < k → l[j].1 < n) → (∀ h : k < l.length, ¬ l[k].1 < n) → putL l n x = l.take k ++ (n, x) :: l.drop k := by
  intro l
  induction l with
  | nil => intro k hk _ _; obtain rfl : k = 0 := by simpa using hk
           rfl
  | cons p l ih =>
    intro k hk hlow hhigh
    cases k with
    | zero =>
      have h0 := hhigh (by simp)
      simp only [List.getElem_cons_zero] at h0
      simp [putL, List.takeWhile_cons, List.dropWhile_cons, h0]
    | succ k =>
      have h0 := hlow 0 (by simp) (by omega)
      simp only [List.getElem_cons_zero] at h0
      have := ih k (by simpa using hk) (fun j hj hjk => hlow (j + 1) (by simpa using hj) (by omega)) (fun h => hhigh (by simpa using h))
      unfold putL at this ⊢
      rw [List.takeWhile_cons, List.dropWhile_cons, if_pos (by simpa using h0), if_pos (by simpa using h0), List.cons_append, this]
      rfl
theorem SlZ.blk2 (w : World) (x y : Value) (t : TypeId) : SlZ (w.alloc (.cells #[x, y] t)) (fun k => k = w.heap.size) 2 (.slice (some ⟨w.heap.size, 0, none⟩) 1 1) [x, y] :=
  ⟨_, _, _, rfl, rfl, Nat.le_refl _, by omega, .inr ⟨_, 0, rfl, rfl, fun i hi => by
    have hc := fun i => cell_of_row _ w.heap.size i _ t (0, 0) (heap_alloc_new w (.cells #[x, y] t))
    rw [Nat.zero_add, hc i]
    simp [hi]⟩⟩
theorem SlZ.take2 {w : World} {K : Nat → Prop} {A : Option Addr} {N c k : Nat} {l : List (Int × Int)} (h : SlZ w K 2 (.slice A N c) (flat l)) (hk : k ≤ N) : SlZ w K 2 (.slice A k c) (flat (l.take k)) := by
  obtain ⟨A', n, c', hv, hn, hc, hm, hx⟩ := h
  cases hv
  rw [flat_length] at hn
  have hft : flat (l.take k) = (flat l).take (k * 2) := by
    have h1 : flat l = flat (l.take k) ++ flat (l.drop k) := by rw [← flat_append, List.take_append_drop]
    rw [h1, List.take_left' (by rw [flat_length, List.length_take]; omega)]
  refine ⟨A, k, c, rfl, by rw [flat_length, List.length_take]; omega, by omega, hm, ?_⟩
  by_cases hk0 : k = 0
  · exact .inl hk0
  · obtain ⟨g, o, rfl, hK, hx⟩ := hx.resolve_left (by omega)
    refine .inr ⟨g, o, rfl, hK, fun i hi => ?_⟩
    have hi' : i < (flat l).length := by rw [hft, List.length_take] at hi; omega
    rw [hx i hi']
    simp [hft]
theorem SlZ.drop2 {w : World} {K : Nat → Prop} {A : Option Addr} {N c k : Nat} {l : List (Int × Int)} (h : SlZ w K 2 (.slice A N c) (flat l)) (hk : k ≤ N) :
    SlZ w K 2 (.slice (if c = k then A else A.map (·.add (k * 2))) (N - k) (c - k)) (flat (l.drop k)) := by
  obtain ⟨A', n, c', hv, hn, hc, hm, hx⟩ := h
  cases hv
  rw [flat_length] at hn
  have hft : flat (l.drop k) = (flat l).drop (k * 2) := by
    have h1 : flat l = flat (l.take k) ++ flat (l.drop k) := by rw [← flat_append, List.take_append_drop]
    rw [h1, List.drop_left' (by rw [flat_length, List.length_take]; omega)]
  refine ⟨_, N - k, c - k, rfl, by rw [flat_length, List.length_drop]; omega, by omega, by omega, ?_⟩
  by_cases hk0 : N - k = 0
  · exact .inl hk0
  · obtain ⟨g, o, rfl, hK, hx⟩ := hx.resolve_left (by omega)
    rw [if_neg (by omega)]
    refine .inr ⟨g, o + k * 2, by simp only [Option.map_some, Addr.add]; split <;> simp_all, hK, fun i hi => ?_⟩
    have hi' : k * 2 + i < (flat l).length := by rw [hft, List.length_drop] at hi; omega
    rw [Nat.add_assoc, hx _ hi']
    simp [hft]
theorem rput_no (E b m next : Nat) (l : List (Int × Int)) (n x : Int) (w : World) (h : RefAt w E b m next l) (hn : n ≤ 9223372036854775807) (ha : AdmitR m next n = false) :
    Calls Try.prog 12 #[.pointer (some ⟨b, 0, none⟩), .int .i64 n, .int .i64 x] w (QPost (.bool false) w) := by
  have hA := radmits_any E b m next l n w h hn
  rw [ha] at hA
  have HA := Lib.hid hA
  clear h hA ha
  go_enter Try.func12, Try.ntmps12
  go_wp2_with fail
  refine HA.out.mono ?_
  rintro e w' ⟨rfl, k, rfl⟩
  go_wp2_with fail
  go_ret
  exact ⟨rfl, k, rfl⟩
def RPutPost (E b m next : Nat) (l : List (Int × Int)) (n x : Int) (w : World) (e : Ending) (w' : World) : Prop :=
  if ∃ p ∈ l, p.1 = n then e = .returned (.bool false) ∧ RefAt w' E b m next l ∧ Frm (fun k => k = b) w w'
  else e = .returned (.bool true) ∧ RefAt w' E b m next (putL l n x) ∧ Frm (fun k => k = b) w w'
set_option maxHeartbeats 1000000 in
set_option maxRecDepth 100000 in
theorem rput_any (E b m next : Nat) (l : List (Int × Int)) (n x : Int) (w : World) (h : RefAt w E b m next l) (hn : n ≤ 9223372036854775807) (hl : l.length < 1000) (hs : l.Pairwise fun p q => p.1 < q.1) (ha : AdmitR m next n = true) :
    Calls Try.prog 12 #[.pointer (some ⟨b, 0, none⟩), .int .i64 n, .int .i64 x] w (RPutPost E b m next l n x w) := by
  have hA := radmits_any E b m next l n w h hn
  rw [ha] at hA
  have HA := Lib.hid hA
  obtain ⟨A, N, c, _, _, hc2, hN, hNc, hcm, hN1, _, _, hsl, hx⟩ := h.sl
  obtain ⟨hbl, hfb⟩ : b < w.heap.size ∧ w.frozen? ⟨b, 2, none⟩ = false := by obtain ⟨v, hb, _⟩ := h.blk; exact ⟨hb.lt, hb.frozen 2⟩
  have H := Lib.hid (And.intro hN (And.intro hx (And.intro hsl (And.intro h hs))))
  clear h hA ha hN hx hsl hs
  go_enter Try.func12, Try.ntmps12
  go_wp2_with fail
  refine HA.out.mono ?_
  rintro e w' ⟨rfl, q, rfl⟩
  clear HA
  go_upto_block 0 with fail
  go_cut [7] (fun i wc => wc = w.drewN q ∧ ∃ k : Nat, k ≤ N ∧ i = .int .i64 k ∧ (∀ j (h : j < l.length), j < k → l[j].1 < n) ∧ (∀ h : k < l.length, n ≤ l[k].1))
  case first =>
    go_wp2_with fail
    go_loop [7] (fun i => ∃ k : Nat, k ≤ N ∧ i = .int .i64 k ∧ Hid (∀ j (h : j < l.length), j < k → l[j].1 < n)) (fun i => N - (intOf i).toNat)
    case atStart => exact ⟨0, Nat.zero_le _, rfl, fun j _ h => by omega⟩
    case round =>
      obtain ⟨k, hk, rfl, hlow⟩ := hrel
      by_cases hlt : k < N
      · obtain ⟨g, o, rfl, hne, hcs⟩ := H.out.2.1.resolve_left (by omega)
        have hkl : k < l.length := by have := H.out.1; omega
        have hcx : w.cell? ⟨g, o + k * 2, none⟩ = some (.int .i64 l[k].1) := (hcs k hkl).1
        clear hcs
        generalize hy : l[k].1 = y at *
        have Hy := Lib.hid hy
        clear hy
        by_cases hyn : y < n
        · go_wp2_with fail
          go_round
          case rel => exact ⟨k + 1, by omega, by go_num, fun j hj hjk => by
            by_cases h1 : j = k
            · subst h1; rw [Hy.out]; exact hyn
            · exact hlow.out j hj (by omega)⟩
          case measure => simp [intOf]; omega
        · go_wp2_with fail
          go_meet
          case rel => exact ⟨rfl, k, hk, rfl, hlow.out, fun _ => by rw [Hy.out]; omega⟩
      · obtain rfl : k = N := by omega
        go_wp2_with fail
        go_meet
        case rel => exact ⟨rfl, k, hk, rfl, hlow.out, fun h => by have := H.out.1; omega⟩
  case rest =>
    obtain ⟨rfl, k, hk, rfl, hlow, hhigh⟩ := hcut
    by_cases hex : ∃ h : k < l.length, l[k].1 = n
    · obtain ⟨hkl, hkn⟩ := hex
      have hpos : ∃ p ∈ l, p.1 = n := ⟨l[k], List.getElem_mem hkl, hkn⟩
      have hlt : k < N := by have := H.out.1; omega
      obtain ⟨g, o, rfl, hne, hcs⟩ := H.out.2.1.resolve_left (by omega)
      have hcx : w.cell? ⟨g, o + k * 2, none⟩ = some (.int .i64 n) := by rw [← hkn]; exact (hcs k hkl).1
      have hnn : (n == n) = true := by simp
      have Hp := Lib.hid hpos
      clear hcs hlow hhigh hkn hpos
      go_wp2_with fail
      go_ret
      unfold RPutPost
      rw [if_pos Hp.out]
      exact ⟨rfl, H.out.2.2.2.1.kept ((Frm.refl (fun _ => False) w).drewN q) id (fun _ _ _ => id), (Frm.refl _ w).drewN q⟩
    · have hneg : ¬ ∃ p ∈ l, p.1 = n := by
        rintro ⟨p, hp, hpn⟩
        obtain ⟨j, hj, rfl⟩ := List.getElem_of_mem hp
        rcases Nat.lt_trichotomy j k with h1 | h1 | h1
        · have := hlow j hj h1; omega
        · subst h1; exact hex ⟨hj, hpn⟩
        · have h2 := hhigh (by omega)
          have h3 := (List.pairwise_iff_getElem.1 H.out.2.2.2.2) k j (by omega) hj h1
          omega
      have hput : putL l n x = l.take k ++ (n, x) :: l.drop k := putL_eq n x l k (by have := H.out.1; omega) hlow (fun h => by have := hhigh h; omega)
      have hz : ∀ w, (sizeOf 62).run Try.prog w = .ok 2 w := fun w => Try.sizeOf62 w
      have hcut1 : ∀ W, (Instr.slice 30 (.slice A N c) none (some (.int .i64 k)) none).run Try.prog W = .ok (.slice A k c) W := fun W => by
        rw [run_take Try.underlying30 hz A N c k (by omega) (by omega) W]; simp
      have hcut2 : ∀ W, (Instr.slice 30 (.slice A N c) (some (.int .i64 k)) none none).run Try.prog W = .ok (.slice (if c = k then A else A.map (·.add (k * 2))) (N - k) (c - k)) W := fun W => by
        rw [run_drop Try.underlying30 hz A N c k (by omega) (by omega) W]; simp
      have hs1 := H.out.2.2.1.take2 hk
      have hs2 := H.out.2.2.1.drop2 hk
      have htest : ∀ t : Bool, (k < N → ∀ g o, A = some ⟨g, o, none⟩ → ∃ y, w.cell? ⟨g, o + k * 2, none⟩ = some (.int .i64 y) ∧ (y == n) = false) := fun _ hlt g o hA => by
        obtain ⟨g', o', hA', hne, hcs⟩ := H.out.2.1.resolve_left (by omega)
        rw [hA] at hA'; cases hA'
        have hkl : k < l.length := by have := H.out.1; omega
        exact ⟨l[k].1, (hcs k hkl).1, by simp only [beq_eq_false_iff_ne]; intro e; exact hex ⟨hkl, e⟩⟩
      have Hi := Lib.hid (And.intro hneg (And.intro hput (And.intro hcut1 (And.intro hcut2 (And.intro hs1 hs2)))))
      have Ht := Lib.hid htest
      clear hlow hhigh hex hneg hput hz hcut1 hcut2 hs1 hs2 htest
      go_upto_region 6 with fail
      go_cut [52] (fun t wc => wc = w.drewN q ∧ t = .bool false)
      case first =>
        by_cases hlt : k < N
        · obtain ⟨g, o, rfl, hne, hcs⟩ := H.out.2.1.resolve_left (by omega)
          obtain ⟨y, hy, hyn⟩ := Ht.out true hlt g o rfl
          clear hcs
          go_wp2_with fail
          go_meet
          case rel => exact ⟨rfl, rfl⟩
        · go_wp2_with fail
          go_meet
          case rel => exact ⟨rfl, rfl⟩
      case rest =>
        obtain ⟨rfl, rfl⟩ := hcut
        clear Ht
        obtain ⟨i0, hi, hz0, hz1, hz2⟩ := infoT'
        have hcut1 := Hi.out.2.2.1
        have hcut2 := Hi.out.2.2.2.1
        go_wp2_with (first
          | (at_builtin; refine wpList_append_slz (by rfl) (.tmp 53) (.tmp 59) 30 (by rfl) w.heap.size 62 i0 _ 2 16 Try.underlying30 hi hz0 hz1 hz2 (by rfl) (by decide) _ 0 [] (by rfl) (World.ownsRow_nil _ _ _ _) (fun k => E ≤ k ∧ k < w.heap.size) _ k (flat (l.take k)) (by rfl) (by exact Hi.out.2.2.2.2.1.keptTo fun _ h => ⟨rfl, h⟩) (by rw [flat_length, List.length_take]; have := H.out.1; omega) (flat_one _) (by unfold maxLen; omega) (by omega) (by exact Nat.le_refl _) ?_; intro A1 N1 c1 w1 HN1 hNc1 hcm1 hown1 hg1 hat1; have hF1 := ((Frm.refl (fun _ => False) w).drewN q).grown hg1 (fun k hk => by cases hk); have hz1' := hF1.size; have hN1k : N1 ≤ 1000 := (by have := HN1.out; omega))
          | (at_builtin; refine wpList_append_slz (by rfl) (.tmp 61) (.tmp 65) 30 (by rfl) w.heap.size 62 i0 _ 2 16 Try.underlying30 hi hz0 hz1 hz2 (by rfl) (by decide) _ N1 _ (by rfl) (hown1.alloc _) (fun k => k = w1.heap.size) _ 1 [.int .i64 n, .int .i64 x] (by rfl) (by exact SlZ.blk2 w1 _ _ _) (by rfl) (by simp [Value.oneCell']) (by unfold maxLen; omega) (by omega) (by simp; omega) ?_; intro A2 N2 c2 w2 HN2 hNc2 hcm2 hown2 hg2 hat2; have hF2 := (hF1.alloc _).grown hg2 (fun k hk => .inr (hown1.lt k hk).1); have hz2' := hF2.size; have hc2r := hF2.cell hc2 id; have hN2k : N2 ≤ 1001 := (by have := HN2.out; omega))
          | (at_builtin; refine wpList_append_slz (by rfl) (.tmp 68) (.tmp 74) 30 (by rfl) w.heap.size 62 i0 _ 2 16 Try.underlying30 hi hz0 hz1 hz2 (by rfl) (by decide) _ N2 _ (by rfl) hown2 (fun k => E ≤ k ∧ k < w.heap.size) _ (N - k) (flat (l.drop k)) (by rfl) (by exact Hi.out.2.2.2.2.2.keptTo fun k h => ⟨hF2.block k h.2 id, h⟩) (by rw [flat_length, List.length_drop]; have := H.out.1; omega) (flat_one _) (by unfold maxLen; omega) (by omega) hz2' ?_; intro A3 N3 c3 w3 HN3 hNc3 hcm3 hown3 hg3 hat3; have hF3 := hF2.grown hg3 (fun k hk => .inr (hown2.lt k hk).1); have hc2s := hF3.cell hc2 id; have hf2s := (hF3.frozen (a := ⟨b, 2, none⟩) (by exact hbl) id).trans hfb))
        all_goals
          go_ret
          unfold RPutPost
          rw [if_neg Hi.out.1]
          obtain ⟨v, hb, hbE, hE⟩ := H.out.2.2.2.1.blk
          have hput := Hi.out.2.1
          have hcat : flat (l.take k) ++ [.int .i64 n, .int .i64 x] ++ flat (l.drop k) = flat (putL l n x) := by
            rw [hput, flat_append, flat_cons, List.append_assoc]; rfl
          have hlen : (putL l n x).length ≤ 1000 := by rw [hput]; simp; have := H.out.1; omega
          have hs3 := hF3.size
          obtain ⟨_, _, _, _, _, _, hm16, hnx6⟩ := H.out.2.2.2.1
          refine ⟨rfl, ⟨_, (hb.kept hF3 id).set_ 2 _, hbE, by simp; omega, ?_, hlen, hm16, hnx6⟩, (hF3.mono (K' := fun k => k = b) (fun _ h => h.elim)).setCell ⟨b, 2, none⟩ (.inl rfl) _⟩
          rw [← hcat]
          refine (SlZ.of_own (K := fun k => w.heap.size ≤ k ∧ k < w3.heap.size) (by simpa using hown3) (fun g hg => hown3.lt g hg)).keptTo fun g hg => ⟨Below.heap_setCell _ _ _ _ (show g ≠ b by omega), by simp; omega⟩
end Go.Proofs.Ytcdhdpocnjmkmaa
