/- The walk of chore.Same. -/
import Derived.Deep.DeepCutAuto
import Derived.Test.YtnibllkcacalhaaGA
namespace Go.Proofs.Ytnibllkcacalhaa
set_option maxRecDepth 100000
open Go.RowKit
theorem ch_eq (x y : Ch) : (x = y) ↔ x.at_ = y.at_ ∧ x.sum = y.sum ∧ x.wrong = y.wrong ∧ x.row = y.row := by
  cases x; cases y; simp; constructor <;> (rintro ⟨a, b, c, d⟩; simp [a, b, c, d])
theorem pi_eq (x y : Pi) : (x = y) ↔ x.room = y.room ∧ x.closed = y.closed ∧ x.ins = y.ins := by
  cases x; cases y; simp; intros; constructor <;> (rintro ⟨a, b⟩; simp [a, b])
/-- Two boxes, one behind the other. -/
theorem two_boxes (w W0 : World) (g : Nat) (t t' : TypeId) (cs cs' : Array Value) (hg : g = w.heap.size) (hW : W0 = (w.alloc (.cells cs t)).alloc (.cells cs' t')) :
    Frm (fun _ => False) w W0 ∧ Blk W0 g t cs ∧ Blk W0 (g + 1) t' cs' := by
  subst hg hW
  refine ⟨((Frm.refl _ w).alloc _).alloc _, (Blk.new w _ _).alloc _, ?_⟩
  have := Blk.new (w.alloc (.cells cs t)) t' cs'
  rwa [World.size_alloc] at this
def ChSame (x y : Ch) (w : World) (e : Ending) (w' : World) : Prop := e = .returned (.bool (decide (x = y))) ∧ Frm (fun _ => False) w w'
theorem ret_b {a b : Bool} (h : a = b) : Ending.returned (.bool a) = .returned (.bool b) := by rw [h]
set_option maxHeartbeats 1600000 in
theorem csame_any (K : Nat → Prop) (A : Option Addr) (n c : Nat) (a s r : Int) (es : List Er) (A' : Option Addr) (n' c' : Nat) (a' s' r' : Int) (fs : List Er) (w : World) (h : RAt w K (.slice A n c) es) (h' : RAt w K (.slice A' n' c') fs) (hK : ∀ q, K q → q < w.heap.size) :
    Calls Try.prog 51 #[.agg #[.slice A n c, .int .i64 a, .int .u32 s, .int .i64 r], .agg #[.slice A' n' c', .int .i64 a', .int .u32 s', .int .i64 r']] w (ChSame ⟨es, a, s, r⟩ ⟨fs, a', s', r'⟩ w) := by
  obtain ⟨gc, hgc⟩ : ∃ g, g = w.heap.size := ⟨_, rfl⟩
  obtain ⟨W0, hW0⟩ : ∃ W, W = (w.alloc (.cells #[.slice A n c, .int .i64 a, .int .u32 s, .int .i64 r] 46)).alloc (.cells #[.slice A' n' c', .int .i64 a', .int .u32 s', .int .i64 r'] 46) := ⟨_, rfl⟩
  obtain ⟨hF, hb1, hb2⟩ := two_boxes w W0 gc _ _ _ _ hgc hW0
  have he := equal_e K K _ _ es fs W0 (h.keptTo fun q hq => ⟨hF.block q (hK q hq) id, hq⟩) (h'.keptTo fun q hq => ⟨hF.block q (hK q hq) id, hq⟩)
  unfold EqPost at he
  have HD : Hid (∀ b : Bool, (b = true ↔ a = a' ∧ s = s' ∧ r = r' ∧ es = fs) → b = decide ((⟨es, a, s, r⟩ : Ch) = ⟨fs, a', s', r'⟩)) := Lib.hid fun b hb => by
    rw [Bool.eq_iff_iff, hb, decide_eq_true_iff, ch_eq]
  obtain ⟨z, hz⟩ : ∃ z, z = decide (es = fs) := ⟨_, rfl⟩
  rw [← hz] at he
  have HE := Lib.hid he
  have HZ := Lib.hid hz
  have HF := Lib.hid hF
  have p0 : W0.cell? ⟨gc, 0, none⟩ = some (.slice A n c) := hb1.cell 0
  have p1 : W0.cell? ⟨gc, 1, none⟩ = some (.int .i64 a) := hb1.cell 1
  have p2 : W0.cell? ⟨gc, 2, none⟩ = some (.int .u32 s) := hb1.cell 2
  have p3 : W0.cell? ⟨gc, 3, none⟩ = some (.int .i64 r) := hb1.cell 3
  have q0 : W0.cell? ⟨gc + 1, 0, none⟩ = some (.slice A' n' c') := hb2.cell 0
  have q1 : W0.cell? ⟨gc + 1, 1, none⟩ = some (.int .i64 a') := hb2.cell 1
  have q2 : W0.cell? ⟨gc + 1, 2, none⟩ = some (.int .u32 s') := hb2.cell 2
  have q3 : W0.cell? ⟨gc + 1, 3, none⟩ = some (.int .i64 r') := hb2.cell 3
  clear he hz hF hb1 hb2 h h' hK
  go_enter Try.func51, Try.ntmps51
  go_upto_region 1 with fail
  rw [← hgc, ← hW0]
  clear hgc hW0
  unfold ChSame
  by_cases h1 : a = a'
  · have g1 : (a == a') = true := by simpa using h1
    by_cases h2 : s = s'
    · have g2 : (s == s') = true := by simpa using h2
      by_cases h3 : r = r'
      · have g3 : (r == r') = true := by simpa using h3
        have H3 := Lib.hid (And.intro h1 (And.intro h2 h3))
        clear h1 h2 h3
        go_wp2_with fail
        refine HE.out.mono ?_
        rintro e w' ⟨rfl, nq, rfl⟩
        go_wp2_with fail
        go_ret
        exact ⟨ret_b (HD.out _ (by rw [HZ.out, decide_eq_true_iff]; obtain ⟨a, b, c⟩ := H3.out; simp [a, b, c])), HF.out.drewN _⟩
      · have g3 : (r == r') = false := by simpa using h3
        have H3 := Lib.hid h3
        clear h1 h2 h3
        go_wp2_with fail
        go_ret
        exact ⟨ret_b (HD.out false (by simp; intro _ _ h; exact absurd h H3.out)), HF.out⟩
    · have g2 : (s == s') = false := by simpa using h2
      have H3 := Lib.hid h2
      clear h1 h2
      go_wp2_with fail
      go_ret
      exact ⟨ret_b (HD.out false (by simp; intro _ h; exact absurd h H3.out)), HF.out⟩
  · have g1 : (a == a') = false := by simpa using h1
    have H3 := Lib.hid h1
    clear h1
    go_wp2_with fail
    go_ret
    exact ⟨ret_b (HD.out false (by simp; intro h; exact absurd h H3.out)), HF.out⟩
def pVal (v : Value) (p : Pi) : Value := .agg #[.int .i64 p.room, v, .bool p.closed]
def PiSame (x y : Pi) (w : World) (e : Ending) (w' : World) : Prop := e = .returned (.bool (decide (x = y))) ∧ Frm (fun _ => False) w w'
set_option maxHeartbeats 1600000 in
theorem psame_any (K : Nat → Prop) (A : Option Addr) (n c : Nat) (r : Int) (b : Bool) (xs : List Int) (A' : Option Addr) (n' c' : Nat) (r' : Int) (b' : Bool) (ys : List Int) (w : World) (h : Sl w K (.slice A n c) (uv xs)) (h' : Sl w K (.slice A' n' c') (uv ys)) (hK : ∀ q, K q → q < w.heap.size) :
    Calls Try.prog 68 #[.agg #[.int .i64 r, .slice A n c, .bool b], .agg #[.int .i64 r', .slice A' n' c', .bool b']] w (PiSame ⟨r, xs, b⟩ ⟨r', ys, b'⟩ w) := by
  obtain ⟨gc, hgc⟩ : ∃ g, g = w.heap.size := ⟨_, rfl⟩
  obtain ⟨W0, hW0⟩ : ∃ W, W = (w.alloc (.cells #[.int .i64 r, .slice A n c, .bool b] 52)).alloc (.cells #[.int .i64 r', .slice A' n' c', .bool b'] 52) := ⟨_, rfl⟩
  obtain ⟨hF, hb1, hb2⟩ := two_boxes w W0 gc _ _ _ _ hgc hW0
  have he := equal_u K K _ _ xs ys W0 (h.kept fun q hq => hF.block q (hK q hq) id) (h'.kept fun q hq => hF.block q (hK q hq) id)
  unfold EqPost at he
  have HD : Hid (∀ z : Bool, (z = true ↔ r = r' ∧ b = b' ∧ xs = ys) → z = decide ((⟨r, xs, b⟩ : Pi) = ⟨r', ys, b'⟩)) := Lib.hid fun z hz => by
    rw [Bool.eq_iff_iff, hz, decide_eq_true_iff, pi_eq]
  obtain ⟨z, hz⟩ : ∃ z, z = decide (xs = ys) := ⟨_, rfl⟩
  rw [← hz] at he
  have HE := Lib.hid he
  have HZ := Lib.hid hz
  have HF := Lib.hid hF
  have p0 : W0.cell? ⟨gc, 0, none⟩ = some (.int .i64 r) := hb1.cell 0
  have p1 : W0.cell? ⟨gc, 1, none⟩ = some (.slice A n c) := hb1.cell 1
  have p2 : W0.cell? ⟨gc, 2, none⟩ = some (.bool b) := hb1.cell 2
  have q0 : W0.cell? ⟨gc + 1, 0, none⟩ = some (.int .i64 r') := hb2.cell 0
  have q1 : W0.cell? ⟨gc + 1, 1, none⟩ = some (.slice A' n' c') := hb2.cell 1
  have q2 : W0.cell? ⟨gc + 1, 2, none⟩ = some (.bool b') := hb2.cell 2
  clear he hz hF hb1 hb2 h h' hK
  go_enter Try.func68, Try.ntmps68
  go_upto_region 1 with fail
  rw [← hgc, ← hW0]
  clear hgc hW0
  unfold PiSame
  by_cases h1 : r = r'
  · have g1 : (r == r') = true := by simpa using h1
    have H1 := Lib.hid h1
    clear h1
    rcases Bool.eq_false_or_eq_true b with rfl | rfl <;> rcases Bool.eq_false_or_eq_true b' with rfl | rfl
    all_goals first
      | (go_wp2_with fail
         refine HE.out.mono ?_
         rintro e w' ⟨rfl, nq, rfl⟩
         go_wp2_with fail
         go_ret
         exact ⟨ret_b (HD.out _ (by rw [HZ.out, decide_eq_true_iff]; simp [H1.out])), HF.out.drewN _⟩)
      | (go_wp2_with fail
         go_ret
         exact ⟨ret_b (HD.out false (by simp)), HF.out⟩)
  · have g1 : (r == r') = false := by simpa using h1
    have H3 := Lib.hid h1
    clear h1
    go_wp2_with fail
    go_ret
    exact ⟨ret_b (HD.out false (by simp; intro h; exact absurd h H3.out)), HF.out⟩
end Go.Proofs.Ytnibllkcacalhaa
