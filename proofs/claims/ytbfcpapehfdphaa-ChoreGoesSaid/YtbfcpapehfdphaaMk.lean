/- chore.Make; what stands in boxes, in slices. -/
import Derived.Test.YtbfcpapehfdphaaRt
import Derived.Test.YtbfcpapehfdphaaSl
namespace Go.Proofs.Ytbfcpapehfdphaa
open Go.RowKit
theorem results_c1 {P : Program} {fn : Func} {p : Tmp} {ty : TypeId} (h : fn.results = #[.cell p ty]) (tmps : Array Value) (w : World) (g : Nat) (t : TypeId) (cs : Array Value) (fr : Nat × Nat) (d : TypeDesc)
    (hp : tmps.getD p undef = .pointer (some ⟨g, 0, none⟩)) (hg : w.heap[g]? = some (.cells cs t fr))
    (hu : P.underlying ty = some d) (hd : (match d with | .struct _ | .array _ _ => true | _ => false) = true) (hi : (P.info? ty).map (·.size) = some cs.size) :
    (results fn tmps).run P w = .ok (.agg cs) w := by
  have hp' : tmps[p]?.getD undef = .pointer (some ⟨g, 0, none⟩) := by simpa using hp
  simp [results, h, hp', asAddr, run_loadVar_row w g t ty cs fr d hg hu hd hi]
/-- A chore's value. -/
def cVal (v : Value) (c : Ch) : Value := .agg #[v, .int .i64 c.at_, .int .u32 c.sum, .int .i64 c.wrong]
/-- A row of errands, pipes, that can be read, apart from the block gp. -/
def RR (w : World) (gp : Nat) (v : Value) (es : List Er) : Prop := RAt w (fun q => q ≠ gp ∧ q < w.heap.size) v es
def PP (w : World) (gp : Nat) (v : Value) (l : List Pi) : Prop := ∃ ps, PAt w (fun q => q ≠ gp ∧ q < w.heap.size) v ps ∧ ps.map (·.p) = l
/-- A chore in a box. -/
def CB (w : World) (gp g : Nat) (v : Value) (c : Ch) : Prop := g ≠ gp ∧ Blk w g 25 #[v, .int .i64 c.at_, .int .u32 c.sum, .int .i64 c.wrong] ∧ RR w gp v c.row
theorem RR.kept {w w' : World} {gp : Nat} {v : Value} {es : List Er} (h : RR w gp v es) (hF : Frm (fun q => q = gp) w w') : RR w' gp v es := RAt.keptTo h fun q hq => ⟨hF.block q hq.2 hq.1, hq.1, Nat.lt_of_lt_of_le hq.2 hF.size⟩
theorem PP.kept {w w' : World} {gp : Nat} {v : Value} {l : List Pi} (h : PP w gp v l) (hF : Frm (fun q => q = gp) w w') : PP w' gp v l := by
  obtain ⟨ps, h1, h2⟩ := h
  exact ⟨ps, h1.keptTo fun q hq => ⟨hF.block q hq.2 hq.1, hq.1, Nat.lt_of_lt_of_le hq.2 hF.size⟩, h2⟩
theorem CB.kept {w w' : World} {gp g : Nat} {v : Value} {c : Ch} (h : CB w gp g v c) (hF : Frm (fun q => q = gp) w w') : CB w' gp g v c := ⟨h.1, h.2.1.kept hF h.1, h.2.2.kept hF⟩
theorem CB.cells {w : World} {gp g : Nat} {v : Value} {c : Ch} (h : CB w gp g v c) : w.cell? ⟨g, 0, none⟩ = some v ∧ w.cell? ⟨g, 1, none⟩ = some (.int .i64 c.at_) ∧ w.cell? ⟨g, 2, none⟩ = some (.int .u32 c.sum) ∧ w.cell? ⟨g, 3, none⟩ = some (.int .i64 c.wrong) :=
  ⟨h.2.1.cell 0, h.2.1.cell 1, h.2.1.cell 2, h.2.1.cell 3⟩
theorem CB.new {w : World} {gp : Nat} {v : Value} {c : Ch} (h : RR w gp v c.row) (hg : gp < w.heap.size) : CB (w.alloc (.cells #[v, .int .i64 c.at_, .int .u32 c.sum, .int .i64 c.wrong] 25)) gp w.heap.size v c :=
  ⟨by omega, Blk.new w _ _, h.kept ((Frm.refl _ w).alloc _)⟩
theorem RR.form {w : World} {gp : Nat} {A : Option Addr} {n c : Nat} {es : List Er} (h : RR w gp (.slice A n c) es) : n = es.length := (RAt.cells h).1
theorem PP.form {w : World} {gp : Nat} {A : Option Addr} {n c : Nat} {l : List Pi} (h : PP w gp (.slice A n c) l) : n = l.length := by
  obtain ⟨ps, h1, rfl⟩ := h
  rw [List.length_map]
  exact h1.cells.1
theorem RR.all {w : World} {gp : Nat} {v : Value} {es : List Er} (h : RR w gp v es) : RAt w (fun q => q < w.heap.size) v es := RAt.keptTo h fun _ hq => ⟨rfl, hq.2⟩
/-- The first pipe. -/
theorem PP.first {w : World} {gp : Nat} {A : Option Addr} {n c : Nat} {p : Pi} {l : List Pi} (h : PP w gp (.slice A n c) (p :: l)) : ∃ g o v, A = some ⟨g, o, none⟩ ∧ w.cell? ⟨g, o, none⟩ = some (.int .i64 p.room) ∧ w.cell? ⟨g, o + 1, none⟩ = some v ∧ w.cell? ⟨g, o + 2, none⟩ = some (.bool p.closed) ∧ Sl w (fun q => q ≠ gp ∧ q < w.heap.size) v (uv p.ins) := by
  obtain ⟨ps, h1, h2⟩ := h
  cases ps with
  | nil => cases h2
  | cons x xs =>
    cases h2
    obtain ⟨-, -, -, hc⟩ := h1.cells
    obtain ⟨g, o, e, -, d0, d1, d2⟩ := hc 0 (by simp)
    exact ⟨g, o, x.v, e, by simpa using d0, by simpa using d1, by simpa using d2, h1.2 x (by simp)⟩
/-- A slice that was just made. -/
theorem slz_new (w : World) (gp : Nat) (t : TypeId) (cs : Array Value) (n : Nat) (xs : List Value) (hx : cs.toList = xs) (hl : xs.length = n * 3) (hn : n ≤ 1000000) (hg : gp < w.heap.size) : SlZ (w.alloc (.cells cs t)) (fun q => q ≠ gp ∧ q < (w.alloc (.cells cs t)).heap.size) 3 (.slice (some ⟨w.heap.size, 0, none⟩) n n) xs :=
  ⟨_, n, n, rfl, hl, Nat.le_refl _, by omega, .inr ⟨_, 0, rfl, by simp; omega, fun i hi => by
    rw [cell_of_row _ _ _ cs t (0, 0) (heap_alloc_new w _), Nat.zero_add, ← Array.getElem?_toList, hx]
    exact List.getElem?_eq_getElem hi⟩⟩
theorem rr_new (w : World) (gp : Nat) (cs : Array Value) (es : List Er) (hx : cs.toList = es.flatMap eCells) (hn : es.length ≤ 1000000) (hgp : gp < w.heap.size) (n : Nat) (hl : n = es.length) : RR (w.alloc (.cells cs 43)) gp (.slice (some ⟨w.heap.size, 0, none⟩) n n) es := by
  subst hl
  exact slz_new w gp _ cs es.length _ hx (flat3 eCells (fun _ => rfl) es) hn hgp
theorem pp_new (w : World) (gp : Nat) (v : Value) (r : Int) (b : Bool) (ins : List Int) (h : Sl w (fun q => q ≠ gp ∧ q < w.heap.size) v (uv ins)) (hgp : gp < w.heap.size) : PP (w.alloc (.cells #[.int .i64 r, v, .bool b] 46)) gp (.slice (some ⟨w.heap.size, 0, none⟩) 1 1) [⟨r, ins, b⟩] := by
  refine ⟨[⟨v, ⟨r, ins, b⟩⟩], ⟨slz_new w gp _ _ 1 _ rfl rfl (by omega) hgp, fun p hp => ?_⟩, rfl⟩
  simp at hp
  subst hp
  exact h.keptTo fun q hq => ⟨((Frm.refl (fun _ => False) w).alloc _).block q hq.2 id, hq.1, by have := hq.2; simp; omega⟩
theorem make_ret {v : Value} {tmps : Array Value} {w : World} {b : Nat} (h : Blk w b 25 #[v, .int .i64 0, .int .u32 0, .int .i64 0]) (h2 : tmps.getD 2 undef = .pointer (some ⟨b, 0, none⟩)) :
    (results Try.f22 tmps).run Try.prog w = .ok (.agg #[v, .int .i64 0, .int .u32 0, .int .i64 0]) w :=
  results_c1 rfl tmps w b 25 _ (0, 0) _ h2 h Try.underlying25 rfl (by kernel_rfl)
set_option maxHeartbeats 800000 in
theorem make_any (A : Option Addr) (n c : Nat) (es : List Er) (w : World) (h : RAt w (fun q => q < w.heap.size) (.slice A n c) es) (hn : n ≤ 1000000) :
    Calls Try.prog 22 #[.slice A n c] w fun e w' => ∃ A' c', e = .returned (cVal (.slice A' n c') ⟨es, 0, 0, 0⟩) ∧ RAt w' (fun q => w.heap.size ≤ q ∧ q < w'.heap.size) (.slice A' n c') es ∧ Frm (fun _ => False) w w' := by
  have hes := h.cells.1
  have hF0 : Frm (fun _ => False) w (w.alloc (.cells #[.slice none 0 0, .int .i64 0, .int .u32 0, .int .i64 0] 25)) := (Frm.refl _ w).alloc _
  have hb0 := Blk.new w 25 #[.slice none 0 0, .int .i64 0, .int .u32 0, .int .i64 0]
  have hcl := clone_e (fun q => q < w.heap.size) (.slice A n c) (es.flatMap eCells) n (w.alloc (.cells #[.slice none 0 0, .int .i64 0, .int .u32 0, .int .i64 0] 25)) (h.keptTo fun q hq => ⟨hF0.block q hq id, hq⟩) (by rw [flat3 eCells (fun _ => rfl), hes]) (fun q hq => Nat.lt_of_lt_of_le hq hF0.size) (e_one es) hn
  have H := Lib.hid (And.intro hcl (And.intro hF0 (And.intro hb0 hes)))
  clear hcl hF0 hb0 hes h
  go_enter Try.func22, Try.ntmps22
  go_wp2_with fail
  refine H.out.1.mono ?_
  rintro e w1 ⟨v1, rfl, ho, hF1⟩
  obtain ⟨A1, c1, rfl, -, -⟩ := own_form ho
  obtain ⟨g, hg⟩ : ∃ g, g = w.heap.size := ⟨_, rfl⟩
  have hb1 := H.out.2.2.1.kept hF1 id
  rw [← hg] at hb1 ⊢
  have b0 : w1.cell? ⟨g, 0, none⟩ = some (.slice none 0 0) := hb1.cell 0
  have b1 : w1.cell? ⟨g, 1, none⟩ = some (.int .i64 0) := hb1.cell 1
  have b2 : w1.cell? ⟨g, 2, none⟩ = some (.int .u32 0) := hb1.cell 2
  have b3 : w1.cell? ⟨g, 3, none⟩ = some (.int .i64 0) := hb1.cell 3
  have f0 := hb1.frozen 0
  have f1 := hb1.frozen 1
  have f2 := hb1.frozen 2
  have f3 := hb1.frozen 3
  have H1 := Lib.hid (And.intro ho (And.intro hF1 (And.intro hb1 hg)))
  clear ho hF1 hb1 hg
  go_wp2_with fail
  obtain ⟨hB4, hF4⟩ := four H1.out.2.2.1 (.slice A1 n c1) (.int .i64 0) (.int .u32 0) (.int .i64 0)
  refine bodyPost_ret (make_ret hB4 rfl) rfl ?_
  refine ⟨A1, c1, rfl, ?_, (H.out.2.1.trans H1.out.2.1 fun _ h => h.elim).trans hF4 fun q hq => .inr (by rw [hq, H1.out.2.2.2]; exact Nat.le_refl _)⟩
  have h1 := hF4.own H1.out.1 fun q hq hk => own_blk_ne H1.out.1 H1.out.2.2.1 (by decide) (by rw [hq, hk])
  exact SlZ.of_own h1 fun q hq => ⟨by have := (World.ownsRow.lt h1 q hq).1; simp at this; omega, (World.ownsRow.lt h1 q hq).2⟩
/-- Step, at what is known of chore and pipes. -/
theorem step_at {A : Option Addr} {n c : Nat} {a s r : Int} {es : List Er} {A1 : Option Addr} {n1 c1 : Nat} {l : List Pi} (c' : Ch) (l' : List Pi) (b : Bool) {w : World} {gp : Nat} (h : RR w gp (.slice A n c) es) (h1 : PP w gp (.slice A1 n1 c1) l) (hgp : gp < w.heap.size) (hn : n ≤ 1000000) (hn1 : n1 ≤ 1000) (hin : ∀ p ∈ l, p.ins.length ≤ 1000000)
    (hs : stepN ⟨es, a, s, r⟩ l = (c', l')) (hb : readyB ⟨es, a, s, r⟩ l = b) :
    Calls Try.prog 8 #[.agg #[.slice A n c, .int .i64 a, .int .u32 s, .int .i64 r], .slice A1 n1 c1] w fun e w' => ∃ A' n' d' A1' n1' d1', e = .returned (.tuple #[.agg #[.slice A' n' d', .int .i64 c'.at_, .int .u32 c'.sum, .int .i64 c'.wrong], .slice A1' n1' d1', .bool b]) ∧ RR w' gp (.slice A' n' d') c'.row ∧ PP w' gp (.slice A1' n1' d1') l' ∧ Frm (fun _ => False) w w' := by
  obtain ⟨ps, h1, rfl⟩ := h1
  refine (step_any A n c a s r es A1 n1 c1 ps w h.all (h1.keptTo fun _ hq => ⟨rfl, hq.2⟩) hn hn1 fun p hp => hin p.p (List.mem_map_of_mem hp)).mono ?_
  rintro e w' ⟨Ar, nr, cr, Ap, np, cp, ps', c'', b', rfl, ⟨rfl, hst⟩, hR, hP, hF⟩
  rw [hs] at hst
  cases hst
  exact ⟨Ar, nr, cr, Ap, np, cp, by rw [← hb], RAt.keptTo hR fun q hq => ⟨rfl, by have := hq.1; omega, hq.2⟩, ⟨ps', hP.keptTo fun q hq => ⟨rfl, by have := hq.1; omega, hq.2⟩, rfl⟩, hF⟩
theorem ready_at {A : Option Addr} {n c : Nat} {a s r : Int} {es : List Er} {A1 : Option Addr} {n1 c1 : Nat} {l : List Pi} (b : Bool) {w : World} {gp : Nat} (h : RR w gp (.slice A n c) es) (h1 : PP w gp (.slice A1 n1 c1) l) (hb : readyB ⟨es, a, s, r⟩ l = b) :
    Calls Try.prog 12 #[.agg #[.slice A n c, .int .i64 a, .int .u32 s, .int .i64 r], .slice A1 n1 c1] w fun e w' => e = .returned (.bool b) ∧ Frm (fun _ => False) w w' := by
  obtain ⟨ps, h1, rfl⟩ := h1
  refine (ready_any A n c a s r es A1 n1 c1 ps w h.all (h1.keptTo fun _ hq => ⟨rfl, hq.2⟩)).mono ?_
  rintro e w' ⟨rfl, hF⟩
  exact ⟨by rw [hb], hF⟩
theorem right_at {A : Option Addr} {n c : Nat} {a s r m : Int} {es : List Er} (b : Bool) {w : World} {gp : Nat} (h : RR w gp (.slice A n c) es) (hb : rightB m ⟨es, a, s, r⟩ = b) :
    Calls Try.prog 14 #[.agg #[.slice A n c, .int .i64 a, .int .u32 s, .int .i64 r], .int .i64 m] w fun e w' => e = .returned (.bool b) ∧ Frm (fun _ => False) w w' := by
  refine (right_any A n c a s r m es w h.all).mono ?_
  rintro e w' ⟨rfl, hF⟩
  exact ⟨by rw [hb], hF⟩
theorem pipes_at {A1 : Option Addr} {n1 c1 : Nat} {l : List Pi} (b : Bool) {w : World} {gp : Nat} (h1 : PP w gp (.slice A1 n1 c1) l) (hb : pipesB l = b) :
    Calls Try.prog 16 #[.slice A1 n1 c1] w fun e w' => e = .returned (.bool b) ∧ Frm (fun _ => False) w w' := by
  obtain ⟨ps, h1, rfl⟩ := h1
  refine (pipes_any A1 n1 c1 ps w (h1.keptTo fun _ hq => ⟨rfl, hq.2⟩)).mono ?_
  rintro e w' ⟨rfl, hF⟩
  exact ⟨by rw [hb], hF⟩
theorem over_at {A : Option Addr} {n c : Nat} {a s r : Int} (b : Bool) {w : World} (hb : decide (a = (n : Int)) = b) :
    Calls Try.prog 18 #[.agg #[.slice A n c, .int .i64 a, .int .u32 s, .int .i64 r]] w fun e w' => e = .returned (.bool b) ∧ Frm (fun _ => False) w w' := by
  refine (over_any A n c a s r w).mono ?_
  rintro e w' ⟨rfl, hF⟩
  exact ⟨by rw [hb], hF⟩
theorem same_at {A : Option Addr} {n c : Nat} {a s r : Int} {es : List Er} {A' : Option Addr} {n' c' : Nat} {a' s' r' : Int} {fs : List Er} (b : Bool) {w : World} {gp : Nat} (h : RR w gp (.slice A n c) es) (h' : RR w gp (.slice A' n' c') fs) (hb : decide ((⟨es, a, s, r⟩ : Ch) = ⟨fs, a', s', r'⟩) = b) :
    Calls Try.prog 20 #[.agg #[.slice A n c, .int .i64 a, .int .u32 s, .int .i64 r], .agg #[.slice A' n' c', .int .i64 a', .int .u32 s', .int .i64 r']] w fun e w' => e = .returned (.bool b) ∧ Frm (fun _ => False) w w' := by
  refine (csame_any _ A n c a s r es A' n' c' a' s' r' fs w h h' fun _ hq => hq.2).mono ?_
  rintro e w' ⟨rfl, hF⟩
  exact ⟨by rw [hb], hF⟩
theorem alike_at {A : Option Addr} {n c : Nat} {A' : Option Addr} {n' c' : Nat} {l l' : List Pi} (b : Bool) {w : World} {gp : Nat} (h : PP w gp (.slice A n c) l) (h' : PP w gp (.slice A' n' c') l') (hb : decide (l = l') = b) :
    Calls Try.prog 21 #[.slice A n c, .slice A' n' c'] w fun e w' => e = .returned (.bool b) ∧ Frm (fun _ => False) w w' := by
  obtain ⟨xs, h, rfl⟩ := h
  obtain ⟨ys, h', rfl⟩ := h'
  refine (calike_any _ A n c A' n' c' xs ys w h h' fun _ hq => hq.2).mono ?_
  rintro e w' ⟨rfl, hF⟩
  exact ⟨by rw [hb], hF⟩
end Go.Proofs.Ytbfcpapehfdphaa
