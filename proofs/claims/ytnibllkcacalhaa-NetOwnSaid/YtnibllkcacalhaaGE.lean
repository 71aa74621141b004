/- Nets: plain; how they lie in memory. The walk of (*net.work).over. The walk of (*net.work).right. The walk of teaselref24.Right. The walk of teaselref24.Great. A net at work: how it lies in memory. A net as an argument. -/
import Derived.Deep.DeepCutAuto
import Derived.Test.YtnibllkcacalhaaHRt
import Derived.Test.YtnibllkcacalhaaGC
import Derived.Test.YtnibllkcacalhaaGB
import Derived.Test.YtnibllkcacalhaaGA
namespace Go.Proofs.Ytnibllkcacalhaa
set_option maxRecDepth 100000
open Go.RowKit
structure Nt where
  ps : List Pi
  cs : List Ch
deriving DecidableEq
def rightNt (n : Nt) : Bool := pipesB n.ps && (decide (n.cs.length ≤ 8) && n.cs.all (rightB n.ps.length))
/-- Is the chore of number k ready? -/
def readyAt (n : Nt) (k : Nat) : Bool := match n.cs[k]? with | some c => readyB c n.ps | none => false
def readyNt (n : Nt) : List Nat := if rightNt n then (List.range n.cs.length).filter (readyAt n) else []
def stepC (n : Nt) (k : Nat) : Nt := match n.cs[k]? with | some c => ⟨(stepN c n.ps).2, n.cs.set k (stepN c n.ps).1⟩ | none => n
def stepNt (n : Nt) (k : Int) : Nt × Bool := if 0 ≤ k ∧ k.toNat ∈ readyNt n then (stepC n k.toNat, true) else (n, false)
/-- The place that is picked. -/
def pickAt (l : List Nat) (p : Int) : Nat := l.getD (p % l.length).toNat 0
def runNt : Nt → List Int → Nt × Nat
  | n, [] => (n, 0)
  | n, p :: ps => if readyNt n = [] then (n, 0) else ((runNt (stepC n (pickAt (readyNt n) p)) ps).1, (runNt (stepC n (pickAt (readyNt n) p)) ps).2 + 1)
def finNt : Nat → Nt → Nt × Nat
  | 0, n => (n, 0)
  | f + 1, n => match readyNt n with | [] => (n, 0) | k :: _ => ((finNt f (stepC n k)).1, (finNt f (stepC n k)).2 + 1)
def overNt (n : Nt) : Bool := n.cs.all overB
/-- Does a chore name that end of a pipe? -/
def touchB (p : Int) (ins : Bool) (c : Ch) : Bool := c.row.any fun e => (e.q == p) && (if ins then (e.d == 1 || e.d == 4) else e.d == 2)
def manyNt (n : Nt) (p : Int) (ins : Bool) : Nat := (n.cs.filter (touchB p ins)).length
def cleanNt (n : Nt) : Bool := rightNt n && (List.range n.ps.length).all fun p => decide (manyNt n p true ≤ 1) && decide (manyNt n p false ≤ 1)
/-- A chore, and the slice of its row. -/
structure Ck where
  v : Value
  c : Ch
def cCells (k : Ck) : List Value := [k.v, .int .i64 k.c.at_, .int .u32 k.c.sum, .int .i64 k.c.wrong]
theorem flatK {α : Type} (sz : Nat) (f : α → List Value) (hf : ∀ x, (f x).length = sz) (ys : List α) : (ys.flatMap f).length = ys.length * sz := by
  induction ys with
  | nil => simp
  | cons y ys ih => rw [List.flatMap_cons, List.length_append, hf, ih, List.length_cons, Nat.add_mul]; omega
theorem flatK_at {α : Type} (sz : Nat) (f : α → List Value) (hf : ∀ x, (f x).length = sz) (ys : List α) (k j : Nat) (hk : k < ys.length) (hj : j < sz) : (ys.flatMap f)[k * sz + j]? = (f ys[k])[j]? := by
  induction ys generalizing k with
  | nil => simp at hk
  | cons y ys ih =>
    rw [List.flatMap_cons]
    cases k with
    | zero => rw [List.getElem?_append_left (by rw [hf]; omega)]; simp
    | succ k =>
      have e : (k + 1) * sz + j - sz = k * sz + j := by rw [Nat.add_mul]; omega
      rw [List.getElem?_append_right (by rw [hf, Nat.add_mul]; omega), hf, e, ih k (by simpa using hk)]
      simp
/-- A slice of chores. -/
def CsAt (w : World) (K : Nat → Prop) (v : Value) (cks : List Ck) : Prop := SlZ w K 4 v (cks.flatMap cCells) ∧ ∀ k ∈ cks, RAt w K k.v k.c.row
theorem CsAt.keptTo {w w' : World} {K K' : Nat → Prop} {v : Value} {cks : List Ck} (h : CsAt w K v cks) (hf : ∀ q, K q → w'.heap[q]? = w.heap[q]? ∧ K' q) : CsAt w' K' v cks :=
  ⟨SlZ.keptTo h.1 hf, fun k hk => (h.2 k hk).keptTo hf⟩
theorem CsAt.cells {w : World} {K : Nat → Prop} {A : Option Addr} {n c : Nat} {cks : List Ck} (h : CsAt w K (.slice A n c) cks) :
    n = cks.length ∧ n ≤ c ∧ c ≤ 9223372036854775807 ∧ ∀ i (hi : i < cks.length), ∃ g o, A = some ⟨g, o, none⟩ ∧ K g ∧ w.cell? ⟨g, o + i * 4, none⟩ = some cks[i].v ∧ w.cell? ⟨g, o + i * 4 + 1, none⟩ = some (.int .i64 cks[i].c.at_) ∧ w.cell? ⟨g, o + i * 4 + 2, none⟩ = some (.int .u32 cks[i].c.sum) ∧ w.cell? ⟨g, o + i * 4 + 3, none⟩ = some (.int .i64 cks[i].c.wrong) := by
  obtain ⟨A', n', c', e, hn, hc, hm, hx⟩ := h.1
  cases e
  have hl := flatK 4 cCells (fun _ => rfl) cks
  refine ⟨by omega, hc, hm, fun i hi => ?_⟩
  obtain ⟨g, o, rfl, hK, hcs⟩ := hx.resolve_left (by omega)
  have key : ∀ j, j < 4 → w.cell? ⟨g, o + i * 4 + j, none⟩ = (cCells cks[i])[j]? := fun j hj => by
    rw [← flatK_at 4 cCells (fun _ => rfl) cks i j hi hj, Nat.add_assoc, hcs _ (by omega), List.getElem?_eq_getElem]
  exact ⟨g, o, rfl, hK, key 0 (by omega), key 1 (by omega), key 2 (by omega), key 3 (by omega)⟩
/-- A net's value. -/
def NAt (w : World) (K : Nat → Prop) (vp vc : Value) (n : Nt) : Prop := ∃ ps cks, PAt w K vp ps ∧ CsAt w K vc cks ∧ ps.map (·.p) = n.ps ∧ cks.map (·.c) = n.cs
theorem NAt.keptTo {w w' : World} {K K' : Nat → Prop} {vp vc : Value} {n : Nt} (h : NAt w K vp vc n) (hf : ∀ q, K q → w'.heap[q]? = w.heap[q]? ∧ K' q) : NAt w' K' vp vc n := by
  obtain ⟨ps, cks, h1, h2, h3, h4⟩ := h
  exact ⟨ps, cks, h1.keptTo hf, h2.keptTo hf, h3, h4⟩
end Go.Proofs.Ytnibllkcacalhaa
namespace Go.Proofs.Ytnibllkcacalhaa
set_option maxRecDepth 100000
open Go.RowKit
theorem map_take_c (l : List Ck) (k : Nat) (h : k < l.length) : (l.map (·.c)).take (k + 1) = (l.map (·.c)).take k ++ [l[k].c] := by
  rw [List.take_succ_eq_append_getElem (by simpa using h)]; simp
set_option maxHeartbeats 1600000 in
theorem over_w (b : Nat) (vp : Value) (A : Option Addr) (n c : Nat) (cks : List Ck) (w : World) (hb : Blk w b 66 #[vp, .slice A n c]) (h : CsAt w (fun q => q < w.heap.size) (.slice A n c) cks) :
    Calls Try.prog 46 #[.pointer (some ⟨b, 0, none⟩)] w fun e w' => e = .returned (.bool ((cks.map (·.c)).all overB)) ∧ Frm (fun _ => False) w w' := by
  obtain ⟨hn, hnc, hcm, hx⟩ := h.cells
  have c1 : w.cell? ⟨b, 1, none⟩ = some (.slice A n c) := hb.cell 1
  have H := Lib.hid (And.intro hn (And.intro hx h.2))
  clear h hn hx hb
  go_enter Try.func46, Try.ntmps46
  go_wp2_with fail
  go_loopw [11] (fun i wr => ∃ k : Nat, k ≤ n ∧ i = .int .i64 k ∧ Hid (((cks.map (·.c)).take k).all overB = true ∧ Frm (fun _ => False) w wr)) (fun i _ => n - (intOf i).toNat)
  case atStart => exact ⟨0, Nat.zero_le _, rfl, Lib.hid ⟨rfl, Frm.refl _ _⟩⟩
  case round =>
    obtain ⟨k, hk, rfl, hT⟩ := hrel
    by_cases hlt : k < n
    · obtain ⟨hn, hx, hr⟩ := H.out
      have hkx : k < cks.length := by omega
      have hF := hT.out.2
      obtain ⟨g, o, rfl, hg, d0, d1, d2, d3⟩ := hx k hkx
      obtain ⟨A5, n5, k5, e5, -⟩ := id (hr cks[k] (List.getElem_mem hkx))
      have hl5 := (by have := hr cks[k] (List.getElem_mem hkx); rw [e5] at this; exact this.cells.1 : n5 = cks[k].c.row.length)
      rw [e5] at d0
      replace d0 := hF.cell d0 id
      replace d1 := hF.cell d1 id
      replace d2 := hF.cell d2 id
      replace d3 := hF.cell d3 id
      have hts := map_take_c cks k hkx
      have hO : overB cks[k].c = decide (cks[k].c.at_ = (n5 : Int)) := by unfold overB; rw [hl5]
      have hall : overB cks[k].c = false → (cks.map (·.c)).all overB = false := fun h => take_all_no overB (cks.map (·.c)) k (by simpa using hkx) (by rw [List.getElem_map]; exact h)
      have HS := Lib.hid (And.intro hts (And.intro hO (And.intro hall hF)))
      clear hn hx hr e5 hl5 hts hO hall hF hg
      generalize cks[k].c = ck at *
      have hF1 : Frm (fun _ => False) wr (wr.alloc (.cells #[.slice A5 n5 k5, .int .i64 ck.at_, .int .u32 ck.sum, .int .i64 ck.wrong] 46)) := (Frm.refl _ wr).alloc _
      have HF1 := Lib.hid hF1
      clear hF1 hkx
      go_wp2_with fail
      refine (over_any A5 n5 k5 ck.at_ ck.sum ck.wrong _).mono ?_
      rintro e w7 ⟨rfl, hF7⟩
      rw [← HS.out.2.1]
      have HF7 := Lib.hid ((HS.out.2.2.2.trans HF1.out fun _ h => h.elim).trans hF7 fun _ h => h.elim)
      clear hF7 d0 d1 d2 d3
      cases hO : overB ck with
      | true =>
        have HO := Lib.hid hO
        clear hO
        go_wp2_with fail
        go_roundw
        case rel => exact ⟨k + 1, by omega, by go_num, Lib.hid ⟨by rw [HS.out.1, List.all_append, hT.out.1]; simp [HO.out], HF7.out⟩⟩
        case measure => simp [intOf]; omega
      | false =>
        have HO := Lib.hid (HS.out.2.2.1 hO)
        clear hO
        go_wp2_with fail
        go_ret
        exact ⟨by rw [HO.out]; rfl, HF7.out⟩
    · obtain rfl : k = n := by omega
      go_wp2_with fail
      go_ret
      refine ⟨?_, hT.out.2⟩
      have h1 := hT.out.1
      rw [List.take_of_length_le (by rw [List.length_map]; exact Nat.le_of_eq H.out.1.symm)] at h1
      rw [h1]
      rfl
end Go.Proofs.Ytnibllkcacalhaa
namespace Go.Proofs.Ytnibllkcacalhaa
set_option maxRecDepth 100000
open Go.RowKit
set_option maxHeartbeats 1600000 in
theorem right_w (b : Nat) (A1 : Option Addr) (n1 c1 : Nat) (A : Option Addr) (n c : Nat) (ps : List Pk) (cks : List Ck) (w : World) (hb : Blk w b 66 #[.slice A1 n1 c1, .slice A n c]) (hp : PAt w (fun q => q < w.heap.size) (.slice A1 n1 c1) ps) (h : CsAt w (fun q => q < w.heap.size) (.slice A n c) cks) :
    Calls Try.prog 40 #[.pointer (some ⟨b, 0, none⟩)] w fun e w' => e = .returned (.bool (rightNt ⟨ps.map (·.p), cks.map (·.c)⟩)) ∧ Frm (fun _ => False) w w' := by
  obtain ⟨hn, hnc, hcm, hx⟩ := h.cells
  have hn1 := hp.cells.1
  have b0 : w.cell? ⟨b, 0, none⟩ = some (.slice A1 n1 c1) := hb.cell 0
  have H := Lib.hid (And.intro hn (And.intro hx (And.intro h.2 (And.intro hb (And.intro hp hn1)))))
  obtain ⟨R, hR⟩ : ∃ R, R = rightNt ⟨ps.map (·.p), cks.map (·.c)⟩ := ⟨_, rfl⟩
  rw [← hR]
  have HR := Lib.hid hR
  clear h hn hx hb hp hn1 hR
  go_enter Try.func40, Try.ntmps40
  go_wp2_with fail
  refine (pipes_any A1 n1 c1 ps w H.out.2.2.2.2.1).mono ?_
  rintro e w1 ⟨rfl, hF1⟩
  have hb1 := H.out.2.2.2.1.kept hF1 id
  have d0 : w1.cell? ⟨b, 0, none⟩ = some (.slice A1 n1 c1) := hb1.cell 0
  have d1 : w1.cell? ⟨b, 1, none⟩ = some (.slice A n c) := hb1.cell 1
  have HF1 := Lib.hid (And.intro hF1 hb1)
  clear hF1 hb1 b0
  cases hP : pipesB (ps.map (·.p)) with
  | false =>
    have HN : Hid (R = false) := Lib.hid (by rw [HR.out]; unfold rightNt; rw [hP]; rfl)
    clear hP
    go_wp2_with fail
    go_ret
    exact ⟨by rw [HN.out]; rfl, HF1.out.1⟩
  | true =>
    by_cases h8 : (8 : Int) < n
    · have HN : Hid (R = false) := Lib.hid (by
        rw [HR.out]; unfold rightNt
        rw [decide_eq_false (by have := H.out.1; simp; omega)]
        simp)
      clear hP
      go_wp2_with fail
      go_ret
      exact ⟨by rw [HN.out]; rfl, HF1.out.1⟩
    · have HN : Hid (R = (cks.map (·.c)).all (rightB (n1 : Int))) := Lib.hid (by
        rw [HR.out]; unfold rightNt
        dsimp only
        rw [hP, decide_eq_true (by have := H.out.1; simp; omega), List.length_map, ← H.out.2.2.2.2.2]
        simp)
      clear hP
      go_wp2_with fail
      go_loopw [27] (fun i wr => ∃ k : Nat, k ≤ n ∧ i = .int .i64 k ∧ Hid (((cks.map (·.c)).take k).all (rightB (n1 : Int)) = true ∧ Frm (fun _ => False) w wr)) (fun i _ => n - (intOf i).toNat)
      case atStart => exact ⟨0, Nat.zero_le _, rfl, Lib.hid ⟨rfl, HF1.out.1⟩⟩
      case round =>
        obtain ⟨k, hk, rfl, hT⟩ := hrel
        by_cases hlt : k < n
        · obtain ⟨hn, hx, hr, hb, hp, hn1⟩ := H.out
          have hkx : k < cks.length := by omega
          have hF := hT.out.2
          obtain ⟨g, o, rfl, hg, e0, e1, e2, e3⟩ := hx k hkx
          have hrow := hr cks[k] (List.getElem_mem hkx)
          obtain ⟨A5, n5, k5, e5, -⟩ := id hrow
          rw [e5] at e0 hrow
          replace e0 := hF.cell e0 id
          replace e1 := hF.cell e1 id
          replace e2 := hF.cell e2 id
          replace e3 := hF.cell e3 id
          have hts := map_take_c cks k hkx
          have hall : rightB (n1 : Int) cks[k].c = false → (cks.map (·.c)).all (rightB (n1 : Int)) = false := fun h => take_all_no _ (cks.map (·.c)) k (by simpa using hkx) (by rw [List.getElem_map]; exact h)
          have HS := Lib.hid (And.intro hts (And.intro hall (And.intro hF (And.intro hrow (hb.kept hF id)))))
          clear hn hx hr hb hp hn1 e5 hts hall hF hg hrow
          generalize cks[k].c = ck at *
          obtain ⟨es, a, s, r⟩ := ck
          dsimp only at *
          clear hkx d0 d1
          go_upto_region 6 with fail
          have hbx := Blk.new wr 46 #[.slice A5 n5 k5, .int .i64 a, .int .u32 s, .int .i64 r]
          have hFa : Frm (fun _ => False) wr (wr.alloc (.cells #[.slice A5 n5 k5, .int .i64 a, .int .u32 s, .int .i64 r] 46)) := (Frm.refl _ wr).alloc _
          obtain ⟨G, hG⟩ : ∃ G, G = wr.heap.size := ⟨_, rfl⟩
          rw [← hG] at hbx ⊢
          have hwb := HS.out.2.2.2.2.kept hFa id
          have hF6 := HS.out.2.2.1.trans hFa fun _ h => h.elim
          clear hG e0 e1 e2 e3 hFa
          generalize wr.alloc (.cells #[.slice A5 n5 k5, .int .i64 a, .int .u32 s, .int .i64 r] 46) = w6 at *
          have hrt := right_any A5 n5 k5 a s r (n1 : Int) es w6.drew (HS.out.2.2.2.1.keptTo fun q hq => ⟨hF6.block q hq id, Nat.lt_of_lt_of_le hq hF6.size⟩)
          have x0 : w6.cell? ⟨G, 0, none⟩ = some (.slice A5 n5 k5) := hbx.cell 0
          have x1 : w6.cell? ⟨G, 1, none⟩ = some (.int .i64 a) := hbx.cell 1
          have x2 : w6.cell? ⟨G, 2, none⟩ = some (.int .u32 s) := hbx.cell 2
          have x3 : w6.cell? ⟨G, 3, none⟩ = some (.int .i64 r) := hbx.cell 3
          have x4 : w6.cell? ⟨b, 0, none⟩ = some (.slice A1 n1 c1) := hwb.cell 0
          have HC := Lib.hid (And.intro hrt hF6)
          clear hrt hF6 hbx hwb
          go_region_held3 (fun w' => w'.cell? ⟨G, 0, none⟩ = some (.slice A5 n5 k5) ∧ w'.cell? ⟨G, 1, none⟩ = some (.int .i64 a) ∧ w'.cell? ⟨G, 2, none⟩ = some (.int .u32 s) ∧ w'.cell? ⟨G, 3, none⟩ = some (.int .i64 r) ∧ w'.cell? ⟨b, 0, none⟩ = some (.slice A1 n1 c1))
            (first | exact ⟨x0, x1, x2, x3, x4⟩ | exact ⟨y0, y1, y2, y3, y4⟩)
            ((go_at_call 60; refine HC.out.1.mono ?_; rintro e w7 ⟨rfl, hF7⟩; have y0 := hF7.cell x0 id; have y1 := hF7.cell x1 id; have y2 := hF7.cell x2 id; have y3 := hF7.cell x3 id; have y4 := hF7.cell x4 id))
          have HF7 := Lib.hid (HC.out.2.drew.trans hF7 fun _ h => h.elim)
          clear hF7 x0 x1 x2 x3 x4 y0 y1 y2 y3 y4
          cases hO : rightB (n1 : Int) ⟨es, a, s, r⟩ with
          | true =>
            have HO := Lib.hid hO
            clear hO
            go_wp2_with fail
            go_roundw
            case rel => exact ⟨k + 1, by omega, by go_num, Lib.hid ⟨by rw [HS.out.1, List.all_append, hT.out.1]; simp [HO.out], HF7.out⟩⟩
            case measure => simp [intOf]; omega
          | false =>
            have HO := Lib.hid (HS.out.2.1 hO)
            clear hO
            go_wp2_with fail
            go_ret
            exact ⟨by rw [HN.out, HO.out]; rfl, HF7.out⟩
        · obtain rfl : k = n := by omega
          go_wp2_with fail
          go_ret
          refine ⟨?_, hT.out.2⟩
          have h1 := hT.out.1
          rw [List.take_of_length_le (by rw [List.length_map]; exact Nat.le_of_eq H.out.1.symm)] at h1
          rw [HN.out, h1]
          rfl
end Go.Proofs.Ytnibllkcacalhaa
namespace Go.Proofs.Ytnibllkcacalhaa
set_option maxRecDepth 100000
open Go.RowKit
theorem right_r (A : Option Addr) (n c : Nat) (a s r : Int) (m : Nat) (es : List Er) (w : World) (h : RAt w (fun q => q < w.heap.size) (.slice A n c) es) :
    Calls Try.prog 44 #[.agg #[.slice A n c, .int .i64 a, .int .u32 s, .int .i64 r], .int .i64 m] w fun e w' => e = .returned (.bool (rightB m ⟨es, a, s, r⟩)) ∧ Frm (fun _ => False) w w' := rright_any A n c a s r (m : Int) es w h
set_option maxHeartbeats 1600000 in
theorem rright_n (A1 : Option Addr) (n1 c1 : Nat) (A : Option Addr) (n c : Nat) (ps : List Pk) (cks : List Ck) (w : World) (hp : PAt w (fun q => q < w.heap.size) (.slice A1 n1 c1) ps) (h : CsAt w (fun q => q < w.heap.size) (.slice A n c) cks) (hb12 : n1 ≤ 1000000) :
    Calls Try.prog 18 #[.agg #[.slice A1 n1 c1, .slice A n c]] w fun e w' => e = .returned (.bool (rightNt ⟨ps.map (·.p), cks.map (·.c)⟩)) ∧ Frm (fun _ => False) w w' := by
  obtain ⟨hn, hnc, hcm, hx⟩ := h.cells
  have hn1 := hp.cells.1
  obtain ⟨b, hbg⟩ : ∃ b, b = w.heap.size := ⟨_, rfl⟩
  obtain ⟨W0, hW0⟩ : ∃ W, W = w.alloc (.cells #[.slice A1 n1 c1, .slice A n c] 25) := ⟨_, rfl⟩
  have hF0 : Frm (fun _ => False) w W0 := by rw [hW0]; exact (Frm.refl _ w).alloc _
  have hb : Blk W0 b 25 #[.slice A1 n1 c1, .slice A n c] := by rw [hW0, hbg]; exact Blk.new w _ _
  have b0 : W0.cell? ⟨b, 0, none⟩ = some (.slice A1 n1 c1) := hb.cell 0
  have H := Lib.hid (And.intro hn (And.intro hx (And.intro h.2 (And.intro hb (And.intro hp (And.intro hn1 (And.intro hF0 hb12)))))))
  obtain ⟨R, hR⟩ : ∃ R, R = rightNt ⟨ps.map (·.p), cks.map (·.c)⟩ := ⟨_, rfl⟩
  rw [← hR]
  have HR := Lib.hid hR
  clear h hn hx hb hp hn1 hR hF0 hb12
  go_enter Try.func18, Try.ntmps18
  go_upto_region 1 with fail
  rw [← hbg, ← hW0]
  clear hbg hW0
  go_wp2_with fail
  refine (rpipes_any A1 n1 c1 ps W0 (H.out.2.2.2.2.1.keptTo fun q hq => ⟨H.out.2.2.2.2.2.2.1.block q hq id, Nat.lt_of_lt_of_le hq H.out.2.2.2.2.2.2.1.size⟩) H.out.2.2.2.2.2.2.2).mono ?_
  rintro e w1 ⟨rfl, hF1⟩
  have hb1 := H.out.2.2.2.1.kept hF1 id
  have d0 : w1.cell? ⟨b, 0, none⟩ = some (.slice A1 n1 c1) := hb1.cell 0
  have d1 : w1.cell? ⟨b, 1, none⟩ = some (.slice A n c) := hb1.cell 1
  have HF1 := Lib.hid (And.intro (H.out.2.2.2.2.2.2.1.trans hF1 fun _ h => h.elim) (And.intro hF1 hb1))
  clear hF1 hb1 b0
  cases hP : pipesB (ps.map (·.p)) with
  | false =>
    have HN : Hid (R = false) := Lib.hid (by rw [HR.out]; unfold rightNt; rw [hP]; rfl)
    clear hP
    go_wp2_with fail
    go_ret
    exact ⟨by rw [HN.out]; rfl, HF1.out.1⟩
  | true =>
    by_cases h8 : (8 : Int) < n
    · have HN : Hid (R = false) := Lib.hid (by
        rw [HR.out]; unfold rightNt
        rw [decide_eq_false (by have := H.out.1; simp; omega)]
        simp)
      clear hP
      go_wp2_with fail
      go_ret
      exact ⟨by rw [HN.out]; rfl, HF1.out.1⟩
    · have HN : Hid (R = (cks.map (·.c)).all (rightB (n1 : Int))) := Lib.hid (by
        rw [HR.out]; unfold rightNt
        dsimp only
        rw [hP, decide_eq_true (by have := H.out.1; simp; omega), List.length_map, ← H.out.2.2.2.2.2.1]
        simp)
      clear hP
      go_wp2_with fail
      go_loopw [3] (fun i wr => ∃ k : Nat, k ≤ n ∧ i = .int .i64 k ∧ Hid (((cks.map (·.c)).take k).all (rightB (n1 : Int)) = true ∧ Frm (fun _ => False) w wr ∧ Frm (fun _ => False) W0 wr)) (fun i _ => n - (intOf i).toNat)
      case atStart => exact ⟨0, Nat.zero_le _, rfl, Lib.hid ⟨rfl, HF1.out.1, HF1.out.2.1⟩⟩
      case round =>
        obtain ⟨k, hk, rfl, hT⟩ := hrel
        by_cases hlt : k < n
        · obtain ⟨hn, hx, hr, hb, hp, hn1, -⟩ := H.out
          have hkx : k < cks.length := by omega
          have hF := hT.out.2.1
          obtain ⟨g, o, rfl, hg, e0, e1, e2, e3⟩ := hx k hkx
          have hrow := hr cks[k] (List.getElem_mem hkx)
          obtain ⟨A5, n5, k5, e5, -⟩ := id hrow
          rw [e5] at e0 hrow
          replace e0 := hF.cell e0 id
          replace e1 := hF.cell e1 id
          replace e2 := hF.cell e2 id
          replace e3 := hF.cell e3 id
          have hbw := hb.kept hT.out.2.2 id
          have x4 : wr.cell? ⟨b, 0, none⟩ = some (.slice A1 n1 c1) := hbw.cell 0
          have x5 : wr.cell? ⟨b, 1, none⟩ = some (.slice (some ⟨g, o, none⟩) n c) := hbw.cell 1
          have hts := map_take_c cks k hkx
          have hall : rightB (n1 : Int) cks[k].c = false → (cks.map (·.c)).all (rightB (n1 : Int)) = false := fun h => take_all_no _ (cks.map (·.c)) k (by simpa using hkx) (by rw [List.getElem_map]; exact h)
          have HS := Lib.hid (And.intro hts (And.intro hall (And.intro hF hT.out.2.2)))
          have hrow' := hrow
          clear hn hx hr hb hp hn1 e5 hts hall hg hrow hbw
          generalize cks[k].c = ck at *
          obtain ⟨es, a, s, r⟩ := ck
          dsimp only at *
          have hrt := right_r A5 n5 k5 a s r n1 es wr.drew (hrow'.keptTo fun q hq => ⟨hF.block q hq id, Nat.lt_of_lt_of_le hq hF.size⟩)
          have HC := Lib.hid hrt
          have hk0 : (0 : Int) ≤ (k : Int) := by omega
          clear hkx d0 d1 hrt hrow' hF
          go_upto_region 6 with fail
          go_region_held3 (fun w' => w'.cell? ⟨g, o + k * 4, none⟩ = some (.slice A5 n5 k5) ∧ w'.cell? ⟨g, o + k * 4 + 1, none⟩ = some (.int .i64 a) ∧ w'.cell? ⟨g, o + k * 4 + 2, none⟩ = some (.int .u32 s) ∧ w'.cell? ⟨g, o + k * 4 + 3, none⟩ = some (.int .i64 r) ∧ w'.cell? ⟨b, 0, none⟩ = some (.slice A1 n1 c1) ∧ w'.cell? ⟨b, 1, none⟩ = some (.slice (some ⟨g, o, none⟩) n c))
            (first | exact ⟨e0, e1, e2, e3, x4, x5⟩ | exact ⟨y0, y1, y2, y3, y4, y5⟩)
            ((go_at_call 44; refine HC.out.mono ?_; rintro e w7 ⟨rfl, hF7⟩; have y0 := hF7.cell e0 id; have y1 := hF7.cell e1 id; have y2 := hF7.cell e2 id; have y3 := hF7.cell e3 id; have y4 := hF7.cell x4 id; have y5 := hF7.cell x5 id))
          have HF7 := Lib.hid (And.intro (HS.out.2.2.1.drew.trans hF7 fun _ h => h.elim) (HS.out.2.2.2.drew.trans hF7 fun _ h => h.elim))
          clear hF7 e0 e1 e2 e3 x4 x5 y0 y1 y2 y3 y4 y5
          cases hO : rightB (n1 : Int) ⟨es, a, s, r⟩ with
          | true =>
            have HO := Lib.hid hO
            clear hO
            go_wp2_with fail
            go_roundw
            case rel => exact ⟨k + 1, by omega, by go_num, Lib.hid ⟨by rw [HS.out.1, List.all_append, hT.out.1]; simp [HO.out], HF7.out⟩⟩
            case measure => simp [intOf]; omega
          | false =>
            have HO := Lib.hid (HS.out.2.1 hO)
            clear hO
            go_wp2_with fail
            go_ret
            exact ⟨by rw [HN.out, HO.out]; rfl, HF7.out.1⟩
        · obtain rfl : k = n := by omega
          have x5 : wr.cell? ⟨b, 1, none⟩ = some (.slice A k c) := (H.out.2.2.2.1.kept hT.out.2.2 id).cell 1
          go_wp2_with fail
          go_ret
          refine ⟨?_, hT.out.2.1⟩
          have h1 := hT.out.1
          rw [List.take_of_length_le (by rw [List.length_map]; exact Nat.le_of_eq H.out.1.symm)] at h1
          rw [HN.out, h1]
          rfl
end Go.Proofs.Ytnibllkcacalhaa
namespace Go.Proofs.Ytnibllkcacalhaa
set_option maxRecDepth 100000
open Go.RowKit
def GreatN (w : World) (ps : List Pk) (cks : List Ck) (e : Ending) (w' : World) : Prop := ∃ g : Bool, e = .returned (.bool g) ∧ Frm (fun _ => False) w w' ∧ (g = false → cks.length ≤ 10 ∧ greatB 0 ps ∧ ∀ k ∈ cks, k.c.row.length ≤ 80)
set_option maxHeartbeats 1600000 in
theorem great_n (A1 : Option Addr) (n1 c1 : Nat) (A : Option Addr) (n c : Nat) (ps : List Pk) (cks : List Ck) (w : World) (hp : PAt w (fun q => q < w.heap.size) (.slice A1 n1 c1) ps) (h : CsAt w (fun q => q < w.heap.size) (.slice A n c) cks) :
    Calls Try.prog 8 #[.agg #[.slice A1 n1 c1, .slice A n c]] w (GreatN w ps cks) := by
  obtain ⟨hn, hnc, hcm, hx⟩ := h.cells
  obtain ⟨b, hbg⟩ : ∃ b, b = w.heap.size := ⟨_, rfl⟩
  obtain ⟨W0, hW0⟩ : ∃ W, W = w.alloc (.cells #[.slice A1 n1 c1, .slice A n c] 25) := ⟨_, rfl⟩
  have hF0 : Frm (fun _ => False) w W0 := by rw [hW0]; exact (Frm.refl _ w).alloc _
  have hb : Blk W0 b 25 #[.slice A1 n1 c1, .slice A n c] := by rw [hW0, hbg]; exact Blk.new w _ _
  have H := Lib.hid (And.intro hn (And.intro hx (And.intro h.2 (And.intro hb (And.intro hp hF0)))))
  clear h hn hx hb hp hF0
  go_enter Try.func8, Try.ntmps8
  go_upto_region 1 with fail
  rw [← hbg, ← hW0]
  clear hbg hW0
  go_wp2_with fail
  go_loopw [3] (fun i wr => ∃ k : Nat, k ≤ n ∧ k ≤ 12 ∧ i = .int .i64 k ∧ Hid ((∀ x ∈ cks.take k, x.c.row.length ≤ 80) ∧ Frm (fun _ => False) w wr ∧ Frm (fun _ => False) W0 wr)) (fun i _ => n - (intOf i).toNat)
  case atStart => exact ⟨0, Nat.zero_le _, by omega, rfl, Lib.hid ⟨by simp, H.out.2.2.2.2.2, Frm.refl _ _⟩⟩
  case round =>
    obtain ⟨k, hk, hk12, rfl, hT⟩ := hrel
    have hbw := H.out.2.2.2.1.kept hT.out.2.2 id
    have x4 : wr.cell? ⟨b, 0, none⟩ = some (.slice A1 n1 c1) := hbw.cell 0
    have x5 : wr.cell? ⟨b, 1, none⟩ = some (.slice A n c) := hbw.cell 1
    by_cases hin : k < n ∧ k < 12
    · obtain ⟨hlt, hlt12⟩ := hin
      obtain ⟨hn, hx, hr, hb, hp, -⟩ := H.out
      have hkx : k < cks.length := by omega
      have hF := hT.out.2.1
      obtain ⟨g, o, rfl, hg, e0, e1, e2, e3⟩ := hx k hkx
      have hrow := hr cks[k] (List.getElem_mem hkx)
      obtain ⟨A5, n5, k5, e5, -⟩ := id hrow
      have hl5 : n5 = cks[k].c.row.length := by rw [e5] at hrow; exact hrow.cells.1
      rw [e5] at e0
      replace e0 := hF.cell e0 id
      replace e1 := hF.cell e1 id
      replace e2 := hF.cell e2 id
      replace e3 := hF.cell e3 id
      have hts : cks.take (k + 1) = cks.take k ++ [cks[k]] := List.take_succ_eq_append_getElem hkx
      have HS := Lib.hid (And.intro hts (And.intro hl5 (And.intro hF hT.out.2.2)))
      have hgr := great_any A5 n5 k5 cks[k].c.at_ cks[k].c.sum cks[k].c.wrong A1 n1 c1 ps wr.drew (hp.keptTo fun q hq => ⟨hF.block q hq id, Nat.lt_of_lt_of_le hq hF.size⟩)
      have HC := Lib.hid hgr
      have hk0 : (0 : Int) ≤ (k : Int) := by omega
      clear hn hx hr hb hp e5 hts hg hrow hbw hl5 hF hgr
      generalize cks[k] = ck at *
      clear hkx
      go_upto_region 4 with fail
      go_region_held3 (fun w' => w'.cell? ⟨g, o + k * 4, none⟩ = some (.slice A5 n5 k5) ∧ w'.cell? ⟨g, o + k * 4 + 1, none⟩ = some (.int .i64 ck.c.at_) ∧ w'.cell? ⟨g, o + k * 4 + 2, none⟩ = some (.int .u32 ck.c.sum) ∧ w'.cell? ⟨g, o + k * 4 + 3, none⟩ = some (.int .i64 ck.c.wrong) ∧ w'.cell? ⟨b, 0, none⟩ = some (.slice A1 n1 c1) ∧ w'.cell? ⟨b, 1, none⟩ = some (.slice (some ⟨g, o, none⟩) n c))
        (first | exact ⟨e0, e1, e2, e3, x4, x5⟩ | exact ⟨y0, y1, y2, y3, y4, y5⟩)
        ((go_at_call 33; refine HC.out.mono ?_; rintro e w7 ⟨gg, rfl, hF7, hg7⟩; have HG7 := Lib.hid hg7; clear hg7; have y0 := hF7.cell e0 id; have y1 := hF7.cell e1 id; have y2 := hF7.cell e2 id; have y3 := hF7.cell e3 id; have y4 := hF7.cell x4 id; have y5 := hF7.cell x5 id))
      have HF7 := Lib.hid (And.intro (HS.out.2.2.1.drew.trans hF7 fun _ h => h.elim) (HS.out.2.2.2.drew.trans hF7 fun _ h => h.elim))
      clear hF7 e0 e1 e2 e3 x4 x5 y0 y1 y2 y3 y4 y5
      cases gg with
      | true =>
        go_wp2_with fail
        go_ret
        exact ⟨true, rfl, HF7.out.1, fun h => by cases h⟩
      | false =>
        go_wp2_with fail
        go_roundw
        case rel => exact ⟨k + 1, by omega, by omega, by go_num, Lib.hid ⟨by
          rw [HS.out.1]
          intro x hx
          rcases List.mem_append.1 hx with h | h
          · exact hT.out.1 x h
          · simp at h; subst h; have := (HG7.out rfl).1; rw [← HS.out.2.1]; exact this, HF7.out⟩⟩
        case measure => simp [intOf]; omega
    · by_cases h10 : (10 : Int) < n
      · rcases (by omega : ¬ k < n ∨ (k < n ∧ k = 12)) with h | ⟨h, rfl⟩
        · obtain rfl : k = n := by omega
          go_wp2_with fail
          go_ret
          exact ⟨true, rfl, hT.out.2.1, fun h => by cases h⟩
        · go_wp2_with fail
          go_ret
          exact ⟨true, rfl, hT.out.2.1, fun h => by cases h⟩
      · obtain rfl : k = n := by omega
        have hgr := great_any none 0 0 0 0 0 A1 n1 c1 ps wr (H.out.2.2.2.2.1.keptTo fun q hq => ⟨hT.out.2.1.block q hq id, Nat.lt_of_lt_of_le hq hT.out.2.1.size⟩)
        have HC := Lib.hid hgr
        clear hgr hbw
        go_wp2_with fail
        refine HC.out.mono ?_
        rintro e w7 ⟨gg, rfl, hF7, hg7⟩
        have HG7 := Lib.hid (And.intro hg7 hF7)
        clear hg7 hF7 x4 x5
        go_wp2_with fail
        go_ret
        refine ⟨gg, rfl, hT.out.2.1.trans HG7.out.2 fun _ h => h.elim, fun h => ⟨by have := H.out.1; omega, HG7.out.1 h, fun x hx => hT.out.1 x ?_⟩⟩
        rw [List.take_of_length_le (by have := H.out.1; omega)]
        exact hx
end Go.Proofs.Ytnibllkcacalhaa
namespace Go.Proofs.Ytnibllkcacalhaa
set_option maxRecDepth 100000
open Go.RowKit
/-- Blocks of one's own, apart from b and from a row. -/
def KP (w : World) (B b : Nat) (v : Value) (q : Nat) : Prop := B ≤ q ∧ q < w.heap.size ∧ q ≠ b ∧ v.ownBlock ≠ some q ∧ UF w q
theorem KP.kept {w w' : World} {B b : Nat} {v v' : Value} (hF : Frm (fun q => q = b ∨ v.ownBlock = some q) w w') (hv : v'.ownBlock = v.ownBlock ∨ ∃ g, v'.ownBlock = some g ∧ w.heap.size ≤ g) (q : Nat) (h : KP w B b v q) : w'.heap[q]? = w.heap[q]? ∧ KP w' B b v' q := by
  obtain ⟨h1, h2, h3, h4, h5⟩ := h
  have hb := hF.block q h2 (by rintro (e | e); exact h3 e; exact h4 e)
  refine ⟨hb, h1, Nat.lt_of_lt_of_le h2 hF.size, h3, ?_, h5.of hb⟩
  rcases hv with e | ⟨g, e, hg⟩
  · rw [e]; exact h4
  · rw [e]; intro e2; injection e2 with e2; omega
theorem infoC : (Try.prog.info? 46).map (fun i => (i.zero, i.size, i.bytes)) = some (some (.agg #[.slice none 0 0, .int .i64 0, .int .u32 0, .int .i64 0]), 4, 48) := by kernel_rfl
theorem SlZ.blk4 (w : World) (x0 x1 x2 x3 : Value) (t : TypeId) : SlZ (w.alloc (.cells #[x0, x1, x2, x3] t)) (fun k => k = w.heap.size) 4 (.slice (some ⟨w.heap.size, 0, none⟩) 1 1) [x0, x1, x2, x3] :=
  ⟨_, 1, 1, rfl, rfl, Nat.le_refl _, by omega, .inr ⟨_, 0, rfl, rfl, fun i hi => by
    rw [cell_of_row _ _ _ #[x0, x1, x2, x3] t (0, 0) (heap_alloc_new w _), Nat.zero_add, ← Array.getElem?_toList]
    exact List.getElem?_eq_getElem hi⟩⟩
/-- The work of block b, all of whose memory is from B on; its chores' row is its own. -/
def WA (w : World) (B b : Nat) (vp vc : Value) (ps : List Pk) (cks : List Ck) : Prop :=
  Blk w b 66 #[vp, vc] ∧ B ≤ b ∧ w.ownsRow B 46 4 vc cks.length (cks.flatMap cCells) ∧ PAt w (KP w B b vc) vp ps ∧ ∀ k ∈ cks, RAt w (KP w B b vc) k.v k.c.row
def WAt (w : World) (B b : Nat) (n : Nt) : Prop := ∃ vp vc ps cks, WA w B b vp vc ps cks ∧ ps.map (·.p) = n.ps ∧ cks.map (·.c) = n.cs
theorem WA.kept {w w' : World} {B b : Nat} {vp vc : Value} {ps : List Pk} {cks : List Ck} (h : WA w B b vp vc ps cks) (hF : Frm (fun _ => False) w w') : WA w' B b vp vc ps cks := by
  obtain ⟨h1, h2, h3, h4, h5⟩ := h
  have hk := fun q => KP.kept (B := B) (b := b) (v := vc) (v' := vc) (hF.mono fun q hq => hq.elim) (.inl rfl) q
  exact ⟨h1.kept hF id, h2, hF.own h3 fun _ _ => id, h4.keptTo hk, fun k hk' => (h5 k hk').keptTo hk⟩
theorem WAt.kept {w w' : World} {B b : Nat} {n : Nt} (h : WAt w B b n) (hF : Frm (fun _ => False) w w') : WAt w' B b n := by
  obtain ⟨vp, vc, ps, cks, h1, h2, h3⟩ := h
  exact ⟨vp, vc, ps, cks, h1.kept hF, h2, h3⟩
/-- A net in a block, to be read. -/
def Rd (w : World) (b : Nat) (t : TypeId) (K : Nat → Prop) (n : Nt) : Prop := ∃ A1 n1 c1 A k c ps cks, Blk w b t #[.slice A1 n1 c1, .slice A k c] ∧ PAt w K (.slice A1 n1 c1) ps ∧ CsAt w K (.slice A k c) cks ∧ ps.map (·.p) = n.ps ∧ cks.map (·.c) = n.cs
theorem PAt.form {w : World} {K : Nat → Prop} {v : Value} {ps : List Pk} (h : PAt w K v ps) : ∃ A n c, v = .slice A n c := by
  obtain ⟨⟨A, n, c, rfl, -⟩, -⟩ := h
  exact ⟨A, n, c, rfl⟩
theorem WA.cs {w : World} {B b : Nat} {vp vc : Value} {ps : List Pk} {cks : List Ck} (h : WA w B b vp vc ps cks) : CsAt w (fun q => B ≤ q ∧ q < w.heap.size ∧ q ≠ b ∧ UF w q) vc cks := by
  obtain ⟨h1, h2, h3, h4, h5⟩ := h
  refine ⟨SlZ.of_own h3 fun g hg => ?_, fun k hk => (h5 k hk).keptTo fun q hq => ⟨rfl, hq.1, hq.2.1, hq.2.2.1, hq.2.2.2.2⟩⟩
  have h := UF.own h3 g hg
  exact ⟨h.1, h.2.1, fun e => own_blk_ne h3 h1 (by decide) (by rw [hg, e]), h.2.2⟩
theorem WA.ps {w : World} {B b : Nat} {vp vc : Value} {ps : List Pk} {cks : List Ck} (h : WA w B b vp vc ps cks) : PAt w (fun q => B ≤ q ∧ q < w.heap.size ∧ q ≠ b ∧ UF w q) vp ps :=
  h.2.2.2.1.keptTo fun q hq => ⟨rfl, hq.1, hq.2.1, hq.2.2.1, hq.2.2.2.2⟩
theorem WAt.rd {w : World} {B b : Nat} {n : Nt} (h : WAt w B b n) : Rd w b 66 (fun q => B ≤ q ∧ q < w.heap.size ∧ q ≠ b ∧ UF w q) n := by
  obtain ⟨vp, vc, ps, cks, h1, h2, h3⟩ := h
  have hp := h1.ps
  obtain ⟨A1, n1, c1, rfl⟩ := hp.form
  obtain ⟨A, c, rfl, -, -⟩ := own_form h1.2.2.1
  exact ⟨A1, n1, c1, A, _, c, ps, cks, h1.1, hp, h1.cs, h2, h3⟩
theorem Rd.mono {w : World} {b : Nat} {t : TypeId} {K K' : Nat → Prop} {n : Nt} (h : Rd w b t K n) (hK : ∀ q, K q → K' q) : Rd w b t K' n := by
  obtain ⟨A1, n1, c1, A, k, c, ps, cks, h1, h2, h3, h4⟩ := h
  exact ⟨A1, n1, c1, A, k, c, ps, cks, h1, h2.keptTo fun q hq => ⟨rfl, hK q hq⟩, h3.keptTo fun q hq => ⟨rfl, hK q hq⟩, h4⟩
theorem Rd.kept {w w' : World} {b : Nat} {t : TypeId} {n : Nt} (h : Rd w b t (fun q => q < w.heap.size) n) (hF : Frm (fun _ => False) w w') : Rd w' b t (fun q => q < w'.heap.size) n := by
  obtain ⟨A1, n1, c1, A, k, c, ps, cks, h1, h2, h3, h4⟩ := h
  exact ⟨A1, n1, c1, A, k, c, ps, cks, h1.kept hF id, h2.keptTo fun q hq => ⟨hF.block q hq id, Nat.lt_of_lt_of_le hq hF.size⟩, h3.keptTo fun q hq => ⟨hF.block q hq id, Nat.lt_of_lt_of_le hq hF.size⟩, h4⟩
/-- A net's value, in blocks of K. -/
def NV (w : World) (K : Nat → Prop) (V : Value) (n : Nt) : Prop := ∃ A1 n1 c1 A k c, V = .agg #[.slice A1 n1 c1, .slice A k c] ∧ NAt w K (.slice A1 n1 c1) (.slice A k c) n
theorem NV.keptTo {w w' : World} {K K' : Nat → Prop} {V : Value} {n : Nt} (h : NV w K V n) (hf : ∀ q, K q → w'.heap[q]? = w.heap[q]? ∧ K' q) : NV w' K' V n := by
  obtain ⟨A1, n1, c1, A, k, c, rfl, h⟩ := h
  exact ⟨A1, n1, c1, A, k, c, rfl, h.keptTo hf⟩
/-- It can be read. -/
def NR (w : World) (V : Value) (n : Nt) : Prop := NV w (fun q => q < w.heap.size) V n
theorem NR.kept {w w' : World} {V : Value} {n : Nt} (h : NR w V n) (hF : Frm (fun _ => False) w w') : NR w' V n := NV.keptTo h fun q hq => ⟨hF.block q hq id, Nat.lt_of_lt_of_le hq hF.size⟩
theorem NV.nr {w : World} {K : Nat → Prop} {V : Value} {n : Nt} (h : NV w K V n) (hK : ∀ q, K q → q < w.heap.size) : NR w V n := NV.keptTo h fun q hq => ⟨rfl, hK q hq⟩
/-- A size that a machine may have. -/
def SmN (n : Nt) : Prop := n.ps.length ≤ 1000 ∧ n.cs.length ≤ 1000 ∧ (∀ p ∈ n.ps, p.ins.length ≤ 1000000) ∧ ∀ c ∈ n.cs, c.row.length ≤ 1000000
end Go.Proofs.Ytnibllkcacalhaa
namespace Go.Proofs.Ytnibllkcacalhaa
set_option maxRecDepth 100000
open Go.RowKit Go.ChangeShapes Go.WideShapes Go.Deep
section
variable {H : Type} {enc : TypeId × Value → H} {W : World}
abbrev PiT := Int × (Value × List (List Value × Int)) × Bool × Unit
abbrev ChT := (Value × List (List Value × (Int × Int × Int × Unit))) × Int × Int × Int × Unit
def RelNt (W : World) : List Value → (Value × List (List Value × PiT)) × (Value × List (List Value × ChT)) × Unit → Prop := RCons (RSl W 3 (RelPi W)) (RCons (RSl W 4 (RelCh W)) RNil)
theorem rdr_nt : Rdr enc Try.prog W 25 2 (RelNt W) :=
  rdr_struct Try.underlying25 (by kernel_rfl) (rf_cons (s := 1) (sz := 1) rfl rfl (rdr_slice Try.underlying22 (by kernel_rfl) (by omega) rdr_pi) (rf_cons (s := 1) (sz := 0) rfl rfl (rdr_slice Try.underlying23 (by kernel_rfl) (by omega) rdr_ch) rf_nil))
def toCk (y : ChT) : Ck := ⟨y.1.1, ⟨y.1.2.map fun y => toEr y.2, y.2.1, y.2.2.1, y.2.2.2.1⟩⟩
theorem cat_of {v : Value} {ys : List (List Value × ChT)} (h1 : SlZ W (fun k => k < W.heap.size) 4 v (ys.flatMap (·.1))) (h2 : ∀ y ∈ ys, y.1.length = 4 ∧ RelCh W y.1 y.2) : CsAt W (fun q => q < W.heap.size) v (ys.map fun y => toCk y.2) := by
  rw [flat_rel ys toCk cCells fun y hy => (relCh (h2 y hy).2).1] at h1
  refine ⟨h1, fun k hk => ?_⟩
  obtain ⟨y, hy, rfl⟩ := List.mem_map.1 hk
  exact (relCh (h2 y hy).2).2
theorem read_net {base : Nat} {v : Value} {d : DataW H} {p : List MemPlace} (hok : Value.okWide Try.prog W .any base 25 v) (h : DataW.Trod enc Try.prog W 0 (fun _ => true) true 25 v d p) : ∃ N, NR W v N := by
  obtain ⟨cs, rfl, -⟩ := okWide_struct Try.underlying25 hok
  obtain ⟨y, hy⟩ := rdr_arg (rdr_nt (enc := enc) (W := W)) h
  obtain ⟨⟨v1, zs⟩, ⟨v2, us⟩, u⟩ := y
  obtain ⟨c0, c1, e0, ⟨rfl, h1, h2⟩, c2, c3, rfl, ⟨rfl, g1, g2⟩, h⟩ := hy
  have h' : c3 = [] := h
  subst h'
  have hp := pat_of h1 h2
  have hc := cat_of g1 g2
  obtain ⟨A1, n1, k1, rfl, -⟩ := id hp.1
  obtain ⟨A, n, k, rfl, -⟩ := id hc.1
  refine ⟨⟨_, _⟩, A1, n1, k1, A, n, k, ?_, _, _, hp, hc, rfl, rfl⟩
  rw [← Array.toArray_toList (xs := cs)]
  have e : cs.toList = _ := e0
  rw [e]
  rfl
theorem read_picks {base : Nat} {v : Value} {d : DataW H} {p : List MemPlace} (hok : Value.okWide Try.prog W .any base 26 v) (h : DataW.Trod enc Try.prog W 0 (fun _ => true) true 26 v d p) :
    ∃ qs : List Int, Sl W (fun k => k < W.heap.size) v (qs.map iv) := by
  obtain ⟨qs, h1, -⟩ := read_ints Try.underlying26 Try.underlying3 (by kernel_rfl) hok h
  exact ⟨qs, h1⟩
end
end Go.Proofs.Ytnibllkcacalhaa
