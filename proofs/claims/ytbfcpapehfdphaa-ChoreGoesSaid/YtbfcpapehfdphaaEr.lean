/- Chores and pipes: plain; how they lie in memory. -/
import Derived.Test.YtbfcpapehfdphaaLib
namespace Go.Proofs.Ytbfcpapehfdphaa
open Go.RowKit
structure Er where
  d : Int
  q : Int
  n : Int
deriving DecidableEq
structure Ch where
  row : List Er
  at_ : Int
  sum : Int
  wrong : Int
deriving DecidableEq
structure Pi where
  room : Int
  ins : List Int
  closed : Bool
deriving DecidableEq
/-- May an errand be, of m pipes? -/
def mayB (m : Int) (e : Er) : Bool :=
  if e.d = 1 then decide (0 ≤ e.q) && decide (e.q < m) else if e.d = 2 ∨ e.d = 4 then (e.n == 0) && (decide (0 ≤ e.q) && decide (e.q < m)) else if e.d = 3 then (e.q == 0) else if e.d = 5 then (e.q == 0) && (e.n == 0) else false
def headB (c : Ch) : Bool := decide (c.row.length ≤ 64) && (decide (0 ≤ c.at_) && (decide (c.at_ ≤ c.row.length) && (decide (0 ≤ c.wrong) && decide (c.wrong ≤ 64))))
def rightB (m : Int) (c : Ch) : Bool := headB c && c.row.all (mayB m)
def pipeB (p : Pi) : Bool := decide (1 ≤ p.room) && (decide (p.room ≤ 16) && decide ((p.ins.length : Int) ≤ p.room))
def pipesB (l : List Pi) : Bool := l.all pipeB && decide (l.length ≤ 8)
def overB (c : Ch) : Bool := decide (c.at_ = c.row.length)
/-- Can it be done on that pipe? -/
def canP (d : Int) (p : Pi) : Bool := if d = 1 then p.closed || decide ((p.ins.length : Int) < p.room) else p.closed || decide (0 < p.ins.length)
def canB (e : Er) (l : List Pi) : Bool := if e.d = 1 ∨ e.d = 2 then (match l[e.q.toNat]? with | some p => canP e.d p | none => false) else true
def nextB (c : Ch) (l : List Pi) : Bool := match c.row[c.at_.toNat]? with | some e => canB e l | none => false
def readyB (c : Ch) (l : List Pi) : Bool := pipesB l && (rightB l.length c && (!overB c && nextB c l))
def u32w (x : Int) : Int := IntKind.u32.wrap x
/-- A put, a get: what becomes of the pipe. -/
def putP (x : Int) (p : Pi) : Pi := if p.closed then p else { p with ins := p.ins ++ [u32w x] }
def getP (p : Pi) : Pi := { p with ins := p.ins.drop 1 }
def getS (s : Int) (p : Pi) : Int := match p.ins with | x :: _ => u32w (s * 31 + x + 1) | [] => u32w (s * 31)
def pipeN (e : Er) (c : Ch) (p : Pi) : Pi := if e.d = 1 then putP (c.sum + e.n) p else if e.d = 2 then getP p else if e.d = 4 then { p with closed := true } else p
def choreN (e : Er) (c : Ch) (p : Option Pi) : Ch :=
  if e.d = 1 then { c with at_ := c.at_ + 1, wrong := if (p.map (·.closed)).getD false then c.wrong + 1 else c.wrong }
  else if e.d = 2 then { c with at_ := c.at_ + 1, sum := (p.map (getS c.sum)).getD c.sum }
  else if e.d = 3 then { c with at_ := c.at_ + 1, sum := u32w (c.sum + e.n) }
  else if e.d = 5 then { c with at_ := c.row.length }
  else { c with at_ := c.at_ + 1 }
def pipesN (e : Er) (c : Ch) (l : List Pi) : List Pi := if e.d = 3 ∨ e.d = 5 then l else l.modify e.q.toNat (pipeN e c)
/-- A step. -/
def stepN (c : Ch) (l : List Pi) : Ch × List Pi :=
  if readyB c l then (match c.row[c.at_.toNat]? with | some e => (choreN e c l[e.q.toNat]?, pipesN e c l) | none => (c, l)) else (c, l)
/-- A pipe, and the slice of what is in it. -/
structure Pk where
  v : Value
  p : Pi
def uv (l : List Int) : List Value := l.map (.int .u32)
theorem uv_length (l : List Int) : (uv l).length = l.length := by simp [uv]
theorem uv_one (l : List Int) : ∀ u ∈ uv l, u.oneCell' = true := by
  intro u hu
  obtain ⟨x, -, rfl⟩ := List.mem_map.1 hu
  rfl
def eCells (e : Er) : List Value := [.int .u8 e.d, .int .i64 e.q, .int .u32 e.n]
def pCells (p : Pk) : List Value := [.int .i64 p.p.room, p.v, .bool p.p.closed]
theorem flat3 {α : Type} (f : α → List Value) (hf : ∀ x, (f x).length = 3) (ys : List α) : (ys.flatMap f).length = ys.length * 3 := by
  induction ys with
  | nil => rfl
  | cons y ys ih => rw [List.flatMap_cons, List.length_append, hf, ih, List.length_cons]; omega
theorem flat3_at {α : Type} (f : α → List Value) (hf : ∀ x, (f x).length = 3) (ys : List α) (k j : Nat) (hk : k < ys.length) (hj : j < 3) : (ys.flatMap f)[k * 3 + j]? = (f ys[k])[j]? := by
  induction ys generalizing k with
  | nil => simp at hk
  | cons y ys ih =>
    rw [List.flatMap_cons]
    cases k with
    | zero => rw [List.getElem?_append_left (by rw [hf]; omega)]; simp
    | succ k =>
      rw [List.getElem?_append_right (by rw [hf]; omega), hf, show (k + 1) * 3 + j - 3 = k * 3 + j from by omega, ih k (by simpa using hk)]
      simp
/-- A slice of errands; a slice of pipes. -/
def RAt (w : World) (K : Nat → Prop) (v : Value) (es : List Er) : Prop := SlZ w K 3 v (es.flatMap eCells)
def PAt (w : World) (K : Nat → Prop) (v : Value) (ps : List Pk) : Prop := SlZ w K 3 v (ps.flatMap pCells) ∧ ∀ p ∈ ps, Sl w K p.v (uv p.p.ins)
theorem slz3 {α : Type} {w : World} {K : Nat → Prop} {A : Option Addr} {n c : Nat} (f : α → List Value) (hf : ∀ x, (f x).length = 3) (ys : List α) (h : SlZ w K 3 (.slice A n c) (ys.flatMap f)) :
    n = ys.length ∧ n ≤ c ∧ c ≤ 9223372036854775807 ∧ ∀ i (hi : i < ys.length), ∃ g o, A = some ⟨g, o, none⟩ ∧ K g ∧ ∀ j, j < 3 → w.cell? ⟨g, o + i * 3 + j, none⟩ = (f ys[i])[j]? := by
  obtain ⟨A', n', c', e, hn, hc, hm, hx⟩ := h
  cases e
  have hl := flat3 f hf ys
  refine ⟨by omega, hc, hm, fun i hi => ?_⟩
  obtain ⟨g, o, rfl, hK, hcs⟩ := hx.resolve_left (by omega)
  refine ⟨g, o, rfl, hK, fun j hj => ?_⟩
  rw [← flat3_at f hf ys i j hi hj, Nat.add_assoc, hcs _ (by omega), List.getElem?_eq_getElem]
theorem RAt.cells {w : World} {K : Nat → Prop} {A : Option Addr} {n c : Nat} {es : List Er} (h : RAt w K (.slice A n c) es) :
    n = es.length ∧ n ≤ c ∧ c ≤ 9223372036854775807 ∧ ∀ i (hi : i < es.length), ∃ g o, A = some ⟨g, o, none⟩ ∧ K g ∧ w.cell? ⟨g, o + i * 3, none⟩ = some (.int .u8 es[i].d) ∧ w.cell? ⟨g, o + i * 3 + 1, none⟩ = some (.int .i64 es[i].q) ∧ w.cell? ⟨g, o + i * 3 + 2, none⟩ = some (.int .u32 es[i].n) := by
  obtain ⟨h1, h2, h3, h4⟩ := slz3 eCells (fun _ => rfl) es h
  refine ⟨h1, h2, h3, fun i hi => ?_⟩
  obtain ⟨g, o, e, hK, hc⟩ := h4 i hi
  exact ⟨g, o, e, hK, hc 0 (by omega), hc 1 (by omega), hc 2 (by omega)⟩
theorem PAt.cells {w : World} {K : Nat → Prop} {A : Option Addr} {n c : Nat} {ps : List Pk} (h : PAt w K (.slice A n c) ps) :
    n = ps.length ∧ n ≤ c ∧ c ≤ 9223372036854775807 ∧ ∀ i (hi : i < ps.length), ∃ g o, A = some ⟨g, o, none⟩ ∧ K g ∧ w.cell? ⟨g, o + i * 3, none⟩ = some (.int .i64 ps[i].p.room) ∧ w.cell? ⟨g, o + i * 3 + 1, none⟩ = some ps[i].v ∧ w.cell? ⟨g, o + i * 3 + 2, none⟩ = some (.bool ps[i].p.closed) := by
  obtain ⟨h1, h2, h3, h4⟩ := slz3 pCells (fun _ => rfl) ps h.1
  refine ⟨h1, h2, h3, fun i hi => ?_⟩
  obtain ⟨g, o, e, hK, hc⟩ := h4 i hi
  exact ⟨g, o, e, hK, hc 0 (by omega), hc 1 (by omega), hc 2 (by omega)⟩
theorem RAt.keptTo {w w' : World} {K K' : Nat → Prop} {v : Value} {es : List Er} (h : RAt w K v es) (hf : ∀ q, K q → w'.heap[q]? = w.heap[q]? ∧ K' q) : RAt w' K' v es := SlZ.keptTo (w := w) h hf
theorem PAt.keptTo {w w' : World} {K K' : Nat → Prop} {v : Value} {ps : List Pk} (h : PAt w K v ps) (hf : ∀ q, K q → w'.heap[q]? = w.heap[q]? ∧ K' q) : PAt w' K' v ps :=
  ⟨SlZ.keptTo h.1 hf, fun p hp => (h.2 p hp).keptTo hf⟩
end Go.Proofs.Ytbfcpapehfdphaa
