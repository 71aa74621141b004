/- Words for memory that all texts of this seat share: frames, slices that read as lists. A loop over an iterator that turns what it holds, and hands over memory that it made: the contract, and the law for a body that goes on. Scripts: the plain model: lines, words, numbers, texts, what a line says. A long region that draws its order, most of whose operations wait for one another: walked in pieces: in the text's order where only one may come up (or a move, which may be taken first); where some reads may come up, but nothing behind them, still. A loop over an iterator that turns what it holds, whose body may return: the contract, and the law. A region that draws its order, by what is told of each operation's slot: one obligation an operation, whatever the order. Two rows that are made and filled in whatever order ('p, q := a.F, b.F': operations 4 and 5 make them, 6 and 7 fill them). From a law's walk to its row: what is read, and that all reads as it did. Arguments of any shape, read as data. The walk of teaselref01.Ints. The program's words and the document's: they are the same, or each has one that says nothing. A line's words that say nothing; the document's words say what the program's say. -/
import Derived.Test.YtpcdbkaeijhmfaaGreatDoorRows
import Derived.WalkKit
import Derived.WalkSpells
import Derived.WalkLawsBesides
import Derived.Lib.Hide
import Derived.Deep.RegionHeld3
import Derived.Deep.AppendLies
import Derived.Deep.QuietTactic
import Derived.BigQuiet
import Derived.Deep.RegionLaw
import Derived.Maps.AppendAt
import Derived.RangeFuncNested
import Derived.RangeFuncWrites
import Derived.RangeFuncCalls
import Derived.StillTailTactics
import Derived.Deep.MidRow
import Derived.ProofKit
import Derived.Carry
import Derived.OpenShut
import Derived.Deep.Matrix
import Derived.Deep.Slices
import Derived.Deep.Fields
import Derived.ChangeSame
namespace Go.Proofs.YtpcdbkaeijhmfaaGreatDoor
set_option maxRecDepth 100000
set_option linter.unusedVariables false
set_option linter.unusedSimpArgs false
open Go.RowKit

theorem args1 {a : Act} {x : Operand} {v : Value} (h : a.eval x = v) : #[] ++ (#[x] : Array Operand).map a.eval ++ #[] = #[v] := by simp [h]
theorem args2 {a : Act} {x y : Operand} {v u : Value} (h : a.eval x = v) (h' : a.eval y = u) : #[] ++ (#[x, y] : Array Operand).map a.eval ++ #[] = #[v, u] := by simp [h, h']
theorem args3 {a : Act} {x y z : Operand} {v u t : Value} (h : a.eval x = v) (h' : a.eval y = u) (h2 : a.eval z = t) : #[] ++ (#[x, y, z] : Array Operand).map a.eval ++ #[] = #[v, u, t] := by simp [h, h', h2]
/-- A CALL OF A Go FUNCTION AS ONE STEP OF A REGION THAT DRAWS: for 'go_region_law': its contract R. -/
theorem step_call {P : Program} {ops : Array Oper} {o : Oper} {a : Act} {w : World} {K : Act → World → Prop} {Q : Exit → Act → World → Prop} {E : Prop} (hgd : o.guard = none) {f : FuncId} {vs : Array Value} {R : Ending → World → Prop} (hc : Calls P f vs w R)
    (xs : Array Operand) (ats : Array TypeId) (ho : o.op = .call { callee := .value (.func f), args := xs, argTypes := ats }) (hv : #[] ++ xs.map a.eval ++ #[] = vs) (hen : (callFunc f vs).run P w = .ok (.enter f vs) w)
    (h : ∀ e w', R e w' → ∃ v, e = .returned v ∧ K (a.put o.dst v) w') :
    if Region.wanted o (yielded ops a.tmps) = true then Oper.wp P o a w K Q else E := by
  have hw : Region.wanted o (yielded ops a.tmps) = true := by simp [Region.wanted, hgd]
  rw [if_pos hw]
  obtain ⟨dst, op, ty, pos, after, guard⟩ := o
  dsimp only at ho h
  subst ho
  unfold Oper.wp
  rw [execOp_call_go, hv]
  rw [hen, Oper.upon_enter]
  refine hc.mono fun e w' hr => ?_
  obtain ⟨v, rfl, hK⟩ := h e w' hr
  exact hK

/-- A contract that ends in a later draw of the same world, met in a quiet region behind a draws. -/
theorem quiet_up {P : Program} {f : FuncId} {args : Array Value} {w : World} {a n : Nat} {v : Value} {R : Ending → World → Prop} (h : Calls P f args (w.drewN (a + n)) R)
    (hR : ∀ e w', R e w' → e = .returned v ∧ ∃ m, w' = w.drewN (a + m)) : Calls P f args (w.drewN (a + n)) fun e w'' => e = .returned v ∧ ∃ m, w'' = w.drewN (a + m) := h.mono hR
theorem quiet_add {P : Program} {f : FuncId} {args : Array Value} {w : World} {a n : Nat} {v : Value}
    (h : Calls P f args (w.drewN (a + n)) fun e w' => e = .returned v ∧ ∃ m, w' = (w.drewN (a + n)).drewN m) : Calls P f args (w.drewN (a + n)) fun e w'' => e = .returned v ∧ ∃ m, w'' = w.drewN (a + m) :=
  quiet_up h (by rintro e w' ⟨rfl, m, rfl⟩; exact ⟨rfl, n + m, by rw [World.drewN_drewN, Nat.add_assoc]⟩)
theorem quiet_add_left {P : Program} {f : FuncId} {args : Array Value} {w : World} {a n : Nat} {v : Value}
    (h : Calls P f args (w.drewN (a + n)) fun e w' => e = .returned v ∧ w.drewN (a + n) = w') : Calls P f args (w.drewN (a + n)) fun e w'' => e = .returned v ∧ ∃ m, w'' = w.drewN (a + m) :=
  quiet_up h (by rintro e w' ⟨rfl, rfl⟩; exact ⟨rfl, n, rfl⟩)
theorem quiet_left {P : Program} {f : FuncId} {args : Array Value} {w : World} {n : Nat} {v : Value}
    (h : Calls P f args (w.drewN n) fun e w' => e = .returned v ∧ w.drewN n = w') : Calls P f args (w.drewN n) fun e w'' => e = .returned v ∧ ∃ m, w'' = w.drewN m :=
  Calls.quiet_of_same (h.mono (by rintro e w' ⟨rfl, rfl⟩; exact ⟨rfl, rfl⟩))
/-- A call as one step of a region that draws, guarded or not. -/
theorem step_call_g {P : Program} {ops : Array Oper} {o : Oper} {a : Act} {w : World} {K : Act → World → Prop} {Q : Exit → Act → World → Prop} {E : Prop} (hw : Region.wanted o (yielded ops a.tmps) = true) {f : FuncId} {vs : Array Value} {R : Ending → World → Prop} (hc : Calls P f vs w R)
    (xs : Array Operand) (ats : Array TypeId) (ho : o.op = .call { callee := .value (.func f), args := xs, argTypes := ats }) (hv : #[] ++ xs.map a.eval ++ #[] = vs) (hen : (callFunc f vs).run P w = .ok (.enter f vs) w)
    (h : ∀ e w', R e w' → ∃ v, e = .returned v ∧ K (a.put o.dst v) w') :
    if Region.wanted o (yielded ops a.tmps) = true then Oper.wp P o a w K Q else E := by
  rw [if_pos hw]
  obtain ⟨dst, op, ty, pos, after, guard⟩ := o
  dsimp only at ho h
  subst ho
  unfold Oper.wp
  rw [execOp_call_go, hv, hen, Oper.upon_enter]
  refine hc.mono fun e w' hr => ?_
  obtain ⟨v, rfl, hK⟩ := h e w' hr
  exact hK
/-- Outside the blocks of K all is as it was. -/
structure Frm (K : Nat → Prop) (w w' : World) : Prop where
  os : w'.os = w.os
  tape : w'.tape = w.tape
  output : w'.output = w.output
  size : w.heap.size ≤ w'.heap.size
  block : ∀ k, k < w.heap.size → ¬ K k → w'.heap[k]? = w.heap[k]?
section
variable {K K' : Nat → Prop} {w w1 w2 : World}
theorem Frm.refl (K : Nat → Prop) (w : World) : Frm K w w := ⟨rfl, rfl, rfl, Nat.le_refl _, fun _ _ _ => rfl⟩
theorem Frm.trans (h : Frm K w w1) (h' : Frm K' w1 w2) (hk : ∀ k, K' k → K k ∨ w.heap.size ≤ k) : Frm K w w2 :=
  ⟨h'.os.trans h.os, h'.tape.trans h.tape, h'.output.trans h.output, Nat.le_trans h.size h'.size, fun k hl hn =>
    (h'.block k (Nat.lt_of_lt_of_le hl h.size) (fun hk' => (hk k hk').elim hn (fun hh => absurd hl (by omega)))).trans (h.block k hl hn)⟩
theorem Frm.trans' (h : Frm K w w1) (h' : Frm K w1 w2) : Frm K w w2 := h.trans h' (fun _ hk => Or.inl hk)
theorem Frm.mono (h : Frm K w w1) (hk : ∀ k, K k → K' k ∨ w.heap.size ≤ k) : Frm K' w w1 :=
  ⟨h.os, h.tape, h.output, h.size, fun k hl hn => h.block k hl (fun h' => (hk k h').elim hn (fun hh => absurd hl (by omega)))⟩
theorem Frm.drew (h : Frm K w w1) : Frm K w w1.drew := ⟨h.os, h.tape, h.output, h.size, h.block⟩
theorem Frm.drewN (h : Frm K w w1) (n : Nat) : Frm K w (w1.drewN n) := ⟨h.os, h.tape, h.output, h.size, h.block⟩
theorem Frm.alloc (h : Frm K w w1) (o : Obj) : Frm K w (w1.alloc o) :=
  ⟨h.os, h.tape, h.output, Nat.le_trans h.size (by simp), fun k hl hn => (Below.heap_alloc _ _ _ (Nat.lt_of_lt_of_le hl h.size)).trans (h.block k hl hn)⟩
theorem Frm.setCell (h : Frm K w w1) (p : Addr) (hp : K p.block ∨ w.heap.size ≤ p.block) (u : Value) : Frm K w (w1.setCell p u) :=
  ⟨h.os, h.tape, h.output, by simpa using h.size, fun k hl hn => (Below.heap_setCell _ _ _ _ (by rintro rfl; exact hp.elim hn (fun hh => absurd hl (by omega)))).trans (h.block k hl hn)⟩
theorem Frm.grown (h : Frm K w w1) {row : Option Nat} (hg : w1.grownBy w2 row) (hr : ∀ k, row = some k → K k ∨ w.heap.size ≤ k) : Frm K w w2 :=
  h.trans (K' := fun k => row = some k) ⟨hg.os, hg.tape, hg.output, hg.size, fun k hl hn => hg.block k hl (fun e => hn e.symm)⟩ hr
theorem Frm.of_grown {row : Option Nat} (hg : w1.grownBy w2 row) : Frm (fun k => row = some k) w1 w2 :=
  ⟨hg.os, hg.tape, hg.output, hg.size, fun k hl hn => hg.block k hl (fun e => hn e.symm)⟩
theorem Frm.cell (h : Frm K w w1) {a : Addr} {v : Value} (hc : w.cell? a = some v) (hk : ¬ K a.block) : w1.cell? a = some v :=
  (World.cell?_of_block (w := w) (h.block a.block (World.block_lt_of_cell? _ _ hc) hk)).trans hc
theorem Frm.frozen (h : Frm K w w1) {a : Addr} (hc : a.block < w.heap.size) (hk : ¬ K a.block) : w1.frozen? a = w.frozen? a :=
  World.frozen?_of_block (w := w) (h.block a.block hc hk)
theorem Frm.own {base n size : Nat} {e : TypeId} {v : Value} {xs : List Value} (h : Frm K w w1) (ho : w.ownsRow base e size v n xs) (hk : ∀ g, v.ownBlock = some g → ¬ K g) : w1.ownsRow base e size v n xs := by
  refine ⟨ho.1, ?_⟩
  rcases ho.2 with hn | ⟨g, cap, cur, rfl, hb, hgg, rest⟩
  · exact .inl hn
  · exact .inr ⟨g, cap, cur, rfl, hb, (h.block g (Array.getElem?_eq_some_iff.1 hgg).1 (hk g rfl)).trans hgg, rest⟩
theorem Frm.below {B : Nat} (h : Frm K w w1) (hB : B ≤ w.heap.size) (hk : ∀ k, K k → B ≤ k) : Below B w w1 :=
  ⟨h.os, h.tape, h.output, h.size, fun k hl => h.block k (by omega) (fun h' => by have := hk k h'; omega)⟩
end

theorem Frm.of_below {w w' : World} (h : Below w.heap.size w w') : Frm (fun _ => False) w w' := ⟨h.os, h.tape, h.output, h.size, fun k hk _ => h.block k hk⟩
/-- A store of what the cell holds changes nothing. -/
theorem setCell_same {w : World} {b i : Nat} {v : Value} (h : w.cell? ⟨b, i, none⟩ = some v) : w.setCell ⟨b, i, none⟩ v = w := by
  have key : w.heap.modify b (fun
      | .cells c elem frozen => .cells (if (none : Option Nat).isSome then c else c.setIfInBounds i v) elem frozen
      | o => o) = w.heap := by
    apply Array.ext
    · simp
    · intro k h1 h2
      rw [Array.getElem_modify]
      split
      · rename_i hk
        subst hk
        unfold World.cell? at h
        rw [Array.getElem?_eq_getElem h2] at h
        cases hc : w.heap[b] with
        | cells c t fr =>
          rw [hc] at h
          simp at h ⊢
          apply Array.ext
          · simp
          · intro j h3 h4
            rw [Array.getElem_setIfInBounds]
            split
            · rename_i hj; subst hj; rw [Array.getElem?_eq_getElem h4] at h; exact (Option.some.inj h).symm
            · rfl
        | _ => simp [hc] at h
      · rfl
  show ({ w with heap := _ } : World) = w
  have e : (w.setCell ⟨b, i, none⟩ v).heap = w.heap := key
  cases w
  simp only [World.setCell] at e ⊢
  congr 1

/-- Block g is just the cells cs, none frozen. -/
def Blk (w : World) (g : Nat) (t : TypeId) (cs : Array Value) : Prop := w.heap[g]? = some (.cells cs t (0, 0))
section
variable {w w' : World} {g : Nat} {t : TypeId} {cs : Array Value} {K : Nat → Prop}
theorem Blk.lt (h : Blk w g t cs) : g < w.heap.size := by
  rcases Nat.lt_or_ge g w.heap.size with hlt | hge
  · exact hlt
  · unfold Blk at h; rw [Array.getElem?_eq_none hge] at h; cases h
theorem Blk.cell (h : Blk w g t cs) (i : Nat) : w.cell? ⟨g, i, none⟩ = cs[i]? := cell_of_row w g i cs t (0, 0) h
theorem Blk.frozen (h : Blk w g t cs) (i : Nat) : w.frozen? ⟨g, i, none⟩ = false := by
  unfold Blk at h
  simp [World.frozen?, h]
theorem Blk.new (w : World) (t : TypeId) (cs : Array Value) : Blk (w.alloc (.cells cs t)) w.heap.size t cs := heap_alloc_new w _
theorem Blk.drew (h : Blk w g t cs) : Blk w.drew g t cs := h
theorem Blk.alloc (h : Blk w g t cs) (o : Obj) : Blk (w.alloc o) g t cs := (Below.heap_alloc w o g h.lt).trans h
theorem Blk.set_ (h : Blk w g t cs) (i : Nat) (u : Value) : Blk (w.setCell ⟨g, i, none⟩ u) g t (cs.setIfInBounds i u) := by
  unfold Blk at h ⊢
  simp [World.setCell, Array.getElem?_modify, h]
theorem Blk.far (h : Blk w g t cs) {p : Addr} (hp : g ≠ p.block) (u : Value) : Blk (w.setCell p u) g t cs := (Below.heap_setCell w p u g hp).trans h
theorem lt_heap {o : Obj} (h : w.heap[g]? = some o) : g < w.heap.size := by
  rcases Nat.lt_or_ge g w.heap.size with hlt | hge
  · exact hlt
  · rw [Array.getElem?_eq_none hge] at h; cases h
theorem Blk.kept (h : Blk w g t cs) (hf : Frm K w w') (hg : ¬ K g) : Blk w' g t cs := (hf.block g h.lt hg).trans h
theorem Blk.ne_ {g' : Nat} {t' : TypeId} {cs' : Array Value} (h : Blk w g t cs) (h' : Blk w g' t' cs') (hne : t ≠ t') : g ≠ g' := by
  rintro rfl
  unfold Blk at h h'
  rw [h] at h'
  injection h' with h'
  injection h' with _ ht
  exact hne ht
end

/-- A slice value reads as the list xs (of one-cell elements), in blocks of K. -/
def Sl (w : World) (K : Nat → Prop) (v : Value) (xs : List Value) : Prop :=
  ∃ A n c, v = .slice A n c ∧ n = xs.length ∧ n ≤ c ∧ c ≤ 9223372036854775807 ∧
    (n = 0 ∨ ∃ g o, A = some ⟨g, o, none⟩ ∧ K g ∧ ∀ i (h : i < xs.length), w.cell? ⟨g, o + i, none⟩ = some xs[i])
def iv (x : Int) : Value := .int .i64 x
def sv (x : ByteArray) : Value := .string x
def bv (l : List UInt8) : List Value := l.map fun c => .int .u8 c.toNat
@[simp] theorem bv_length (l : List UInt8) : (bv l).length = l.length := by simp [bv]
theorem bv_one (l : List UInt8) : ∀ u ∈ bv l, u.oneCell' = true := by
  intro u hu; simp [bv] at hu; obtain ⟨c, _, rfl⟩ := hu; rfl
section
variable {w w' : World} {K K' : Nat → Prop} {v : Value} {xs : List Value}
theorem Sl.kept (h : Sl w K v xs) (hf : ∀ k, K k → w'.heap[k]? = w.heap[k]?) : Sl w' K v xs := by
  obtain ⟨A, n, c, rfl, hn, hc, hm, hx⟩ := h
  refine ⟨A, n, c, rfl, hn, hc, hm, hx.imp id ?_⟩
  rintro ⟨g, o, rfl, hK, hx⟩
  exact ⟨g, o, rfl, hK, fun i hi => (World.cell?_of_block (w := w) (hf g hK)).trans (hx i hi)⟩
/-- A new block of one cell. -/
theorem Sl.blk1 (w : World) (x : Value) (t : TypeId) : Sl (w.alloc (.cells #[x] t)) (fun k => k = w.heap.size) (.slice (some ⟨w.heap.size, 0, none⟩) 1 1) [x] :=
  ⟨_, _, _, rfl, rfl, Nat.le_refl _, by omega, .inr ⟨_, 0, rfl, rfl, fun i hi => by
    obtain rfl : i = 0 := by simp at hi; omega
    exact cell_of_row _ _ _ _ t (0, 0) (heap_alloc_new w _)⟩⟩
theorem Sl.nil_ (w : World) (K : Nat → Prop) : Sl w K (.slice none 0 0) [] := ⟨none, 0, 0, rfl, rfl, Nat.le_refl _, by omega, .inl rfl⟩
theorem Sl.blk (w : World) (cs : Array Value) (t : TypeId) {n : Nat} {xs : List Value} (hx : cs.toList = xs) (hn : n = xs.length ∧ n ≤ 1000000) : Sl (w.alloc (.cells cs t)) (fun k => k = w.heap.size) (.slice (some ⟨w.heap.size, 0, none⟩) n n) xs :=
  ⟨_, _, _, rfl, hn.1, Nat.le_refl _, by omega, .inr ⟨_, 0, rfl, rfl, fun i hi => by
    rw [cell_of_row _ _ _ cs t (0, 0) (heap_alloc_new w _), Nat.zero_add, ← Array.getElem?_toList, hx]
    exact List.getElem?_eq_getElem hi⟩⟩
/-- What a call handed back lies apart from K, and stays so. -/
def Apart (w : World) (K : Nat → Prop) (g : Nat) : Prop := ¬ K g ∧ g < w.heap.size
theorem Sl.next {K : Nat → Prop} {w w' : World} {v : Value} {xs : List Value} (h : Sl w (Apart w K) v xs) (hf : Frm K w w') : Sl w' (Apart w' K) v xs := by
  obtain ⟨A, n, c, rfl, hn, hc, hm, hx⟩ := h
  refine ⟨A, n, c, rfl, hn, hc, hm, hx.imp id ?_⟩
  rintro ⟨g, o, rfl, hK, hx⟩
  exact ⟨g, o, rfl, ⟨hK.1, Nat.lt_of_lt_of_le hK.2 hf.size⟩, fun i hi => (World.cell?_of_block (w := w) (hf.block g hK.2 hK.1)).trans (hx i hi)⟩
theorem Sl.mono (h : Sl w K v xs) (hk : ∀ k, K k → K' k) : Sl w K' v xs := by
  obtain ⟨A, n, c, rfl, hn, hc, hm, hx⟩ := h
  refine ⟨A, n, c, rfl, hn, hc, hm, hx.imp id ?_⟩
  rintro ⟨g, o, rfl, hK, hx⟩
  exact ⟨g, o, rfl, hk g hK, hx⟩

theorem own_ne {base n size g : Nat} {e t : TypeId} {cs : Array Value} {fr : Nat × Nat} (h : w.ownsRow base e size v n xs) (hg : w.heap[g]? = some (.cells cs t fr)) (hne : e ≠ t) : v.ownBlock ≠ some g := by
  rcases h.2 with ⟨rfl, _⟩ | ⟨g', cap, cur, rfl, _, hh, _⟩
  · simp [Value.ownBlock]
  · intro he
    have : g' = g := by simpa [Value.ownBlock] using he
    subst this
    rw [hh] at hg
    injection hg with hg
    injection hg with _ ht
    exact hne ht
theorem own_blk_ne {base n size g : Nat} {e t : TypeId} {cs : Array Value} (h : w.ownsRow base e size v n xs) (hg : Blk w g t cs) (hne : e ≠ t) : v.ownBlock ≠ some g := own_ne h hg hne
theorem Sl.keptTo (h : Sl w K v xs) (hf : ∀ k, K k → w'.heap[k]? = w.heap[k]? ∧ K' k) : Sl w' K' v xs := by
  obtain ⟨A, n, c, rfl, hn, hc, hm, hx⟩ := h
  refine ⟨A, n, c, rfl, hn, hc, hm, hx.imp id ?_⟩
  rintro ⟨g, o, rfl, hK, hx⟩
  exact ⟨g, o, rfl, (hf g hK).2, fun i hi => (World.cell?_of_block (w := w) (hf g hK).1).trans (hx i hi)⟩

/-- Blocks of K that are rows of element type t. -/
def TK (w : World) (K : Nat → Prop) (t : TypeId) (g : Nat) : Prop := K g ∧ ∃ cs fr, w.heap[g]? = some (.cells cs t fr)
theorem TK.kept {t : TypeId} {g : Nat} (h : TK w K t g) (hf : w'.heap[g]? = w.heap[g]?) (hK : K g → K' g) : TK w' K' t g :=
  ⟨hK h.1, by rw [hf]; exact h.2⟩
theorem TK.lt {t : TypeId} {g : Nat} (h : TK w K t g) : g < w.heap.size := by
  obtain ⟨_, cs, fr, hh⟩ := h
  exact lt_heap hh
theorem TK.ne_ {t t' : TypeId} {g g' : Nat} {cs : Array Value} (h : TK w K t g) (h' : Blk w g' t' cs) (hne : t ≠ t') : g ≠ g' := by
  rintro rfl
  obtain ⟨_, cs, fr, hh⟩ := h
  unfold Blk at h'
  rw [hh] at h'
  injection h' with h'
  injection h' with _ ht
  exact hne ht

/-- A slice of the call's own, that may be written: its row's block is known whole. -/
def OSl (w : World) (K : Nat → Prop) (e : TypeId) (v : Value) (xs : List Value) : Prop :=
  ∃ A n c, v = .slice A n c ∧ n = xs.length ∧ n ≤ c ∧ c ≤ 9223372036854775807 ∧
    ((A = none ∧ c = 0) ∨ ∃ g o cur, A = some ⟨g, o, none⟩ ∧ K g ∧ Blk w g e cur ∧ o + c ≤ cur.size ∧ ∀ i (h : i < xs.length), cur[o + i]? = some xs[i])
variable {e : TypeId}
theorem OSl.of_own {base n : Nat} (h : w.ownsRow base e 1 v n xs) (hK : ∀ g, v.ownBlock = some g → K g) : OSl w K e v xs := by
  obtain ⟨h1, h2⟩ := h
  rcases h2 with ⟨rfl, rfl⟩ | ⟨g, cap, cur, rfl, hb, hh, hn, hm, hs, ht⟩
  · exact ⟨none, 0, 0, rfl, by omega, Nat.le_refl _, by omega, Or.inl ⟨rfl, rfl⟩⟩
  · refine ⟨_, n, cap, rfl, by omega, hn, hm, Or.inr ⟨g, 0, cur, rfl, hK g rfl, hh, by omega, fun i hi => ?_⟩⟩
    subst ht
    simp at hi ⊢
theorem OSl.kept (h : OSl w K e v xs) (hf : ∀ k, K k → w'.heap[k]? = w.heap[k]? ∧ K' k) : OSl w' K' e v xs := by
  obtain ⟨A, n, c, rfl, hn, hc, hm, hx⟩ := h
  refine ⟨A, n, c, rfl, hn, hc, hm, hx.imp id ?_⟩
  rintro ⟨g, o, cur, rfl, hK, hg, hx⟩
  exact ⟨g, o, cur, rfl, (hf g hK).2, (hf g hK).1.trans hg, hx⟩
theorem OSl.kept' {b : Nat} {t : TypeId} {cs : Array Value} (h : OSl w K e v xs) (hb : Blk w b t cs) (hne : e ≠ t) (i : Nat) (u : Value) : OSl (w.setCell ⟨b, i, none⟩ u) K e v xs := by
  obtain ⟨A, n, c, rfl, hn, hc, hm, hx⟩ := h
  refine ⟨A, n, c, rfl, hn, hc, hm, hx.imp id ?_⟩
  rintro ⟨g, o, cur, rfl, hK, hg, hx⟩
  exact ⟨g, o, cur, rfl, hK, hg.far (hg.ne_ hb hne) u, hx⟩
theorem OSl.apart {K2 : Nat → Prop} (h : OSl w K e v xs) (hk : ∀ k, K k → ¬ K2 k) : Sl w (Apart w K2) v xs := by
  obtain ⟨A, n, c, rfl, hn, hc, hm, hx⟩ := h
  refine ⟨A, n, c, rfl, hn, hc, hm, ?_⟩
  rcases hx with ⟨rfl, rfl⟩ | ⟨g, o, cur, rfl, hK, hg, hs, hx⟩
  · exact Or.inl (by omega)
  · exact Or.inr ⟨g, o, rfl, ⟨hk g hK, hg.lt⟩, fun i hi => (hg.cell _).trans (hx i hi)⟩
theorem OSl.sl (h : OSl w K e v xs) : Sl w (TK w K e) v xs := by
  obtain ⟨A, n, c, rfl, hn, hc, hm, hx⟩ := h
  refine ⟨A, n, c, rfl, hn, hc, hm, ?_⟩
  rcases hx with ⟨rfl, rfl⟩ | ⟨g, o, cur, rfl, hK, hg, hs, hx⟩
  · exact Or.inl (by omega)
  · exact Or.inr ⟨g, o, rfl, ⟨hK, _, _, hg⟩, fun i hi => (hg.cell _).trans (hx i hi)⟩
end

theorem own_form {w : World} {base n size : Nat} {e : TypeId} {v : Value} {xs : List Value} (h : w.ownsRow base e size v n xs) : ∃ A c, v = .slice A n c ∧ n ≤ c ∧ c ≤ 9223372036854775807 := by
  rcases h.2 with ⟨rfl, rfl⟩ | ⟨g, cap, cur, rfl, _, _, hn, hc, _⟩
  · exact ⟨none, 0, rfl, Nat.le_refl _, by omega⟩
  · exact ⟨_, cap, rfl, hn, hc⟩
/-- 's[:h]', 's[l:]' of any slice whose elements take sz cells: to be laid ahead of a walk. -/
theorem run_take {P : Program} {t e sz : Nat} (ht : P.underlying t = some (.slice e)) (hz : ∀ w, (sizeOf e).run P w = .ok sz w) (A : Option Addr) (len cap : Nat) (h : Int) (h0 : 0 ≤ h) (h1 : h ≤ cap) (w : World) :
    (Instr.slice t (.slice A len cap) none (some (.int .i64 h)) none).run P w = .ok (.slice A h.toNat cap) w := by
  have he : P.elem t = e := by simp [Program.elem, ht]
  rw [run_slice_h w t A len cap (by rw [he]; exact ht) .i64 h h0 h1, he, hz]
  cases A <;> simp [Result.andThen, sliced, Addr.add]
theorem run_drop {P : Program} {t e sz : Nat} (ht : P.underlying t = some (.slice e)) (hz : ∀ w, (sizeOf e).run P w = .ok sz w) (A : Option Addr) (len cap : Nat) (l : Int) (h0 : 0 ≤ l) (h1 : l ≤ len) (w : World) :
    (Instr.slice t (.slice A len cap) (some (.int .i64 l)) none none).run P w = .ok (.slice (if cap = l.toNat then A else A.map (·.add (l.toNat * sz))) (len - l.toNat) (cap - l.toNat)) w := by
  have he : P.elem t = e := by simp [Program.elem, ht]
  rw [run_slice_l w t A len cap (by rw [he]; exact ht) .i64 l h0 h1, he, hz]
  simp [Result.andThen, sliced]
/-- The first k elements of a row of the call's own: 's[:k]'. -/
theorem own_take {w : World} {base n sz k c : Nat} {e : TypeId} {A : Option Addr} {xs : List Value} (h : w.ownsRow base e sz (.slice A n c) n xs) (hk : k ≤ n) : w.ownsRow base e sz (.slice A k c) k (xs.take (k * sz)) := by
  obtain ⟨h1, h2⟩ := h
  refine ⟨by rw [List.length_take, h1]; exact Nat.min_eq_left (Nat.mul_le_mul_right _ hk), ?_⟩
  rcases h2 with ⟨he, h0⟩ | ⟨g, cap, cur, he, hb, hh, hn, hm, hs, ht⟩
  · obtain ⟨rfl, rfl, rfl⟩ := he
    obtain rfl : k = 0 := by omega
    exact .inl ⟨rfl, rfl⟩
  · injection he with e1 e2 e3
    subst e1 e3
    exact .inr ⟨g, c, cur, rfl, hb, hh, by omega, hm, hs, by rw [← ht, List.take_take, Nat.min_eq_left (Nat.mul_le_mul_right _ hk)]⟩
theorem own_at {w : World} {base n sz c : Nat} {e : TypeId} {A : Option Addr} {xs : List Value} (h : w.ownsRow base e sz (.slice A n c) n xs) (i : Nat) (hi : i < xs.length) : ∃ g, A = some ⟨g, 0, none⟩ ∧ w.cell? ⟨g, i, none⟩ = some xs[i] := by
  rcases h.2 with ⟨he, h0⟩ | ⟨g, cap, cur, he, hb, hh, hn, hm, hs, ht⟩
  · have := h.1; subst h0; simp at this; subst this; simp at hi
  · injection he with e1 e2 e3
    refine ⟨g, e1, ?_⟩
    rw [cell_of_row w g _ cur e (0, 0) hh, ← Array.getElem?_toList]
    have h3 : (cur.toList.take (n * sz))[i]? = some xs[i] := by rw [ht]; exact List.getElem?_eq_getElem hi
    rw [List.getElem?_take] at h3
    split at h3
    · exact h3
    · cases h3
theorem own_blk {w : World} {base n sz : Nat} {e : TypeId} {v : Value} {xs : List Value} (h : w.ownsRow base e sz v n xs) (g : Nat) (hg : v.ownBlock = some g) : ∃ cs, Blk w g e cs := by
  rcases h.2 with ⟨rfl, h0⟩ | ⟨g', cap, cur, rfl, hb, hh, _⟩
  · cases hg
  · cases hg; exact ⟨cur, hh⟩
theorem own_new0 {w : World} {base g : Nat} {e : TypeId} (hg : w.heap.size = g) (hb : base ≤ w.heap.size) : (w.alloc (.cells #[] e)).ownsRow base e 1 (.slice (some ⟨g, 0, none⟩) 0 0) 0 [] := by
  subst hg
  exact World.ownsRow_made _ _ _ hb (Nat.zero_le _) rfl
theorem Sl.drop {w : World} {K : Nat → Prop} {A : Option Addr} {n c : Nat} {xs : List Value} (h : Sl w K (.slice A n c) xs) (q : Nat) (hq : q ≤ n) : Sl w K (.slice (if c = q then A else A.map (·.add q)) (n - q) (c - q)) (xs.drop q) := by
  obtain ⟨A', n', c', he, hn, hc, hm, hx⟩ := h
  cases he
  refine ⟨_, _, _, rfl, by simp; omega, by omega, by omega, ?_⟩
  by_cases h0 : n - q = 0
  · exact .inl h0
  · obtain ⟨g, o, rfl, hK, hx⟩ := hx.resolve_left (by omega)
    refine .inr ⟨g, o + q, ?_, hK, fun i hi => ?_⟩
    · rw [if_neg (by omega)]
      show some ((⟨g, o, none⟩ : Addr).add q) = _
      unfold Addr.add; split
      · subst_vars; rfl
      · rfl
    · simp at hi
      have := hx (q + i) (by omega)
      rw [Nat.add_assoc, this]; simp
theorem own_new1 {w : World} {base g : Nat} {e : TypeId} {x : Value} (hg : w.heap.size = g) (hb : base ≤ w.heap.size) : (w.alloc (.cells #[x] e)).ownsRow base e 1 (.slice (some ⟨g, 0, none⟩) 1 1) 1 [x] := by
  subst hg
  exact ⟨rfl, .inr ⟨_, 1, #[x], rfl, hb, heap_alloc_new w _, Nat.le_refl _, by unfold maxLen; omega, rfl, rfl⟩⟩
/-- append onto a row of the call's own of whatever a slice holds, nil or not. -/
theorem wp_append_sl {P : Program} {w : World} {o : Oper} {a : Act} {C : Act → World → Prop} {Q : Exit → Act → World → Prop} (s x : Operand) (t : TypeId)
    (ho : o.op = .call { callee := .builtin .append, args := #[s, x], argTypes := #[t, t] })
    (base : Nat) (e : TypeId) (i : TypeInfo) (z : Value) (bytes : Nat) (ht : P.underlying t = some (.slice e)) (hi : P.info? e = some i) (hz : i.zero = some z)
    (hsize : i.size = 1) (hby : i.bytes = bytes) (hzs : z.cells.size = 1)
    (v : Value) (n : Nat) (xs : List Value) (hs : a.eval s = v) (hown : w.ownsRow base e 1 v n xs) (K : Nat → Prop) (u : Value) (news : List Value) (hx : a.eval x = u) (hsl : Sl w K u news) (h1 : ∀ u ∈ news, u.oneCell' = true)
    (h63 : n + news.length ≤ maxLen) (hbytes : (n + news.length) * bytes ≤ 140737488355328) (hbase : base ≤ w.heap.size)
    (h : ∀ A' N c' w', Hid (N = n + news.length) → N ≤ c' → c' ≤ 9223372036854775807 → w'.ownsRow base e 1 (.slice A' N c') N (xs ++ news) → w.grownBy w' v.ownBlock → ((Value.slice A' N c').ownBlock = v.ownBlock ∨ (Value.slice A' N c').ownBlock = some w.heap.size) → C (a.put o.dst (.slice A' N c')) w') : o.wp P a w C Q := by
  obtain ⟨A, m, c, rfl, hm, hc, hcm, hxs⟩ := hsl
  cases A with
  | none =>
    have hm0 : m = 0 := hxs.elim id fun ⟨_, _, h, _⟩ => by cases h
    have hnews : news = [] := List.eq_nil_of_length_eq_zero (by omega)
    subst hm0; subst hnews
    have hr : (Builtin.append_ #[t, t] o.type #[v, .slice none 0 c]).run P w = .ok v w := by
      rcases hown.2 with ⟨rfl, rfl⟩ | ⟨g, cap, cur, rfl, hb, hg, hn, hcap, hcs, htk⟩
      · simp [Builtin.append_, run_underlying ht, sizeOf, typeInfo, hi, Builtin.lenOf, Builtin.firstCells]
      · simp [Builtin.append_, run_underlying ht, sizeOf, typeInfo, hi, Builtin.lenOf, Builtin.firstCells, storeCells, hn]
    obtain ⟨A1, c1, rfl, hc1, hc2⟩ := own_form hown
    have hfin := h A1 n c1 w (Lib.hid (by simp)) hc1 hc2 (by simpa using hown) ⟨rfl, rfl, rfl, Nat.le_refl _, fun _ _ _ => rfl⟩ (.inl rfl)
    unfold Oper.wp execOp
    simp only [ho, resolve, invoke, builtin, Sem.run_bind, Sem.run_pure, Result.andThen_ok, List.map_toArray, List.map_cons, List.map_nil, hs, hx, hr]
    exact hfin
  | some ad =>
    have hnews : ∀ (j : Nat) (u : Value), news[j]? = some u → w.cell? (ad.add j) = some u := by
      intro j u hu
      obtain ⟨hj, rfl⟩ := List.getElem?_eq_some_iff.1 hu
      rcases hxs with h0 | ⟨g, o, h, _, h2⟩
      · omega
      · cases h
        rw [← h2 j hj]
        unfold Addr.add; split
        · subst_vars; rfl
        · rfl
    subst hm
    obtain ⟨v', w', hr, h2, h3, _, h5⟩ := run_append_own_at (P := P) w base t o.type e i z 1 bytes ht hi hz hsize hby hzs (by decide) v n xs hown ad news.length c news (by simp) hnews h1 h63 hbytes hbase
    unfold Oper.wp execOp
    simp only [ho, resolve, invoke, builtin, Sem.run_bind, Sem.run_pure, Result.andThen_ok, List.map_toArray, List.map_cons, List.map_nil, hs, hx, hr]
    obtain ⟨A1, c1, rfl, hc1, hc2⟩ := own_form h2
    exact h A1 _ c1 w' (Lib.hid rfl) hc1 hc2 h2 h3 h5
theorem wpList_append_sl {P : Program} {w : World} {ops : Array Oper} {rest : List Oper} {o : Oper} {a : Act} {Q : Exit → Act → World → Prop} (hgd : o.guard = none) (s x : Operand) (t : TypeId)
    (ho : o.op = .call { callee := .builtin .append, args := #[s, x], argTypes := #[t, t] })
    (base : Nat) (e : TypeId) (i : TypeInfo) (z : Value) (bytes : Nat) (ht : P.underlying t = some (.slice e)) (hi : P.info? e = some i) (hz : i.zero = some z)
    (hsize : i.size = 1) (hby : i.bytes = bytes) (hzs : z.cells.size = 1)
    (v : Value) (n : Nat) (xs : List Value) (hs : a.eval s = v) (hown : w.ownsRow base e 1 v n xs) (K : Nat → Prop) (u : Value) (news : List Value) (hx : a.eval x = u) (hsl : Sl w K u news) (h1 : ∀ u ∈ news, u.oneCell' = true)
    (h63 : n + news.length ≤ maxLen) (hbytes : (n + news.length) * bytes ≤ 140737488355328) (hbase : base ≤ w.heap.size)
    (h : ∀ A' N c' w', Hid (N = n + news.length) → N ≤ c' → c' ≤ 9223372036854775807 → w'.ownsRow base e 1 (.slice A' N c') N (xs ++ news) → w.grownBy w' v.ownBlock → ((Value.slice A' N c').ownBlock = v.ownBlock ∨ (Value.slice A' N c').ownBlock = some w.heap.size) → wpList P ops Q rest (a.put o.dst (.slice A' N c')) w') : wpList P ops Q (o :: rest) a w :=
  wpList_plain hgd fun _ hK => wp_append_sl s x t ho base e i z bytes ht hi hz hsize hby hzs v n xs hs hown K u news hx hsl h1 h63 hbytes hbase fun A' N c' w' e1 e2 e3 h2 h3 h4 => hK _ _ (h A' N c' w' e1 e2 e3 h2 h3 h4)
theorem step_append_sl {P : Program} {w : World} {ops : Array Oper} {o : Oper} {a : Act} {C : Act → World → Prop} {Q : Exit → Act → World → Prop} {E : Prop} (hgd : o.guard = none) (s x : Operand) (t : TypeId)
    (ho : o.op = .call { callee := .builtin .append, args := #[s, x], argTypes := #[t, t] })
    (base : Nat) (e : TypeId) (i : TypeInfo) (z : Value) (bytes : Nat) (ht : P.underlying t = some (.slice e)) (hi : P.info? e = some i) (hz : i.zero = some z)
    (hsize : i.size = 1) (hby : i.bytes = bytes) (hzs : z.cells.size = 1)
    (v : Value) (n : Nat) (xs : List Value) (hs : a.eval s = v) (hown : w.ownsRow base e 1 v n xs) (K : Nat → Prop) (u : Value) (news : List Value) (hx : a.eval x = u) (hsl : Sl w K u news) (h1 : ∀ u ∈ news, u.oneCell' = true)
    (h63 : n + news.length ≤ maxLen) (hbytes : (n + news.length) * bytes ≤ 140737488355328) (hbase : base ≤ w.heap.size)
    (h : ∀ A' N c' w', Hid (N = n + news.length) → N ≤ c' → c' ≤ 9223372036854775807 → w'.ownsRow base e 1 (.slice A' N c') N (xs ++ news) → w.grownBy w' v.ownBlock → ((Value.slice A' N c').ownBlock = v.ownBlock ∨ (Value.slice A' N c').ownBlock = some w.heap.size) → C (a.put o.dst (.slice A' N c')) w') :
    if Region.wanted o (yielded ops a.tmps) = true then Oper.wp P o a w C Q else E := by
  have hw : Region.wanted o (yielded ops a.tmps) = true := by simp [Region.wanted, hgd]
  rw [if_pos hw]
  exact wp_append_sl s x t ho base e i z bytes ht hi hz hsize hby hzs v n xs hs hown K u news hx hsl h1 h63 hbytes hbase h

/-- A slice value whose elements take sz cells each reads as the cells xs, in blocks of K. -/
def SlZ (w : World) (K : Nat → Prop) (sz : Nat) (v : Value) (xs : List Value) : Prop :=
  ∃ A n c, v = .slice A n c ∧ xs.length = n * sz ∧ n ≤ c ∧ c ≤ 9223372036854775807 ∧
    (n = 0 ∨ ∃ g o, A = some ⟨g, o, none⟩ ∧ K g ∧ ∀ i (h : i < xs.length), w.cell? ⟨g, o + i, none⟩ = some xs[i])
theorem SlZ.nil (w : World) (K : Nat → Prop) (sz : Nat) : SlZ w K sz (.slice none 0 0) [] := ⟨none, 0, 0, rfl, by simp, Nat.le_refl _, by omega, .inl rfl⟩
theorem SlZ.keptTo {w w' : World} {K K' : Nat → Prop} {sz : Nat} {v : Value} {xs : List Value} (h : SlZ w K sz v xs) (hf : ∀ k, K k → w'.heap[k]? = w.heap[k]? ∧ K' k) : SlZ w' K' sz v xs := by
  obtain ⟨A, n, c, rfl, hn, hc, hm, hx⟩ := h
  refine ⟨A, n, c, rfl, hn, hc, hm, hx.imp id ?_⟩
  rintro ⟨g, o, rfl, hK, hx⟩
  exact ⟨g, o, rfl, (hf g hK).2, fun i hi => (World.cell?_of_block (w := w) (hf g hK).1).trans (hx i hi)⟩
theorem SlZ.of_own {w : World} {base n sz : Nat} {e : TypeId} {v : Value} {xs : List Value} {K : Nat → Prop} (h : w.ownsRow base e sz v n xs) (hK : ∀ g, v.ownBlock = some g → K g) : SlZ w K sz v xs := by
  obtain ⟨h1, h2⟩ := h
  rcases h2 with ⟨rfl, rfl⟩ | ⟨g, cap, cur, rfl, hb, hh, hn, hm, hs, ht⟩
  · exact ⟨none, 0, 0, rfl, by simpa using h1, Nat.le_refl _, by omega, Or.inl rfl⟩
  · refine ⟨_, n, cap, rfl, h1, hn, hm, Or.inr ⟨g, 0, rfl, hK g rfl, fun i hi => ?_⟩⟩
    rw [cell_of_row w g _ cur e (0, 0) hh, ← Array.getElem?_toList, Nat.zero_add]
    have h3 : (cur.toList.take (n * sz))[i]? = some xs[i] := by rw [ht]; exact List.getElem?_eq_getElem hi
    rw [List.getElem?_take] at h3
    split at h3
    · exact h3
    · cases h3
theorem wp_append_slz {P : Program} {w : World} {o : Oper} {a : Act} {C : Act → World → Prop} {Q : Exit → Act → World → Prop} (s x : Operand) (t : TypeId)
    (ho : o.op = .call { callee := .builtin .append, args := #[s, x], argTypes := #[t, t] })
    (base : Nat) (e : TypeId) (i : TypeInfo) (z : Value) (sz bytes : Nat) (ht : P.underlying t = some (.slice e)) (hi : P.info? e = some i) (hz : i.zero = some z)
    (hsize : i.size = sz) (hby : i.bytes = bytes) (hzs : z.cells.size = sz) (hsz : 0 < sz)
    (v : Value) (n : Nat) (xs : List Value) (hs : a.eval s = v) (hown : w.ownsRow base e sz v n xs) (K : Nat → Prop) (u : Value) (m : Nat) (news : List Value) (hx : a.eval x = u) (hsl : SlZ w K sz u news) (hl : news.length = m * sz) (h1 : ∀ u ∈ news, u.oneCell' = true)
    (h63 : n + m ≤ maxLen) (hbytes : (n + m) * bytes ≤ 140737488355328) (hbase : base ≤ w.heap.size)
    (h : ∀ A' N c' w', Hid (N = n + m) → N ≤ c' → c' ≤ 9223372036854775807 → w'.ownsRow base e sz (.slice A' N c') N (xs ++ news) → w.grownBy w' v.ownBlock → ((Value.slice A' N c').ownBlock = v.ownBlock ∨ (Value.slice A' N c').ownBlock = some w.heap.size) → C (a.put o.dst (.slice A' N c')) w') : o.wp P a w C Q := by
  obtain ⟨A, m', c, rfl, hm, hc, hcm, hxs⟩ := hsl
  have hmm : m' = m := Nat.eq_of_mul_eq_mul_right hsz (by omega)
  subst hmm
  cases A with
  | none =>
    have hm0 : m' = 0 := hxs.elim id fun ⟨_, _, h, _⟩ => by cases h
    have hnews : news = [] := List.eq_nil_of_length_eq_zero (by rw [hl, hm0]; simp)
    subst hm0; subst hnews
    have hr : (Builtin.append_ #[t, t] o.type #[v, .slice none 0 c]).run P w = .ok v w := by
      rcases hown.2 with ⟨rfl, rfl⟩ | ⟨g, cap, cur, rfl, hb, hg, hn, hcap, hcs, htk⟩
      · simp [Builtin.append_, run_underlying ht, sizeOf, typeInfo, hi, Builtin.lenOf, Builtin.firstCells]
      · simp [Builtin.append_, run_underlying ht, sizeOf, typeInfo, hi, Builtin.lenOf, Builtin.firstCells, storeCells, hn]
    obtain ⟨A1, c1, rfl, hc1, hc2⟩ := own_form hown
    have hfin := h A1 n c1 w (Lib.hid (by simp)) hc1 hc2 (by simpa using hown) ⟨rfl, rfl, rfl, Nat.le_refl _, fun _ _ _ => rfl⟩ (.inl rfl)
    unfold Oper.wp execOp
    simp only [ho, resolve, invoke, builtin, Sem.run_bind, Sem.run_pure, Result.andThen_ok, List.map_toArray, List.map_cons, List.map_nil, hs, hx, hr]
    exact hfin
  | some ad =>
    have hnews : ∀ (j : Nat) (u : Value), news[j]? = some u → w.cell? (ad.add j) = some u := by
      intro j u hu
      obtain ⟨hj, rfl⟩ := List.getElem?_eq_some_iff.1 hu
      rcases hxs with h0 | ⟨g, o, h, _, h2⟩
      · rw [hl, h0] at hj; omega
      · cases h
        rw [← h2 j hj]
        unfold Addr.add; split
        · subst_vars; rfl
        · rfl
    obtain ⟨v', w', hr, h2, h3, _, h5⟩ := run_append_own_at (P := P) w base t o.type e i z sz bytes ht hi hz hsize hby hzs hsz v n xs hown ad m' c news hl hnews h1 h63 hbytes hbase
    unfold Oper.wp execOp
    simp only [ho, resolve, invoke, builtin, Sem.run_bind, Sem.run_pure, Result.andThen_ok, List.map_toArray, List.map_cons, List.map_nil, hs, hx, hr]
    obtain ⟨A1, c1, rfl, hc1, hc2⟩ := own_form h2
    exact h A1 _ c1 w' (Lib.hid rfl) hc1 hc2 h2 h3 h5
theorem wpList_append_slz {P : Program} {w : World} {ops : Array Oper} {rest : List Oper} {o : Oper} {a : Act} {Q : Exit → Act → World → Prop} (hgd : o.guard = none) (s x : Operand) (t : TypeId)
    (ho : o.op = .call { callee := .builtin .append, args := #[s, x], argTypes := #[t, t] })
    (base : Nat) (e : TypeId) (i : TypeInfo) (z : Value) (sz bytes : Nat) (ht : P.underlying t = some (.slice e)) (hi : P.info? e = some i) (hz : i.zero = some z)
    (hsize : i.size = sz) (hby : i.bytes = bytes) (hzs : z.cells.size = sz) (hsz : 0 < sz)
    (v : Value) (n : Nat) (xs : List Value) (hs : a.eval s = v) (hown : w.ownsRow base e sz v n xs) (K : Nat → Prop) (u : Value) (m : Nat) (news : List Value) (hx : a.eval x = u) (hsl : SlZ w K sz u news) (hl : news.length = m * sz) (h1 : ∀ u ∈ news, u.oneCell' = true)
    (h63 : n + m ≤ maxLen) (hbytes : (n + m) * bytes ≤ 140737488355328) (hbase : base ≤ w.heap.size)
    (h : ∀ A' N c' w', Hid (N = n + m) → N ≤ c' → c' ≤ 9223372036854775807 → w'.ownsRow base e sz (.slice A' N c') N (xs ++ news) → w.grownBy w' v.ownBlock → ((Value.slice A' N c').ownBlock = v.ownBlock ∨ (Value.slice A' N c').ownBlock = some w.heap.size) → wpList P ops Q rest (a.put o.dst (.slice A' N c')) w') : wpList P ops Q (o :: rest) a w :=
  wpList_plain hgd fun _ hK => wp_append_slz s x t ho base e i z sz bytes ht hi hz hsize hby hzs hsz v n xs hs hown K u m news hx hsl hl h1 h63 hbytes hbase fun A' N c' w' e1 e2 e3 h2 h3 h4 => hK _ _ (h A' N c' w' e1 e2 e3 h2 h3 h4)

theorem step_append_slz {P : Program} {w : World} {ops : Array Oper} {o : Oper} {a : Act} {C : Act → World → Prop} {Q : Exit → Act → World → Prop} {E : Prop} (hw : Region.wanted o (yielded ops a.tmps) = true) (s x : Operand) (t : TypeId)
    (ho : o.op = .call { callee := .builtin .append, args := #[s, x], argTypes := #[t, t] })
    (base : Nat) (e : TypeId) (i : TypeInfo) (z : Value) (sz bytes : Nat) (ht : P.underlying t = some (.slice e)) (hi : P.info? e = some i) (hz : i.zero = some z)
    (hsize : i.size = sz) (hby : i.bytes = bytes) (hzs : z.cells.size = sz) (hsz : 0 < sz)
    (v : Value) (n : Nat) (xs : List Value) (hs : a.eval s = v) (hown : w.ownsRow base e sz v n xs) (K : Nat → Prop) (u : Value) (m : Nat) (news : List Value) (hx : a.eval x = u) (hsl : SlZ w K sz u news) (hl : news.length = m * sz) (h1 : ∀ u ∈ news, u.oneCell' = true)
    (h63 : n + m ≤ maxLen) (hbytes : (n + m) * bytes ≤ 140737488355328) (hbase : base ≤ w.heap.size)
    (h : ∀ A' N c' w', Hid (N = n + m) → N ≤ c' → c' ≤ 9223372036854775807 → w'.ownsRow base e sz (.slice A' N c') N (xs ++ news) → w.grownBy w' v.ownBlock → ((Value.slice A' N c').ownBlock = v.ownBlock ∨ (Value.slice A' N c').ownBlock = some w.heap.size) → C (a.put o.dst (.slice A' N c')) w') :
    if Region.wanted o (yielded ops a.tmps) = true then Oper.wp P o a w C Q else E := by
  rw [if_pos hw]
  exact wp_append_slz s x t ho base e i z sz bytes ht hi hz hsize hby hzs hsz v n xs hs hown K u m news hx hsl hl h1 h63 hbytes hbase h
theorem SlZ.blk2 (w : World) (x y : Value) (t : TypeId) : SlZ (w.alloc (.cells #[x, y] t)) (fun k => k = w.heap.size) 2 (.slice (some ⟨w.heap.size, 0, none⟩) 1 1) [x, y] :=
  ⟨_, _, _, rfl, rfl, Nat.le_refl _, by omega, .inr ⟨_, 0, rfl, rfl, fun i hi => by
    have hc := fun i => cell_of_row _ w.heap.size i _ t (0, 0) (heap_alloc_new w (.cells #[x, y] t))
    rw [Nat.zero_add, hc i]
    simp⟩⟩
theorem heap_setRow (w : World) (g k : Nat) (cs : Array Value) (h : k ≠ g) : (w.setRow g cs).heap[k]? = w.heap[k]? := by
  simp only [World.setRow, Array.getElem?_modify]
  rw [if_neg (fun e => h e.symm)]
theorem Blk.setRow {w : World} {g : Nat} {t : TypeId} {cs : Array Value} (h : Blk w g t cs) (cs' : Array Value) : Blk (w.setRow g cs') g t cs' := setRow_heap w g cs cs' t (0, 0) h
theorem Frm.setRow {K : Nat → Prop} {w w1 : World} (h : Frm K w w1) {g : Nat} (hg : K g ∨ w.heap.size ≤ g) (cs : Array Value) : Frm K w (w1.setRow g cs) :=
  ⟨h.os, h.tape, h.output, by simpa [World.setRow] using h.size, fun k hl hn => (heap_setRow _ _ _ _ (by rintro rfl; exact hg.elim hn (fun hh => absurd hl (by omega)))).trans (h.block k hl hn)⟩
/-- 'clear' of a row that is the whole of its block. -/
theorem run_clear_row {P : Program} (w : World) (t e ty : TypeId) (z : Value) (ht : P.underlying t = some (.slice e)) (hv : ∀ w, (zeroValue e).run P w = .ok z w) (g n c : Nat) (et : TypeId) (cur : Array Value) (hg : Blk w g et cur) (hn : 0 < n) (hs : n * z.cells.size = cur.size) (h1 : ∀ v ∈ z.cells.toList, v.oneCell' = true) :
    (Builtin.clear_ #[t] ty #[.slice (some ⟨g, 0, none⟩) n c]).run P w = .ok (.tuple #[]) (w.setRow g (Builtin.zeroCells z.cells n)) := by
  have hsz : (Builtin.zeroCells z.cells n).toList.length = cur.size := by simp [Builtin.zeroCells, hs]
  have hst := run_storeCells_at (P := P) g 0 et (Builtin.zeroCells z.cells n).toList 0 cur w hg (by omega) (fun v hv' => by
    simp only [Builtin.zeroCells, Array.toList_map, List.mem_map] at hv'
    obtain ⟨i, hi, rfl⟩ := hv'
    have hi' : i < n * z.cells.size := by simpa using hi
    have hp : 0 < z.cells.size := by
      rcases Nat.eq_zero_or_pos z.cells.size with h0 | h0
      · rw [h0] at hi'; omega
      · exact h0
    have hlt : i % z.cells.size < z.cells.size := Nat.mod_lt _ hp
    rw [getElem!_pos z.cells _ hlt]
    exact h1 _ (by simp))
  rw [show (0 + 0 + (Builtin.zeroCells z.cells n).toList.length) = cur.toList.length from by rw [hsz]; simp, List.drop_length] at hst
  simp only [Nat.add_zero, List.take_zero, List.nil_append, List.append_nil, Array.toArray_toList] at hst
  obtain ⟨m, rfl⟩ : ∃ m, n = m + 1 := ⟨n - 1, by omega⟩
  simp [Builtin.clear_, run_underlying ht, hv, hst]
/-- 'string(b)'. -/
theorem run_conv {P : Program} {src e dst : TypeId} (hs : P.underlying src = some (.slice e)) (he : P.underlying e = some (.int .u8)) (hd : P.underlying dst = some .string) {w : World} {K : Nat → Prop} {v : Value} {l : List UInt8} (h : Sl w K v (bv l)) :
    (convert src dst v).run P w = .ok (.string ⟨l.toArray⟩) w := by
  obtain ⟨A, n, c, rfl, hn, hc, hm, hx⟩ := h
  rw [bv_length] at hn
  cases A with
  | none =>
    have h0 : n = 0 := hx.elim id fun ⟨_, _, h, _⟩ => by cases h
    have hl : l = [] := List.eq_nil_of_length_eq_zero (by omega)
    subst hl
    exact run_convert_bytes_nil w src e hs he n c dst hd
  | some a =>
    have hl : (loadCells a n).run P w = .ok ((l.map fun c => ((c.toNat : Nat) : Int)).map (Value.int .u8)).toArray w := by
      rcases hx with h0 | ⟨g, o, h, _, hcs⟩
      · subst h0
        have hl : l = [] := List.eq_nil_of_length_eq_zero (by omega)
        subst hl
        simp [loadCells, loadCellsFrom]
      · cases h
        have := run_loadCells_list (P := P) w ⟨g, o, none⟩ (bv l) (fun j v hj => by
          obtain ⟨hj1, rfl⟩ := List.getElem?_eq_some_iff.1 hj
          rw [← hcs j hj1]
          unfold Addr.add; split
          · subst_vars; rfl
          · rfl)
        rw [bv_length, ← hn] at this
        rw [this]
        simp [bv]
    rw [run_convert_bytes_string w src dst e _ n c hs he hd, run_bytesToString w _ n c _ hl, foldl_push_bytes]
    have e1 : (l.map fun c => ((c.toNat : Nat) : Int)).map (fun n : Int => UInt8.ofNat n.toNat) = l := by
      rw [List.map_map]
      conv => rhs; rw [← List.map_id l]
      exact List.map_congr_left fun c _ => by simp
    rw [e1]
    simp [ByteArray.empty, ByteArray.emptyWithCapacity]
    rfl

theorem run_convN {P : Program} {src e dst : TypeId} (hs : P.underlying src = some (.slice e)) (he : P.underlying e = some (.int .u8)) (hd : P.underlying dst = some .string) {w : World} {K : Nat → Prop} {v : Value} {l : List UInt8} (h : Sl w K v (bv l)) (n : Nat) :
    (convert src dst v).run P (w.drewN n) = .ok (.string ⟨l.toArray⟩) (w.drewN n) := run_conv hs he hd (K := K) (w := w.drewN n) h
/-- A slice of byte slices reads as L: the row in blocks of K, the bytes in blocks of K'. -/
def Each (w : World) (K' : Nat → Prop) (vs : List Value) (L : List (List UInt8)) : Prop :=
  vs.length = L.length ∧ ∀ (i : Nat) (v : Value) (l : List UInt8), vs[i]? = some v → L[i]? = some l → Sl w K' v (bv l)
def tot (L : List (List UInt8)) : Nat := (L.map List.length).sum
@[simp] theorem tot_nil : tot [] = 0 := rfl
@[simp] theorem tot_cons (l : List UInt8) (L : List (List UInt8)) : tot (l :: L) = l.length + tot L := by simp [tot]
section
variable {w w' : World} {K K' : Nat → Prop} {vs : List Value} {L : List (List UInt8)}
theorem Each.kept (h : Each w K vs L) (hf : ∀ k, K k → w'.heap[k]? = w.heap[k]? ∧ K' k) : Each w' K' vs L :=
  ⟨h.1, fun i v l hv hl => (h.2 i v l hv hl).keptTo hf⟩
theorem Each.tail {v : Value} {l : List UInt8} (h : Each w K (v :: vs) (l :: L)) : Each w K vs L :=
  ⟨by simpa using h.1, fun i v' l' hv hl => h.2 (i + 1) v' l' (by simpa using hv) (by simpa using hl)⟩
theorem Each.cons {v : Value} {l : List UInt8} (h : Each w K vs L) (hv : Sl w K v (bv l)) : Each w K (v :: vs) (l :: L) :=
  ⟨by simpa using h.1, fun i v' l' hv' hl => by
    cases i with
    | zero => simp at hv' hl; subst hv' hl; exact hv
    | succ i => exact h.2 i v' l' (by simpa using hv') (by simpa using hl)⟩
theorem Each.snoc {v : Value} {l : List UInt8} (h : Each w K vs L) (hv : Sl w K v (bv l)) : Each w K (vs ++ [v]) (L ++ [l]) :=
  ⟨by simpa using h.1, fun i v' l' hv' hl => by
    rcases Nat.lt_trichotomy i vs.length with hi | hi | hi
    · rw [List.getElem?_append_left hi] at hv'
      rw [List.getElem?_append_left (by rw [← h.1]; exact hi)] at hl
      exact h.2 i v' l' hv' hl
    · rw [List.getElem?_append_right (by omega), hi] at hv'
      rw [List.getElem?_append_right (by rw [← h.1]; omega), hi, h.1] at hl
      simp at hv' hl
      subst hv' hl
      exact hv
    · rw [List.getElem?_append_right (by omega)] at hv'
      rw [List.getElem?_eq_none (by simp; omega)] at hv'
      cases hv'⟩
theorem Each.head {v : Value} {l : List UInt8} (h : Each w K (v :: vs) (l :: L)) : Sl w K v (bv l) := h.2 0 v l rfl rfl
end
end Go.Proofs.YtpcdbkaeijhmfaaGreatDoor
namespace Go.Proofs.YtpcdbkaeijhmfaaGreatDoor
set_option maxRecDepth 100000
set_option linter.unusedVariables false
set_option linter.unusedSimpArgs false
open Go.RowKit
theorem Frm.putObj {K : Nat → Prop} {w w1 : World} (h : Frm K w w1) {l : Nat} (hl : K l ∨ w.heap.size ≤ l) (o : Obj) : Frm K w (w1.putObj l o) :=
  h.grown (grownBy_putObj' w1 l o) fun k e => by cases e; exact hl
/-- R: what the iterator turns between its yields; Kp: what the body leaves as it was; G: what is told of an element where it is handed over. -/
def SeqW {α : Type} (F : Fence) (n : Nat) (P : Program) (g : Nat) (lb : Array Value) (encs : α → Array Value) (R Kp : World → World → Prop) (G : α → World → Prop) (S : List α → Prop) (N : Nat) (w : World) : Prop :=
  ∀ (l : Nat) (J : List α → World → Prop) (W : World), Frm (fun _ => False) w W → (∀ s X Y, J s X → R X Y → J s Y) →
    (∀ pre x W1, J pre W1 → G x W1 → pre.length < N → YieldAt F (n - 1) P l (encs x) W1 fun e W' => e = .returned (.bool true) ∧ J (pre ++ [x]) W' ∧ Kp W1 W') →
    J [] W → CallsIn F n P g (#[.func (.yield l) #[] #[]] ++ lb) W fun e W' => (∃ v, e = .returned v) ∧ ∃ xs, S xs ∧ J xs W'
/-- How a body that goes on leaves a round. -/
def onPost {α : Type} (B : Nat) (Kp : World → World → Prop) (I : List α → World → Prop) (xs : List α) (W : World) : Exit → Act → World → Prop
  | .normal, _, W' => KeepsFrom B W W' ∧ Kp W W' ∧ I xs W'
  | _, _, _ => False
section
variable {α : Type} {F : Fence} {n : Nat} {P : Program} {w w0 : World}
/-- The loop's record, in each of its states. -/
def recOf (w : World) (fn : FuncId) (tmps : Array Value) (ps : Array Tmp) (assign body : Code) (st : LoopState) : Obj :=
  .loop { state := st, pending := none, fn, tmps, params := ps, assign, body, defers := w.heap.size }
/-- The two blocks of the loop, as they lie between rounds. -/
def Two (w : World) (o : Obj) (W : World) : Prop := W.heap[w.heap.size + 1]? = some o ∧ W.heap[w.heap.size]? = some (.deferred (some []))
theorem Two.put {o o' : Obj} {W : World} (h : Two w o W) : Two w o' (W.putObj (w.heap.size + 1) o') :=
  ⟨World.putObj_heap_same (Array.getElem?_eq_some_iff.1 h.1).1, (World.putObj_heap_other (by omega)).trans h.2⟩
theorem wpIn_range_w {g : Operand} {ps : Array Tmp} {assign body : Code} {Q : Exit → Act → World → Prop} {a : Act}
    (hro : F.round = none) (h1 : 1 ≤ n) {gf : Nat} {lb : Array Value} (hg : a.eval g = .func (.func gf) #[] lb) (hFg : F.fn gf) (eg : ∀ args w, (callFunc gf args).run P w = .ok (.enter gf args) w)
    {encs : α → Array Value} {R Kp : World → World → Prop} {G : α → World → Prop} {S : List α → Prop} {N : Nat} (hseq : SeqW F (n - 1) P gf lb encs R Kp G S N w0) (hb0 : Frm (fun _ => False) w0 w) (hps : ∀ x, (encs x).size = ps.size)
    (hR : ∀ X Y, R X Y → KeepsFrom w.heap.size X Y) (hKt : ∀ {A B C : World}, Kp A B → Kp B C → Kp A C) (hKb : ∀ (W : World) (o : Obj), Kp W (W.putObj (w.heap.size + 1) o))
    (I : List α → World → Prop) (hI : ∀ s X Y, I s X → R X Y → I s Y) (hIo : OwnFrom w.heap.size I) (hGo : ∀ x, OwnFrom w.heap.size (fun (_ : Unit) => G x)) (h0 : I [] w) (Ax : α → Act → World → Prop) (hAx : ∀ x a', OwnFrom w.heap.size (fun (_ : Unit) => Ax x a'))
    (hassign : ∀ (l : Nat) (pre : List α) (x : α) (W : World) (K : Act → World → Prop), I pre W → G x W → (∀ a' W', KeepsFrom w.heap.size W W' → Kp W W' → I pre W' → G x W' → Ax x a' W' → K a' W') →
      assign.wpIn (F.inRound l) (n - 1 - 1) P (Exit.then K (fun _ _ _ => False)) { tmps := (ps.zip (encs x)).foldl (fun t (p, v) => t.setIfInBounds p v) a.tmps, defers := [] } W)
    (hbody : ∀ (l : Nat) (pre : List α) (x : α) (a' : Act) (W : World), I pre W → G x W → Ax x a' W → pre.length < N → body.wpIn (F.inRound l) (n - 1 - 1) P (onPost w.heap.size Kp I (pre ++ [x]) W) a' W)
    (hdone : ∀ (D : Nat) (xs : List α) (W : World), w.heap.size ≤ D → S xs → I xs W → W.heap[D]? = some (.deferred (some [])) → Q .normal { a with defers := { target := .collected D, args := #[] } :: a.defers } W) :
    (Code.rangeFunc g ps assign body).wpIn F n P Q a w := by
  refine wpIn_rangeFunc fun fn hfn => ?_
  rw [hro]
  obtain ⟨rec, hrec⟩ : ∃ rec, rec = recOf w fn a.tmps ps assign body := ⟨_, rfl⟩
  have ho : ∀ st, (rec st).isCells = false := fun st => by rw [hrec]; rfl
  have hT : Two w (rec .ready) ((w.alloc (.deferred (some []))).alloc (rec .ready)) :=
    ⟨by have := World.alloc_heap_new (w.alloc (.deferred (some []))) (rec .ready); rwa [World.size_alloc] at this, (Below.heap_alloc _ _ _ (by simp)).trans (World.alloc_heap_new w _)⟩
  have he : (Instr.enterLoop fn a.tmps ps assign body none).run P w = .ok (w.heap.size + 1, [{ target := .collected w.heap.size, args := #[] }]) ((w.alloc (.deferred (some []))).alloc (rec .ready)) := by
    rw [hrec]; exact run_enterLoop_outer fn a.tmps ps assign body
  have hf1 : Frm (fun _ => False) w0 ((w.alloc (.deferred (some []))).alloc (rec .ready)) := (hb0.alloc _).alloc _
  have hi1 : I [] ((w.alloc (.deferred (some []))).alloc (rec .ready)) := hIo.alloc _ (hIo.alloc _ h0)
  generalize (w.alloc (.deferred (some []))).alloc (rec .ready) = W1 at *
  refine ⟨w.heap.size + 1, _, W1, { target := .fn (.func gf) lb, args := #[.func (.yield (w.heap.size + 1)) #[] #[]] }, W1, gf, #[.func (.yield (w.heap.size + 1)) #[] #[]] ++ lb, W1, he, ?_, ?_, ?_, fun _ => h1, ?_⟩
  · simp only [resolve, hg]; simp [go_sem]
  · intro f' hf'; simp [Target.leads] at hf'; subst hf'; exact hFg
  · simp [invoke, go_sem, eg]
  · refine (hseq (w.heap.size + 1) (fun pre W => I pre W ∧ Two w (rec .ready) W) W1 hf1
      (fun s X Y hs hr => ⟨hI s X Y hs.1 hr, (hR X Y hr).same _ _ (by omega) hs.2.1 (ho _), (hR X Y hr).same _ _ (Nat.le_refl _) hs.2.2 rfl⟩) ?round ⟨hi1, hT⟩).mono ?behind
    case round =>
      rintro pre x W ⟨hi, hT⟩ hG hlen
      have hl := hT.1
      rw [hrec] at hl
      refine ⟨fn, _, assign, body, run_yield (P := P) (args := encs x) hl (hps x), roundIn_of_wpIn hfn (hassign _ pre x W _ hi hG fun a' W' hk1 hkp1 hi1 hG1 hA1 => ?_)⟩
      have hT1 : Two w (rec .ready) W' := ⟨hk1.same _ _ (by omega) hT.1 (ho _), hk1.same _ _ (Nat.le_refl _) hT.2 rfl⟩
      have hl1 := hT1.1
      rw [hrec] at hl1
      refine ⟨_, run_beginRound hl1 rfl, ?_⟩
      have hTb : Two w (rec .busy) (W'.putObj (w.heap.size + 1) (rec .busy)) := hT1.put
      show body.wpIn _ _ P _ _ (W'.putObj (w.heap.size + 1) (recOf w fn a.tmps ps assign body .busy))
      rw [← hrec]
      refine wpIn_mono (hbody _ pre x _ _ (hIo.putObj _ hi1 (by omega) hT1.1 (ho _)) ((hGo x).putObj (s := ()) _ hG1 (by omega) hT1.1 (ho _)) ((hAx x a').putObj (s := ()) _ hA1 (by omega) hT1.1 (ho _)) hlen) ?_
      rintro e a3 W3 hp
      cases e with
      | normal =>
        obtain ⟨hk, hkp, hi3⟩ := hp
        have h3 : Two w (rec .busy) W3 := ⟨hk.same _ _ (by omega) hTb.1 (ho _), hk.same _ _ (Nat.le_refl _) hTb.2 rfl⟩
        have hl3 := h3.1
        rw [hrec] at hl3
        refine ⟨.bool true, _, run_endRound (P := P) none hl3, rfl, ?_, hKt (hKt hkp1 (hKt (hKb W' _) hkp)) (hKb W3 _)⟩
        show _ ∧ Two w (rec .ready) (W3.putObj (w.heap.size + 1) (recOf w fn a.tmps ps assign body .ready))
        rw [← hrec]
        exact ⟨hIo.putObj _ hi3 (by omega) h3.1 (ho _), h3.put⟩
      | ret => exact hp.elim
      | exit id => exact hp.elim
      | goto t => exact hp.elim
      | panic ch => exact hp.elim
      | outgrown => exact hp.elim
    case behind =>
      rintro e W2 ⟨⟨v, rfl⟩, xs, hS, hi, hT2⟩
      have hl := hT2.1
      rw [hrec] at hl
      exact ⟨none, _, run_endLoop (P := P) hl (by simp), hdone _ xs _ (Nat.le_refl _) hS (hIo.putObj _ hi (by omega) hT2.1 (ho _)) ((World.putObj_heap_other (by omega)).trans hT2.2)⟩
end
end Go.Proofs.YtpcdbkaeijhmfaaGreatDoor
namespace Go.Proofs.YtpcdbkaeijhmfaaGreatDoor
set_option maxRecDepth 100000
set_option linter.unusedVariables false
set_option linter.unusedSimpArgs false
abbrev By := List UInt8
/-- Lines, from what came of the one that is begun. -/
def linesGo : By → By → List By
  | cur, [] => if cur = [] then [] else [cur]
  | cur, c :: r => if c = 10 then cur :: linesGo [] r else linesGo (cur ++ [c]) r
def linesB (t : By) : List By := linesGo [] t
/-- How far the program's word goes that begins here. -/
def endB : By → Nat
  | [] => 0
  | c :: r =>
    let s := if c = 34 then (match r.idxOf? 34 with | some k => k + 2 | none => 0) else 0
    s + (((c :: r).drop s).takeWhile (· != 32)).length
def wordsB (l : By) : List By :=
  match h : l.dropWhile (· == 32) with
  | [] => []
  | c :: r => (c :: r).take (max 1 (endB (c :: r))) :: wordsB ((c :: r).drop (max 1 (endB (c :: r))))
termination_by l.length
decreasing_by
  have h1 : (l.dropWhile (· == 32)).length ≤ l.length := (List.dropWhile_sublist _).length_le
  rw [h] at h1
  simp only [List.length_drop]
  have : (c :: r).length = r.length + 1 := rfl
  omega
/-- How far the document's word goes. -/
def endR : Bool → By → Nat
  | _, [] => 0
  | i, c :: r => if i || c != 32 then endR (if c == 34 then !i else i) r + 1 else 0
def wordsR (l : By) : List By :=
  match h : l.dropWhile (· == 32) with
  | [] => []
  | c :: r => (c :: r).take (max 1 (endR false (c :: r))) :: wordsR ((c :: r).drop (max 1 (endR false (c :: r))))
termination_by l.length
decreasing_by
  have h1 : (l.dropWhile (· == 32)).length ≤ l.length := (List.dropWhile_sublist _).length_le
  rw [h] at h1
  simp only [List.length_drop]
  have : (c :: r).length = r.length + 1 := rfl
  omega
/-- The number that figures are; none: one is no figure, or it is too great. -/
def valGo : Nat → By → Option Nat
  | n, [] => some n
  | n, c :: r => if 48 ≤ c.toNat ∧ c.toNat ≤ 57 then (if 10 * n + (c.toNat - 48) ≤ 4611686018427387904 then valGo (10 * n + (c.toNat - 48)) r else none) else none
def figB (below : Bool) (f : By) : Option Int :=
  match f with
  | [] => none
  | c :: r => if c = 48 ∧ (below = true ∨ r ≠ []) then none else (valGo 0 (c :: r)).map fun n => if below then -(n : Int) else n
def numB (w : By) : Option Int :=
  match w with
  | [] => none
  | c :: r => if c = 45 then figB true r else figB false (c :: r)
def numsB : List By → Option (List Int)
  | [] => some []
  | w :: r => match numB w with | none => none | some n => (numsB r).map (n :: ·)
def plainB (c : UInt8) : Bool := decide (32 ≤ c.toNat ∧ c.toNat ≤ 126 ∧ c.toNat ≠ 34 ∧ c.toNat ≠ 92)
def hexB (c : UInt8) : Option Nat := if 48 ≤ c.toNat ∧ c.toNat ≤ 57 then some (c.toNat - 48) else if 97 ≤ c.toNat ∧ c.toNat ≤ 102 then some (c.toNat - 87) else none
def unqB : By → Option By
  | [] => some []
  | 92 :: a :: b :: r => match hexB a, hexB b with | some h, some l => (unqB r).map (UInt8.ofNat (16 * h + l) :: ·) | _, _ => none
  | c :: r => if plainB c = true then (unqB r).map (c :: ·) else none
def txtB (w : By) : Option By :=
  match w with
  | [] => none
  | c :: r => if c = 34 ∧ r.getLast? = some 34 then unqB r.dropLast else none
def hexD (n : Nat) : UInt8 := if n < 10 then UInt8.ofNat (48 + n) else UInt8.ofNat (87 + n)
def quote1 (c : UInt8) : By := if plainB c = true then [c] else [92, hexD (c.toNat / 16), hexD (c.toNat % 16)]
def quoteB (b : By) : By := 34 :: (b.flatMap quote1 ++ [34])
/-- A story. -/
structure St where
  fold : Bool
  words : List By
  conf : List Int
  broken : Bool
  reads : List By
  answers : List Bool
  picks : List Int
  kind : Nat
  seed : Nat
  last : Int
  cancel : Int
  most : Int
deriving DecidableEq
def zeroSt : St := ⟨false, [], [0, 0, 0, 0, 0, 0, 0], false, [], [], [], 0, 0, 0, 0, 0⟩
def newSt : St := { zeroSt with cancel := -1 }
def bs (s : String) : By := s.toUTF8.data.toList
def kindB (w : By) : Option Nat := if w = bs "none" then some 0 else if w = bs "first" then some 1 else if w = bs "last" then some 2 else if w = bs "round" then some 3 else if w = bs "seed" then some 4 else none
def answB (s : St) : List By → Option St
  | [] => some s
  | w :: r => if w = bs "yes" then answB { s with answers := s.answers ++ [true] } r else if w = bs "no" then answB { s with answers := s.answers ++ [false] } r else none
def planB (s : St) (l : List By) : Option St :=
  match l with
  | [k, a, b] => match kindB k, numB a, numB b with
    | some k, some n, some m => if 0 ≤ n ∧ n ≤ 4294967295 then some { s with kind := k, seed := n.toNat, last := m } else none
    | _, _, _ => none
  | _ => none
def countsB (s : St) (first : By) (n : List Int) : Option St :=
  if first = bs "conf" ∧ n.length = 7 then some { s with conf := n }
  else if first = bs "pick" ∧ 0 < n.length then some { s with picks := s.picks ++ n }
  else if first = bs "cancel" ∧ n.length = 1 then some { s with cancel := n.headD 0 }
  else if first = bs "most" ∧ n.length = 1 then some { s with most := n.headD 0 }
  else none
def wordB (s : St) (l : List By) : Option St := match l with | [w] => (txtB w).map fun b => { s with words := s.words ++ [b] } | _ => none
def readB (s : St) (l : List By) : Option St := match l with | [w] => (txtB w).map fun b => { s with reads := s.reads ++ [b] } | _ => none
/-- What a line of words says. -/
def sayW (s : St) (l : List By) : Option St :=
  match l with
  | [] => some s
  | w :: r =>
    if w.head? = some 35 then some s
    else if w = bs "fold" then (if r = [] then some { s with fold := true } else none)
    else if w = bs "broken" then (if r = [] then some { s with broken := true } else none)
    else if w = bs "word" then wordB s r
    else if w = bs "read" then readB s r
    else if w = bs "answers" then (if r = [] then none else answB s r)
    else if w = bs "plan" then planB s r
    else (numsB r).bind (countsB s w)
def sayB (s : St) (line : By) : Option St := sayW s (wordsB line)
/-- The lines, one behind the other; none: the number of the one that says nothing. -/
def saysB (s : St) (n : Nat) : List By → St ⊕ Nat
  | [] => .inl s
  | l :: r => match sayB s l with | none => .inr n | some s' => saysB s' (n + 1) r
def maxText : Nat := 65536
def maxLines : Nat := 1000
inductive Res where
  | ok (s : St)
  | line (n : Nat)
  | great
deriving DecidableEq
def parseB (t : By) : Res :=
  if t.length > maxText ∨ (linesB t).length > maxLines then .great
  else match saysB newSt 1 (linesB t) with | .inl s => .ok s | .inr n => .line n
end Go.Proofs.YtpcdbkaeijhmfaaGreatDoor
namespace Go.Proofs.YtpcdbkaeijhmfaaGreatDoor
set_option maxRecDepth 100000
set_option linter.unusedVariables false
set_option linter.unusedSimpArgs false
section
variable {P : Program} {ops : Array Oper} {md : Region.Mode}
theorem upon_then {o : Oper} {a : Act} {K K' : Act → World → Prop} {Q : Exit → Act → World → Prop} {r : Result Next} (h : o.upon P a K (Exit.then K' Q) r) : o.upon P a K Q r := by
  cases r with
  | ok n w' =>
    cases n with
    | enter f args => exact Calls.mono h fun e w'' hh => by cases e <;> exact hh
    | _ => exact h
  | _ => exact h
theorem wpOp_then {i : Nat} {K K' : Act → World → Prop} {Q : Exit → Act → World → Prop} {a : Act} {w : World} (h : wpOp P ops (Exit.then K' Q) i K a w) : wpOp P ops Q i K a w := by
  unfold wpOp at *
  cases ho : ops[i]? with
  | none => simpa [ho] using h
  | some o =>
    simp only [ho] at h ⊢
    by_cases hw : Region.wanted o (yielded ops a.tmps) = true
    · rw [if_pos hw] at h ⊢
      exact h.imp upon_then id
    · rw [if_neg hw] at h ⊢
      exact h
/-- A move: it may be taken first. -/
def isMove (o : Oper) : Bool := match o.op with
  | .move _ => true
  | _ => false
theorem move_yields {o : Oper} (h : isMove o = true) (a : Act) : ∃ v, Yields P ops o v a := by
  obtain ⟨dst, op, ty, pos, after, guard⟩ := o
  cases op with
  | move x =>
    cases hw : Region.wanted ⟨dst, .move x, ty, pos, after, guard⟩ (yielded ops a.tmps) with
    | true => exact ⟨a.eval x, .inl ⟨hw, fun w => rfl⟩⟩
    | false => exact ⟨undef, .inr ⟨hw, rfl⟩⟩
  | _ => cases h
/-- All below k came. -/
def upTo (n k : Nat) : Array Bool := ((List.range n).map fun i => decide (i < k)).toArray
theorem upTo_at (n k j : Nat) (d : Bool) : (upTo n k).getD j d = if j < n then decide (j < k) else d := by
  unfold upTo
  by_cases h : j < n
  · simp [h]
  · simp [h]
theorem upTo_zero (n : Nat) : Array.replicate n false = upTo n 0 := by
  apply Array.ext
  · simp [upTo]
  · intro i h1 h2; simp [upTo]
theorem upTo_set (n k : Nat) : (upTo n k).setIfInBounds k true = upTo n (k + 1) := by
  apply Array.ext
  · simp [upTo]
  · intro i h1 h2
    rw [Array.getElem_setIfInBounds]
    split
    · rename_i h; subst h; simp [upTo]
    · rename_i h
      simp only [upTo, List.getElem_toArray, List.getElem_map, List.getElem_range, decide_eq_decide]
      omega
    · simpa [upTo] using h1
theorem upTo_size (n k : Nat) : (upTo n k).size = n := by simp [upTo]
/-- Behind all below k the operation of number k may come up, and it alone, or it is a move that may be taken first. -/
def okAt (md : Region.Mode) (ops : Array Oper) (o : Oper) (k : Nat) (tl : List Oper) : Bool :=
  (o.after.all fun e => !Region.binds md e || decide (e.on < k)) &&
  ((tl.all fun o' => o'.after.any fun e => Region.binds md e && decide (k ≤ e.on)) || (isMove o && tl.all fun o' => (o'.after.any fun e => Region.binds md e && e.on == k) || o.apart ops o'))
def seqK (md : Region.Mode) (ops : Array Oper) : Nat → Nat → List Oper → Bool
  | 0, _, _ => true
  | _ + 1, _, [] => false
  | f + 1, k, o :: tl => okAt md ops o k tl && seqK md ops f (k + 1) tl
def listTo : Nat → Nat → Array Bool → Array Bool
  | 0, _, listed => listed
  | f + 1, k, listed => listTo f (k + 1) (listed.setIfInBounds k true)
theorem listTo_up (n : Nat) : ∀ f k, listTo f k (upTo n k) = upTo n (k + f)
  | 0, k => rfl
  | f + 1, k => by rw [listTo, upTo_set, listTo_up n f (k + 1)]; congr 1; omega
theorem tail_at {l : List Oper} {k j : Nat} {o oj : Oper} {tl : List Oper} (h : l.drop k = o :: tl) (hj : k < j) (ho : l.toArray[j]? = some oj) : oj ∈ tl := by
  have h1 : (l.drop k)[j - k]? = some oj := by rw [List.getElem?_drop]; simpa [show k + (j - k) = j from by omega] using ho
  rw [h, show j - k = (j - k - 1) + 1 from by omega, List.getElem?_cons_succ] at h1
  exact List.mem_of_getElem? h1
theorem wpList_move {o : Oper} {l : List Oper} {Q : Exit → Act → World → Prop} {a : Act} {w : World} {v : Value} (hy : Yields P ops o v a) (h : isMove o = true) (hl : wpList P ops Q (o :: l) a w) : wpList P ops Q l (a.put o.dst v) w := by
  unfold wpList at hl
  rcases hy with ⟨hw, hv⟩ | ⟨hw, rfl⟩
  · rw [if_pos hw] at hl
    rcases hl with hl | ⟨hl, -⟩
    · unfold Oper.wp at hl
      rw [hv w] at hl
      exact hl
    · obtain ⟨dst, op, ty, pos, after, guard⟩ := o
      cases op with
      | move x =>
        have h1 : ((execOp a.eval ⟨dst, .move x, ty, pos, after, guard⟩).runT P w #[]).2 = #[] := rfl
        have h2 := hl.1
        rw [h1] at h2
        simp at h2
      | _ => cases h
  · rw [if_neg (by rw [hw]; simp)] at hl
    exact hl
theorem drop_at {l : List Oper} {k : Nat} {o : Oper} {tl : List Oper} (h : l.drop k = o :: tl) : l.toArray[k]? = some o ∧ k < l.length ∧ l.drop (k + 1) = tl := by
  have h1 : (l.drop k)[0]? = some o := by rw [h]; rfl
  rw [List.getElem?_drop] at h1
  have h2 : k < l.length := by
    rcases Nat.lt_or_ge k l.length with h3 | h3
    · exact h3
    · rw [List.drop_eq_nil_of_le h3] at h; cases h
  exact ⟨by simpa using h1, h2, by rw [← List.drop_drop, h]; rfl⟩
theorem wpAny_seq {l : List Oper} {Q : Exit → Act → World → Prop} {K : Act → World → Prop} {g : Nat} (hsel : Region.noSelect l.toArray = true) (hQ : ∀ c d v a w, Q (.panic c) (Act.put a d v) w → Q (.panic c) a w) :
    ∀ (f k : Nat) (a : Act) (w : World), seqK md l.toArray f k (l.drop k) = true → wpList P l.toArray (Exit.then K Q) ((l.drop k).take f) a w →
      (∀ a w, K a w → wpAny P md l.toArray Q g (upTo l.length (k + f)) a w) → wpAny P md l.toArray Q (f + g) (upTo l.length k) a w := by
  intro f
  induction f with
  | zero => intro k a w _ h hK; rw [Nat.zero_add]; exact hK a w h
  | succ f ih =>
    intro k a w hB h hK
    cases hd : l.drop k with
    | nil => rw [hd] at hB; cases hB
    | cons o tl =>
      obtain ⟨h0, hkl, hdr⟩ := drop_at hd
      rw [hd] at hB h
      rw [List.take_succ_cons] at h
      simp only [seqK, okAt, Bool.and_eq_true] at hB
      obtain ⟨⟨hdep, hB⟩, hB'⟩ := hB
      have hrk : k ∈ Region.ready md l.toArray (upTo l.length k) := by
        rw [mem_ready]
        refine ⟨by rw [upTo_at, if_pos hkl]; simp, o, h0, fun e he hb => ?_⟩
        have h1 := Array.all_eq_true_iff_forall_mem.1 hdep e he
        rw [hb] at h1
        have h2 : e.on < k := by simpa using h1
        rw [upTo_at, if_pos (by omega)]
        simpa using h2
      rw [show f + 1 + g = (f + g) + 1 from by omega]
      have hK' : ∀ a w, K a w → wpAny P md l.toArray Q g (upTo l.length (k + 1 + f)) a w := by rw [show k + 1 + f = k + (f + 1) from by omega]; exact hK
      rw [Bool.or_eq_true] at hB
      rcases hB with hB | hB
      · refine ⟨fun h1 => (by rw [h1] at hrk; cases hrk), fun i hi => ?_⟩
        have hik : i = k := by
          obtain ⟨hun, oi, hoi, hall⟩ := mem_ready.1 hi
          rw [upTo_at] at hun
          split at hun
          · have hge : k ≤ i := by simpa using hun
            rcases Nat.eq_or_lt_of_le hge with h1 | h1
            · exact h1.symm
            · have h2 := List.all_eq_true.1 hB oi (tail_at hd h1 hoi)
              obtain ⟨e, he, h3⟩ := Array.any_eq_true'.1 h2
              simp only [Bool.and_eq_true, decide_eq_true_eq] at h3
              have h4 := hall e he h3.1
              rw [upTo_at] at h4
              split at h4
              · have : e.on < k := by simpa using h4
                omega
              · cases h4
          · cases hun
        subst hik
        have hw : wpOp P l.toArray (Exit.then K Q) i (wpList P l.toArray (Exit.then K Q) (tl.take f)) a w := by unfold wpOp; simp only [h0]; exact h
        refine wpOp_mono (fun a' w' h' => ?_) (wpOp_then hw)
        rw [upTo_set]
        exact ih (i + 1) a' w' (by rw [hdr]; exact hB') (by rw [hdr]; exact h') hK'
      · rw [Bool.and_eq_true] at hB
        obtain ⟨hm, hf⟩ := hB
        obtain ⟨v, hy⟩ := move_yields (P := P) (ops := l.toArray) hm a
        have hfree : Region.free md l.toArray (upTo l.length k) k = true := by
          simp only [Region.free, h0, List.all_eq_true, List.mem_range, Bool.or_eq_true, beq_iff_eq]
          intro j hj
          have hjl : j < l.length := by simpa using hj
          rcases Nat.lt_trichotomy j k with h1 | h1 | h1
          · exact .inl (.inr (by rw [upTo_at, if_pos hjl]; simpa using h1))
          · exact .inl (.inl h1)
          · right
            cases ho : l.toArray[j]? with
            | none => rfl
            | some oj => simpa using List.all_eq_true.1 hf oj (tail_at hd h1 ho)
        refine wpAny_take h0 hsel hfree (by simpa using hrk) (fun c a w hq => hQ c o.dst v a w hq) hy ?_
        rw [upTo_set]
        exact ih (k + 1) _ w (by rw [hdr]; exact hB') (by rw [hdr]; exact wpList_move hy hm h) hK'
/-- No operation behind s comes up before all of k up to s came. -/
def segB (md : Region.Mode) (ops : Array Oper) (k s : Nat) : Bool :=
  ((List.range s).all fun i => decide (i < k) || (List.range (s + 1)).any fun j => decide (i < j) && Region.waitsFor md ops j i) &&
  ((List.range ops.size).all fun t => decide (t ≤ s) || (List.range t).any fun u => decide (s ≤ u) && Region.waitsFor md ops t u)
structure SegInv (md : Region.Mode) (ops : Array Oper) (k s : Nat) (listed : Array Bool) : Prop where
  size : listed.size = ops.size
  closed : ∀ j oj, ops[j]? = some oj → listed.getD j false = true → ∀ e ∈ oj.after, Region.binds md e = true → listed.getD e.on false = true
  low : ∀ i, i < k → listed.getD i false = true
  high : ∀ t, s ≤ t → t < ops.size → listed.getD t true = false
def segInvB (md : Region.Mode) (ops : Array Oper) (k s : Nat) (listed : Array Bool) : Bool :=
  decide (listed.size = ops.size) && ((List.range ops.size).all fun j => !listed.getD j false || ((ops[j]?).map fun o => o.after.all fun e => !Region.binds md e || listed.getD e.on false).getD true) &&
    ((List.range k).all fun i => listed.getD i false) && ((List.range ops.size).all fun t => decide (t < s) || !listed.getD t true)
theorem SegInv.of {k s : Nat} {listed : Array Bool} (h : segInvB md ops k s listed = true) : SegInv md ops k s listed := by
  simp only [segInvB, Bool.and_eq_true, decide_eq_true_eq, List.all_eq_true, List.mem_range, Bool.or_eq_true, Bool.not_eq_true'] at h
  obtain ⟨⟨⟨h1, h2⟩, h3⟩, h4⟩ := h
  refine ⟨h1, fun j oj ho hl e he hb => ?_, h3, fun t ht hts => ?_⟩
  · have hj : j < ops.size := (Array.getElem?_eq_some_iff.1 ho).1
    rcases h2 j hj with h | h
    · rw [h] at hl; cases hl
    · rw [ho] at h
      simp only [Option.map_some, Option.getD_some, Array.all_eq_true_iff_forall_mem, Bool.or_eq_true, Bool.not_eq_true'] at h
      rcases h e he with h | h
      · rw [h] at hb; cases hb
      · exact h
  · rcases h4 t hts with h | h
    · omega
    · exact h
theorem getD_up {listed : Array Bool} {i : Nat} (h : listed.getD i true = false) : listed.getD i false = false := by
  by_cases hi : i < listed.size
  · simp [hi] at h ⊢; exact h
  · simp [Array.getElem?_eq_none (Nat.le_of_not_lt hi)] at h
theorem getD_dn {listed : Array Bool} {i : Nat} (hi : i < listed.size) (h : listed.getD i false = false) : listed.getD i true = false := by
  simp [hi] at h ⊢; exact h
theorem SegInv.set {k s i : Nat} {listed : Array Bool} (inv : SegInv md ops k s listed) (hi : i ∈ Region.ready md ops listed) (his : i < s) : SegInv md ops k s (listed.setIfInBounds i true) := by
  obtain ⟨_, oi, hoi, hall⟩ := mem_ready.1 hi
  refine ⟨by simp [inv.size], fun j oj hj hl e he hb => ?_, fun j hj => getD_set_true (inv.low j hj), fun t ht ht' => by rw [getD_set_ne true (by omega)]; exact inv.high t ht ht'⟩
  by_cases hij : i = j
  · subst hij
    obtain rfl : oj = oi := Option.some.inj (hj.symm.trans hoi)
    exact getD_set_true (hall e he hb)
  · rw [getD_set_ne false hij] at hl
    exact getD_set_true (inv.closed j oj hj hl e he hb)
theorem waits_listed {t u : Nat} {listed : Array Bool} (hw : Region.waitsFor md ops t u = true) (h : t ∈ Region.ready md ops listed) : listed.getD u false = true := by
  obtain ⟨ot, hot, e, he, hb, rfl⟩ := Region.waitsFor_spec hw
  obtain ⟨_, o', ho', hall⟩ := mem_ready.1 h
  obtain rfl : ot = o' := Option.some.inj (hot.symm.trans ho')
  exact hall e he hb
/-- While one of k up to s has not come, none from s on comes up. -/
theorem seg_waits {k s : Nat} {listed : Array Bool} (hB : segB md ops k s = true) (hs : s < ops.size) (inv : SegInv md ops k s listed) :
    ∀ (d i : Nat), s - i = d → k ≤ i → i < s → listed.getD i true = false → ∀ t, s ≤ t → t ∉ Region.ready md ops listed := by
  simp only [segB, Bool.and_eq_true, List.all_eq_true, List.mem_range, Bool.or_eq_true, decide_eq_true_eq, List.any_eq_true] at hB
  obtain ⟨h1, h2⟩ := hB
  intro d
  induction d using Nat.strongRecOn with
  | _ d ih =>
    intro i hd hk hi hun t ht hr
    have htl : t < ops.size := by obtain ⟨_, o, ho, _⟩ := mem_ready.1 hr; exact (Array.getElem?_eq_some_iff.1 ho).1
    by_cases hts : t = s
    · subst hts
      obtain ⟨j, hj, hij, hw⟩ := (h1 i hi).resolve_left (by omega)
      by_cases hjt : j = t
      · subst hjt
        have := waits_listed hw hr
        rw [getD_up hun] at this
        cases this
      · cases hl : listed.getD j false with
        | true =>
          obtain ⟨oj, hoj, e, he, hb, rfl⟩ := Region.waitsFor_spec hw
          have := inv.closed j oj hoj hl e he hb
          rw [getD_up hun] at this
          cases this
        | false => exact ih (t - j) (by omega) j rfl (by omega) (by omega) (getD_dn (by rw [inv.size]; omega) hl) t (Nat.le_refl _) hr
    · obtain ⟨u, hu, hsu, hw⟩ := (h2 t htl).resolve_left (by omega)
      have := waits_listed hw hr
      rw [getD_up (inv.high u hsu (by omega))] at this
      cases this
variable {w : World}
/-- What yields may be taken first, in a piece that is still. -/
theorem seg_first {k s i : Nat} {oi : Oper} {v : Value} {L : Array Bool → Act → Prop} (hi : ops[i]? = some oi) (hsel : Region.noSelect ops = true) (hB : segB md ops k s = true) (hs : s < ops.size) (hki : k ≤ i) (his : i < s)
    (hdone : ∀ listed a, L listed a → ∀ j ∈ Region.ready md ops listed, s ≤ j) :
    ∀ (f : Nat) (listed : Array Bool) (a : Act), SegInv md ops k s listed →
      (∀ j oj, ops[j]? = some oj → j ≠ i → listed.getD j true = false → (∀ e ∈ oj.after, Region.binds md e = true → e.on ≠ i) → oi.apart ops oj = true) →
      i ∈ Region.ready md ops listed → YieldsAt P ops w oi v a →
      wpAnyL P md ops w s L f (listed.setIfInBounds i true) (a.put oi.dst v) → wpAnyL P md ops w s L (f + 1) listed a := by
  intro f
  induction f with
  | zero =>
    intro listed a inv _ hr hy H
    refine ⟨fun h => (by rw [h] at hr; cases hr), fun j hj => ?_⟩
    have hjs : j < s := Nat.lt_of_not_le fun h => seg_waits hB hs inv _ i rfl hki his (mem_ready.1 hr).1 j h hj
    by_cases hji : j = i
    · subst hji; exact ⟨his, hy.stOp hi H⟩
    · have := hdone _ _ H j (ready_mono hj hji)
      omega
  | succ f ih =>
    intro listed a inv hfree hr hy H
    refine ⟨fun h => (by rw [h] at hr; cases hr), fun j hj => ?_⟩
    have hjs : j < s := Nat.lt_of_not_le fun h => seg_waits hB hs inv _ i rfl hki his (mem_ready.1 hr).1 j h hj
    refine ⟨hjs, ?_⟩
    by_cases hji : j = i
    · subst hji; exact hy.stOp hi H
    · obtain ⟨hun, oj, hoj, hall⟩ := mem_ready.1 hj
      have hun0 := (mem_ready.1 hr).1
      have hno : ∀ e ∈ oj.after, Region.binds md e = true → e.on ≠ i := fun e he hb heq => by
        have := hall e he hb
        rw [heq, getD_up hun0] at this
        cases this
      have h1 := (H.2 j (ready_mono hj hji)).2
      have h2 := stOp_put hoj (hfree j oj hoj hji hun hno) (fun cs b => Region.noSelect_spec hsel i oi cs b hi) (fun cs b => Region.noSelect_spec hsel j oj cs b hoj) hy h1
      refine stOp_mono (fun a' h3 => ih _ a' (inv.set hj hjs) (fun m om hm hmi hmu hmo => hfree m om hm hmi ?_ hmo) (ready_mono hr (Ne.symm hji)) h3.1 ?_) h2
      · by_cases hjm : j = m
        · subst hjm; exact hun
        · rw [getD_set_ne true hjm] at hmu; exact hmu
      · rw [Array.setIfInBounds_comm _ _ hji]
        exact h3.2
def segLex (md : Region.Mode) (ops : Array Oper) (s : Nat) : Nat → Nat → Array Bool → Bool
  | 0, _, listed => (Region.ready md ops listed).all fun j => decide (s ≤ j)
  | f + 1, k, listed => (Region.ready md ops listed).contains k && Region.free md ops listed k && segLex md ops s f (k + 1) (listed.setIfInBounds k true)
theorem segLex_end {s : Nat} : ∀ (f k : Nat) (listed : Array Bool), segLex md ops s f k listed = true → ∀ j ∈ Region.ready md ops (listTo f k listed), s ≤ j
  | 0, k, listed, h => by simpa [segLex, listTo] using h
  | f + 1, k, listed, h => by
    simp only [segLex, Bool.and_eq_true] at h
    exact segLex_end f (k + 1) _ h.2
theorem wpAnyL_seg {k0 s : Nat} {Lq : Act → Prop} (hsel : Region.noSelect ops = true) (hB : segB md ops k0 s = true) (hs : s < ops.size) (lend : Array Bool) (hend : ∀ j ∈ Region.ready md ops lend, s ≤ j) :
    ∀ (l : List Oper) (k : Nat) (listed : Array Bool) (a : Act), (∀ j, j < l.length → l[j]? = ops[k + j]?) → k + l.length = s → k0 ≤ k → SegInv md ops k0 s listed → listTo l.length k listed = lend →
    segLex md ops s l.length k listed = true → wpStill P ops w Lq l a → wpAnyL P md ops w s (fun listed' a' => listed' = lend ∧ Lq a') l.length listed a
  | [], k, listed, a, _, hk, _, _, hle, _, h => ⟨hle, h⟩
  | o :: l, k, listed, a, hl, hk, hk0, inv, hle, hx, h => by
    have h0 : ops[k]? = some o := by have := hl 0 (by simp); simpa using this.symm
    simp only [List.length_cons, segLex, Bool.and_eq_true] at hx
    obtain ⟨⟨hr, hf⟩, hx'⟩ := hx
    have hks : k < s := by simp only [List.length_cons] at hk; omega
    have hr' : k ∈ Region.ready md ops listed := by simpa using hr
    have hst : stOp P ops w k (wpStill P ops w Lq l) a := by unfold stOp; simp only [h0]; exact h
    obtain ⟨v, hy, hK⟩ := yieldsAt_of_stOp h0 hst
    exact seg_first h0 hsel hB hs hk0 hks (fun listed' a' hL => by rw [hL.1]; exact hend) l.length listed a inv (Region.free_spec h0 hf) hr' hy
      (wpAnyL_seg hsel hB hs lend hend l (k + 1) _ _ (fun j hj => by have := hl (j + 1) (by simpa using hj); simpa [Nat.add_assoc, Nat.add_comm 1 j] using this) (by simp only [List.length_cons] at hk; omega) (by omega) (inv.set hr' hks) hle hx' hK)
theorem wpAny_seg {Q : Exit → Act → World → Prop} {g k s : Nat} (hsel : Region.noSelect ops = true) (l : List Oper) (listed : Array Bool) (a : Act) (hl : ∀ j, j < l.length → l[j]? = ops[k + j]?) (hk : k + l.length = s) (hs : s < ops.size)
    (hB : segB md ops k s = true) (hI : segInvB md ops k s listed = true) (hx : segLex md ops s l.length k listed = true) (h : wpStill P ops w (fun a' => wpAny P md ops Q g (listTo l.length k listed) a' w) l a) : wpAny P md ops Q (l.length + g) listed a w :=
  wpAny_of_head (n := s) (L := fun listed' a' => listed' = listTo l.length k listed ∧ wpAny P md ops Q g (listTo l.length k listed) a' w) (fun listed' a' hL => by rw [hL.1]; exact hL.2) l.length listed a
    (wpAnyL_seg hsel hB hs _ (segLex_end _ _ _ hx) l k listed a hl hk (Nat.le_refl _) (SegInv.of hI) rfl hx h)
end
section
variable {P : Program} {md : Region.Mode} {l : List Oper} {Q : Exit → Act → World → Prop} {listed : Array Bool} {a : Act} {w : World} {fuel : Nat}
theorem take_at (l : List Oper) (k m : Nat) (j : Nat) (hj : j < ((l.drop k).take m).length) : ((l.drop k).take m)[j]? = l.toArray[k + j]? := by
  rw [List.getElem?_take]
  rw [List.length_take] at hj
  rw [if_pos (by omega)]
  simp
/-- A piece in the text's order (behind 'go_plan_seq n, k, m, g' type 'intro K hK' and walk: the walk itself goes on to the next piece). -/
theorem plan_seq (n k m g : Nat) (hn : n = l.length) (hf : fuel = m + g) (hsel : Region.noSelect l.toArray = true) (hQ : ∀ c d v a w, Q (.panic c) (Act.put a d v) w → Q (.panic c) a w) (hB : seqK md l.toArray m k (l.drop k) = true)
    (h : ∀ K : Act → World → Prop, (∀ a w, wpAny P md l.toArray Q g (upTo n (k + m)) a w → K a w) → wpList P l.toArray (Exit.then K Q) ((l.drop k).take m) a w) : wpAny P md l.toArray Q fuel (upTo n k) a w := by
  subst hf hn
  exact wpAny_seq (K := fun a w => wpAny P md l.toArray Q g (upTo l.length (k + m)) a w) hsel hQ m k a w hB (h _ fun _ _ h => h) fun _ _ h => h
theorem plan_begin {id : Nat} (hm : P.follows .mixedOrders = true) (n : Nat) (hn : n = l.toArray.size) (h : wpAny P .any l.toArray Q n (upTo n 0) a w.drew) : (Code.region id l.toArray true).wp P Q a w := by
  subst hn
  exact wp_region_any hm (by rw [upTo_zero]; exact h)
theorem plan_end (n : Nat) (hn : n = l.length) (h : Q .normal a w) : wpAny P md l.toArray Q 0 (upTo n n) a w := by
  subst hn
  refine ⟨?_, h⟩
  refine List.eq_nil_iff_forall_not_mem.2 fun j hj => ?_
  obtain ⟨hun, o, ho, -⟩ := mem_ready.1 hj
  have hlt : j < l.length := by simpa using (Array.getElem?_eq_some_iff.1 ho).1
  rw [upTo_at, if_pos hlt] at hun
  have : l.length ≤ j := by simpa using hun
  omega
/-- A piece of reads, behind which nothing comes up before all came. -/
theorem plan_still (n k m g : Nat) (hf : fuel = m + g) (hsel : Region.noSelect l.toArray = true) (hm : ((l.drop k).take m).length = m) (hs : decide (k + m < l.toArray.size) = true) (hB : segB md l.toArray k (k + m) = true) (hI : segInvB md l.toArray k (k + m) (upTo n k) = true) (hx : segLex md l.toArray (k + m) m k (upTo n k) = true)
    (h : ∀ K : Act → Prop, (∀ a, wpAny P md l.toArray Q g (upTo n (k + m)) a w → K a) → wpStill P l.toArray w K ((l.drop k).take m) a) : wpAny P md l.toArray Q fuel (upTo n k) a w := by
  subst hf
  have := wpAny_seg (P := P) (md := md) (Q := Q) (g := g) (w := w) (k := k) (s := k + m) hsel ((l.drop k).take m) (upTo n k) a (take_at l k m) (by rw [hm]) (of_decide_eq_true hs) hB hI (by rw [hm]; exact hx) (by rw [hm, listTo_up]; exact h _ fun _ h => h)
  rwa [hm] at this
end
section
variable {P : Program} {md : Region.Mode} {l : List Oper} {Q : Exit → Act → World → Prop} {listed : Array Bool} {a : Act} {w : World} {fuel : Nat}
theorem wpOp_list {i : Nat} {o : Oper} {K : Act → World → Prop} (hi : l.toArray[i]? = some o) (h : wpList P l.toArray (Exit.then K Q) [o] a w) : wpOp P l.toArray Q i K a w := by
  refine wpOp_then (K' := K) ?_
  unfold wpOp
  simp only [hi]
  exact h
/-- One may come up. -/
theorem plan_one (i : Nat) {o : Oper} (hr : Region.ready md l.toArray listed = [i]) (hi : l.toArray[i]? = some o) (h : ∀ K : Act → World → Prop, (∀ a w, wpAny P md l.toArray Q fuel (listed.setIfInBounds i true) a w → K a w) → wpList P l.toArray (Exit.then K Q) [o] a w) :
    wpAny P md l.toArray Q (fuel + 1) listed a w := by
  refine ⟨fun h0 => (by rw [hr] at h0; cases h0), fun j hj => ?_⟩
  rw [hr] at hj
  obtain rfl : j = i := by simpa using hj
  exact wpOp_list hi (h _ fun _ _ h => h)
/-- One of two may come up. -/
theorem plan_two (i j : Nat) {o o' : Oper} (hr : Region.ready md l.toArray listed = [i, j]) (hi : l.toArray[i]? = some o) (hj : l.toArray[j]? = some o')
    (h : ∀ K : Act → World → Prop, (∀ a w, wpAny P md l.toArray Q fuel (listed.setIfInBounds i true) a w → K a w) → wpList P l.toArray (Exit.then K Q) [o] a w)
    (h' : ∀ K : Act → World → Prop, (∀ a w, wpAny P md l.toArray Q fuel (listed.setIfInBounds j true) a w → K a w) → wpList P l.toArray (Exit.then K Q) [o'] a w) :
    wpAny P md l.toArray Q (fuel + 1) listed a w := by
  refine ⟨fun h0 => (by rw [hr] at h0; cases h0), fun m hm => ?_⟩
  rw [hr] at hm
  rcases (by simpa using hm : m = i ∨ m = j) with rfl | rfl
  · exact wpOp_list hi (h _ fun _ _ h => h)
  · exact wpOp_list hj (h' _ fun _ _ h => h)
/-- A move is taken first. -/
theorem plan_move (i : Nat) {o : Oper} (hi : l.toArray[i]? = some o) (hm : isMove o = true) (hsel : Region.noSelect l.toArray = true) (hQ : ∀ c d v a w, Q (.panic c) (Act.put a d v) w → Q (.panic c) a w) (hf : Region.free md l.toArray listed i = true) (hr : (Region.ready md l.toArray listed).contains i = true)
    (h : ∀ K : Act → World → Prop, (∀ a w, wpAny P md l.toArray Q fuel (listed.setIfInBounds i true) a w → K a w) → wpList P l.toArray (Exit.then K Q) [o] a w) :
    wpAny P md l.toArray Q (fuel + 1) listed a w := by
  obtain ⟨v, hy⟩ := move_yields (P := P) (ops := l.toArray) hm a
  exact wpAny_take hi hsel hf hr (fun c a w hq => hQ c o.dst v a w hq) hy (wpList_move hy hm (h (wpAny P md l.toArray Q fuel (listed.setIfInBounds i true)) fun _ _ h => h))
/-- All have come. -/
theorem plan_done (hr : Region.ready md l.toArray listed = []) (h : Q .normal a w) : wpAny P md l.toArray Q 0 listed a w := ⟨hr, h⟩
end
end Go.Proofs.YtpcdbkaeijhmfaaGreatDoor
namespace Go.Proofs.YtpcdbkaeijhmfaaGreatDoor
set_option maxRecDepth 100000
set_option linter.unusedVariables false
set_option linter.unusedSimpArgs false
open Go.RowKit
/-- R: what the iterator turns; Kp: what a body that goes on leaves as it was. -/
def SeqWS {α : Type} (F : Fence) (n : Nat) (P : Program) (g : Nat) (lb : Array Value) (encs : α → Array Value) (R Kp : World → World → Prop) (S Sp : List α → Prop) (w : World) : Prop :=
  ∀ (l : Nat) (J Jx : List α → World → Prop) (W : World), Frm (fun _ => False) w W → (∀ s X Y, J s X → R X Y → J s Y) → (∀ s X Y, Jx s X → R X Y → Jx s Y) →
    (∀ pre x W1, J pre W1 → Sp (pre ++ [x]) → YieldAt F (n - 1) P l (encs x) W1 fun e W' => (e = .returned (.bool true) ∧ J (pre ++ [x]) W' ∧ Kp W1 W') ∨ (e = .returned (.bool false) ∧ Jx (pre ++ [x]) W')) →
    J [] W → CallsIn F n P g (#[.func (.yield l) #[] #[]] ++ lb) W fun e W' => (∃ v, e = .returned v) ∧ ((∃ xs, S xs ∧ J xs W') ∨ (∃ pre, Sp pre ∧ Jx pre W'))
/-- How a body leaves a round: it goes on, or it returns. -/
def wsPost {α : Type} (B : Nat) (Kp : World → World → Prop) (I Ix : List α → World → Prop) (xs : List α) (W : World) : Exit → Act → World → Prop
  | .normal, _, W' => KeepsFrom B W W' ∧ Kp W W' ∧ I xs W'
  | .ret, _, W' => KeepsFrom B W W' ∧ Ix xs W'
  | _, _, _ => False
section
variable {α : Type} {F : Fence} {n : Nat} {P : Program} {w w0 : World}
def recOf2 (w : World) (fn : FuncId) (tmps : Array Value) (ps : Array Tmp) (assign body : Code) (st : LoopState) (pe : Option Code) : Obj :=
  .loop { state := st, pending := pe, fn, tmps, params := ps, assign, body, defers := w.heap.size }
theorem wpIn_range_ws {g : Operand} {ps : Array Tmp} {assign body : Code} {Q : Exit → Act → World → Prop} {a : Act}
    (hro : F.round = none) (h1 : 1 ≤ n) {gf : Nat} {lb : Array Value} (hg : a.eval g = .func (.func gf) #[] lb) (hFg : F.fn gf) (eg : ∀ args w, (callFunc gf args).run P w = .ok (.enter gf args) w)
    {encs : α → Array Value} {R Kp : World → World → Prop} {S Sp : List α → Prop} (hseq : SeqWS F (n - 1) P gf lb encs R Kp S Sp w0) (hb0 : Frm (fun _ => False) w0 w) (hps : ∀ x, (encs x).size = ps.size)
    (hR : ∀ X Y, R X Y → KeepsFrom w.heap.size X Y) (hKt : ∀ {A B C : World}, Kp A B → Kp B C → Kp A C) (hKb : ∀ (W : World) (o : Obj), Kp W (W.putObj (w.heap.size + 1) o))
    (I Ix : List α → World → Prop) (hI : ∀ s X Y, I s X → R X Y → I s Y) (hIx : ∀ s X Y, Ix s X → R X Y → Ix s Y) (hIo : OwnFrom w.heap.size I) (hIxo : OwnFrom w.heap.size Ix) (h0 : I [] w) (a₁ : α → Act)
    (hassign : ∀ (l : Nat) (x : α) (W : World) (K : Act → World → Prop), K (a₁ x) W →
      assign.wpIn (F.inRound l) (n - 1 - 1) P (Exit.then K (fun _ _ _ => False)) { tmps := (ps.zip (encs x)).foldl (fun t (p, v) => t.setIfInBounds p v) a.tmps, defers := [] } W)
    (hbody : ∀ (l : Nat) (pre : List α) (x : α) (W : World), I pre W → Sp (pre ++ [x]) → body.wpIn (F.inRound l) (n - 1 - 1) P (wsPost w.heap.size Kp I Ix (pre ++ [x]) W) (a₁ x) W)
    (hdone : ∀ (D : Nat) (xs : List α) (W : World), w.heap.size ≤ D → S xs → I xs W → W.heap[D]? = some (.deferred (some [])) → Q .normal { a with defers := { target := .collected D, args := #[] } :: a.defers } W)
    (hstop : ∀ (D : Nat) (pre : List α) (W : World), w.heap.size ≤ D → Sp pre → Ix pre W → W.heap[D]? = some (.deferred (some [])) → Code.ret.wpIn F n P Q { a with defers := { target := .collected D, args := #[] } :: a.defers } W) :
    (Code.rangeFunc g ps assign body).wpIn F n P Q a w := by
  refine wpIn_rangeFunc fun fn hfn => ?_
  rw [hro]
  obtain ⟨rec, hrec⟩ : ∃ rec, rec = recOf2 w fn a.tmps ps assign body := ⟨_, rfl⟩
  have ho : ∀ st pe, (rec st pe).isCells = false := fun st pe => by rw [hrec]; rfl
  have hT : Two w (rec .ready none) ((w.alloc (.deferred (some []))).alloc (rec .ready none)) :=
    ⟨by have := World.alloc_heap_new (w.alloc (.deferred (some []))) (rec .ready none); rwa [World.size_alloc] at this, (Below.heap_alloc _ _ _ (by simp)).trans (World.alloc_heap_new w _)⟩
  have he : (Instr.enterLoop fn a.tmps ps assign body none).run P w = .ok (w.heap.size + 1, [{ target := .collected w.heap.size, args := #[] }]) ((w.alloc (.deferred (some []))).alloc (rec .ready none)) := by
    rw [hrec]; exact run_enterLoop_outer fn a.tmps ps assign body
  have hf1 : Frm (fun _ => False) w0 ((w.alloc (.deferred (some []))).alloc (rec .ready none)) := (hb0.alloc _).alloc _
  have hi1 : I [] ((w.alloc (.deferred (some []))).alloc (rec .ready none)) := hIo.alloc _ (hIo.alloc _ h0)
  generalize (w.alloc (.deferred (some []))).alloc (rec .ready none) = W1 at *
  refine ⟨w.heap.size + 1, _, W1, { target := .fn (.func gf) lb, args := #[.func (.yield (w.heap.size + 1)) #[] #[]] }, W1, gf, #[.func (.yield (w.heap.size + 1)) #[] #[]] ++ lb, W1, he, ?_, ?_, ?_, fun _ => h1, ?_⟩
  · simp only [resolve, hg]; simp [go_sem]
  · intro f' hf'; simp [Target.leads] at hf'; subst hf'; exact hFg
  · simp [invoke, go_sem, eg]
  · refine (hseq (w.heap.size + 1) (fun pre W => I pre W ∧ Two w (rec .ready none) W) (fun pre W => Ix pre W ∧ Two w (rec .done (some .ret)) W) W1 hf1
      (fun s X Y hs hr => ⟨hI s X Y hs.1 hr, (hR X Y hr).same _ _ (by omega) hs.2.1 (ho _ _), (hR X Y hr).same _ _ (Nat.le_refl _) hs.2.2 rfl⟩)
      (fun s X Y hs hr => ⟨hIx s X Y hs.1 hr, (hR X Y hr).same _ _ (by omega) hs.2.1 (ho _ _), (hR X Y hr).same _ _ (Nat.le_refl _) hs.2.2 rfl⟩) ?round ⟨hi1, hT⟩).mono ?behind
    case round =>
      rintro pre x W ⟨hi, hT⟩ hlen
      have hl := hT.1
      rw [hrec] at hl
      refine ⟨fn, _, assign, body, run_yield (P := P) (args := encs x) hl (hps x), roundIn_of_wpIn hfn (hassign _ x W _ ?_)⟩
      refine ⟨_, run_beginRound hl rfl, ?_⟩
      have hTb : Two w (rec .busy none) (W.putObj (w.heap.size + 1) (rec .busy none)) := hT.put
      show body.wpIn _ _ P _ _ (W.putObj (w.heap.size + 1) (recOf2 w fn a.tmps ps assign body .busy none))
      rw [← hrec]
      refine wpIn_mono (hbody _ pre x _ (hIo.putObj _ hi (by omega) hT.1 (ho _ _)) hlen) ?_
      rintro e a3 W3 hp
      cases e with
      | normal =>
        obtain ⟨hk, hkp, hi3⟩ := hp
        have h3 : Two w (rec .busy none) W3 := ⟨hk.same _ _ (by omega) hTb.1 (ho _ _), hk.same _ _ (Nat.le_refl _) hTb.2 rfl⟩
        have hl3 := h3.1
        rw [hrec] at hl3
        refine ⟨.bool true, _, run_endRound (P := P) none hl3, .inl ⟨rfl, ?_, hKt (hKt (hKb W _) hkp) (hKb W3 _)⟩⟩
        show _ ∧ Two w (rec .ready none) (W3.putObj (w.heap.size + 1) (recOf2 w fn a.tmps ps assign body .ready none))
        rw [← hrec]
        exact ⟨hIo.putObj _ hi3 (by omega) h3.1 (ho _ _), h3.put⟩
      | ret =>
        obtain ⟨hk, hi3⟩ := hp
        have h3 : Two w (rec .busy none) W3 := ⟨hk.same _ _ (by omega) hTb.1 (ho _ _), hk.same _ _ (Nat.le_refl _) hTb.2 rfl⟩
        have hl3 := h3.1
        rw [hrec] at hl3
        refine ⟨.bool false, _, run_endRound (P := P) (some .ret) hl3, .inr ⟨rfl, ?_⟩⟩
        show _ ∧ Two w (rec .done (some .ret)) (W3.putObj (w.heap.size + 1) (recOf2 w fn a.tmps ps assign body .done (some .ret)))
        rw [← hrec]
        exact ⟨hIxo.putObj _ hi3 (by omega) h3.1 (ho _ _), h3.put⟩
      | exit id => exact hp.elim
      | goto t => exact hp.elim
      | panic ch => exact hp.elim
      | outgrown => exact hp.elim
    case behind =>
      rintro e W2 ⟨⟨v, rfl⟩, (⟨xs, hS, hi, hT2⟩ | ⟨pre, hSp, hi, hT2⟩)⟩
      · have hl := hT2.1
        rw [hrec] at hl
        exact ⟨none, _, run_endLoop (P := P) hl (by simp), hdone _ xs _ (Nat.le_refl _) hS (hIo.putObj _ hi (by omega) hT2.1 (ho _ _)) ((World.putObj_heap_other (by omega)).trans hT2.2)⟩
      · have hl := hT2.1
        rw [hrec] at hl
        exact ⟨some .ret, _, run_endLoop (P := P) hl (by simp), hstop _ pre _ (Nat.le_refl _) hSp (hIxo.putObj _ hi (by omega) hT2.1 (ho _ _)) ((World.putObj_heap_other (by omega)).trans hT2.2)⟩
end
end Go.Proofs.YtpcdbkaeijhmfaaGreatDoor
namespace Go.Proofs.YtpcdbkaeijhmfaaGreatDoor
set_option maxRecDepth 100000
set_option linter.unusedVariables false
set_option linter.unusedSimpArgs false
section
variable {P : Program} {md : Region.Mode} {l : List Oper} {Q : Exit → Act → World → Prop}
def upd (f : Nat → Value) (i : Nat) (v : Value) : Nat → Value := fun j => cond (Nat.beq j i) v (f j)
theorem upd_same (f : Nat → Value) (i : Nat) (v : Value) : upd f i v i = v := by simp [upd]
theorem upd_ne (f : Nat → Value) {i j : Nat} (v : Value) (h : j ≠ i) : upd f i v j = f j := by
  unfold upd
  rw [show Nat.beq j i = false from by
    cases hb : Nat.beq j i with
    | false => rfl
    | true => exact absurd (Nat.eq_of_beq_eq_true hb) h]
  rfl
/-- o waits for j. -/
def depB (md : Region.Mode) (o : Oper) (j : Nat) : Bool := o.after.any fun e => Region.binds md e && e.on == j
/-- Each waits for earlier ones alone. -/
def lowB (md : Region.Mode) (l : List Oper) : Bool := (List.range l.length).all fun i => ((l[i]?).map fun o => o.after.all fun e => !Region.binds md e || decide (e.on < i)).getD true
/-- j is i, or waits for it. -/
def reachB (md : Region.Mode) (l : List Oper) (i : Nat) : Nat → Nat → Bool
  | 0, j => j == i
  | n + 1, j => j == i || ((l[j]?).map fun o => o.after.any fun e => Region.binds md e && reachB md l i n e.on).getD false
def Lclosed (md : Region.Mode) (l : List Oper) (listed : Array Bool) : Prop := ∀ j oj, l[j]? = some oj → listed.getD j false = true → ∀ e ∈ oj.after, Region.binds md e = true → listed.getD e.on false = true
theorem reach_un {listed : Array Bool} {i : Nat} (hc : Lclosed md l listed) (hi : listed.getD i false = false) : ∀ (n j : Nat), reachB md l i n j = true → listed.getD j false = false
  | 0, j, h => by
    have : j = i := by simpa [reachB] using h
    rw [this]; exact hi
  | n + 1, j, h => by
    unfold reachB at h
    rw [Bool.or_eq_true] at h
    rcases h with h | h
    · have : j = i := by simpa using h
      rw [this]; exact hi
    · cases ho : l[j]? with
      | none => rw [ho] at h; cases h
      | some o =>
        rw [ho] at h
        obtain ⟨e, he, h2⟩ := Array.any_eq_true'.1 (show (o.after.any fun e => Region.binds md e && reachB md l i n e.on) = true from h)
        rw [Bool.and_eq_true] at h2
        have h3 := reach_un hc hi n e.on h2.2
        cases h4 : listed.getD j false with
        | false => rfl
        | true => have := hc j o ho h4 e he h2.1; rw [this] at h3; cases h3
def unl (listed : Array Bool) : Nat := listed.toList.countP (! ·)
theorem unl_set {listed : Array Bool} {i : Nat} (hi : i < listed.size) (h : listed.getD i true = false) : unl (listed.setIfInBounds i true) + 1 = unl listed := by
  unfold unl
  have h0 : listed.toList[i]'(by simpa using hi) = false := by simpa [hi] using h
  have h2 : 0 < listed.toList.countP (! ·) := by
    rw [List.countP_pos_iff]
    exact ⟨false, by rw [← h0]; exact List.getElem_mem _, rfl⟩
  rw [Array.toList_setIfInBounds, List.countP_set (by simpa using hi), h0]
  simp only [Bool.not_false, Bool.not_true, if_true, Bool.false_eq_true, if_false, Nat.add_zero]
  omega
theorem unl_zero {listed : Array Bool} (h : unl listed = 0) (i : Nat) (hi : i < listed.size) : listed.getD i false = true := by
  unfold unl at h
  rw [List.countP_eq_zero] at h
  have := h (listed.toList[i]'(by simpa using hi)) (List.getElem_mem _)
  simpa [hi] using this
def setL (L : Nat → Bool) (i : Nat) : Nat → Bool := fun j => cond (Nat.beq j i) true (L j)
/-- What an operation owes: in whatever state, with what it waits for told. -/
def FxStep (P : Program) (md : Region.Mode) (l : List Oper) (Q : Exit → Act → World → Prop) (listed0 : Array Bool) (RA : (Nat → Value) → Act) (f0 : Nat → Value) (V : Nat → Value → World → Prop) (G : (Nat → Bool) → (Nat → Value) → World → Prop) (St : World → World → Prop) (i : Nat) (o : Oper) : Prop :=
  ∀ (f : Nat → Value) (L : Nat → Bool) (w : World), G L f w → L i = false → (∀ j, depB md o j = true → L j = true) → (∀ j, (depB md o j && !listed0.getD j false) = true → V j (f j) w) → (∀ j, reachB md l i l.length j = true → f j = f0 j) →
    ∀ K : Act → World → Prop, (∀ a' v w', a' = RA (upd f i v) → V i v w' → St w w' → G (setL L i) (upd f i v) w' → K a' w') → wpList P l.toArray (Exit.then K Q) [o] (RA f) w
def Steps (l : List Oper) (p : Nat → Oper → Prop) (R : List Nat) : Prop := ∀ i ∈ R, ∀ o, l.toArray[i]? = some o → p i o
theorem steps_nil {p : Nat → Oper → Prop} : Steps l p [] := fun _ h => by cases h
theorem steps_cons {p : Nat → Oper → Prop} (i : Nat) {o : Oper} {R : List Nat} (hi : l.toArray[i]? = some o) (h : p i o) (t : Steps l p R) : Steps l p (i :: R) := fun j hj o' ho => by
  rcases List.mem_cons.1 hj with rfl | hj
  · rw [hi] at ho; cases ho; exact h
  · exact t j hj o' ho
/-- What is listed when all of R came. -/
def marks (n : Nat) (listed0 : Array Bool) (R : List Nat) : Array Bool := ((List.range n).map fun i => listed0.getD i false || R.contains i).toArray
/-- What R's wait for came already, or is in R; all else waits for all of R. -/
def fenceB (md : Region.Mode) (l : List Oper) (listed0 : Array Bool) (R : List Nat) : Bool :=
  (R.all fun i => ((l[i]?).map fun o => o.after.all fun e => !Region.binds md e || listed0.getD e.on false || R.contains e.on).getD true) &&
  ((List.range l.length).all fun i => listed0.getD i false || R.contains i || R.all fun r => reachB md l r l.length i)
structure FxInv (md : Region.Mode) (l : List Oper) (listed0 : Array Bool) (R : List Nat) (f0 : Nat → Value) (V : Nat → Value → World → Prop) (G : (Nat → Bool) → (Nat → Value) → World → Prop) (listed : Array Bool) (f : Nat → Value) (w : World) : Prop where
  size : listed.size = l.length
  closed : Lclosed md l listed
  first : ∀ j, listed0.getD j false = true → listed.getD j false = true
  old : ∀ j, listed.getD j false = false → f j = f0 j
  val : ∀ j, listed.getD j false = true → listed0.getD j false = false → V j (f j) w
  good : G (fun j => listed.getD j false) f w
  only : ∀ j, listed.getD j false = true → listed0.getD j false = true ∨ j ∈ R
theorem fx_end {listed0 listed : Array Bool} {R : List Nat} {f0 : Nat → Value} {V : Nat → Value → World → Prop} {G : (Nat → Bool) → (Nat → Value) → World → Prop} {f : Nat → Value} {w : World} (inv : FxInv md l listed0 R f0 V G listed f w) (h : ∀ i ∈ R, listed.getD i false = true) : listed = marks l.length listed0 R := by
  apply Array.ext
  · simp [marks, inv.size]
  · intro i h1 h2
    have e : listed[i] = listed.getD i false := by simp [h1]
    simp only [marks, List.getElem_toArray, List.getElem_map, List.getElem_range]
    rw [e]
    cases hl : listed.getD i false with
    | true =>
      rcases inv.only i hl with h3 | h3
      · rw [h3]; rfl
      · rw [show R.contains i = true from by simpa using h3, Bool.or_true]
    | false =>
      cases h3 : listed0.getD i false with
      | true => rw [inv.first i h3] at hl; cases hl
      | false =>
        cases h4 : R.contains i with
        | false => rfl
        | true => rw [h i (by simpa using h4)] at hl; cases hl
theorem fx_run {listed0 : Array Bool} {R : List Nat} {RA : (Nat → Value) → Act} {f0 : Nat → Value} {V : Nat → Value → World → Prop} {G : (Nat → Bool) → (Nat → Value) → World → Prop} {St : World → World → Prop} (hlow : lowB md l = true) (hR : ∀ i ∈ R, i < l.length ∧ listed0.getD i false = false) (hfe : fenceB md l listed0 R = true)
    (hV : ∀ j v w w', V j v w → St w w' → V j v w')
    (hstep : ∀ i o, i ∈ R → l.toArray[i]? = some o → FxStep P md l Q listed0 RA f0 V G St i o) (hend : ∀ f L w, G L f w → (∀ j, j ∈ R → L j = true) → (∀ j, j ∈ R → V j (f j) w) → wpAny P md l.toArray Q (unl (marks l.length listed0 R)) (marks l.length listed0 R) (RA f) w) :
    ∀ (fuel : Nat) (listed : Array Bool) (f : Nat → Value) (w : World), unl listed = fuel → FxInv md l listed0 R f0 V G listed f w → wpAny P md l.toArray Q fuel listed (RA f) w := by
  unfold fenceB at hfe
  rw [Bool.and_eq_true] at hfe
  obtain ⟨hfe1, hfe2⟩ := hfe
  intro fuel
  induction fuel with
  | zero =>
    intro listed f w hu inv
    have hall : ∀ j ∈ R, listed.getD j false = true := fun j hj => unl_zero hu j (by rw [inv.size]; exact (hR j hj).1)
    have he := fx_end inv hall
    have := hend f _ w inv.good hall fun j hj => inv.val j (hall j hj) (hR j hj).2
    rw [← he, hu] at this
    exact this
  | succ fuel ih =>
    intro listed f w hu inv
    by_cases hall : ∀ j ∈ R, listed.getD j false = true
    · have he := fx_end inv hall
      have := hend f _ w inv.good hall fun j hj => inv.val j (hall j hj) (hR j hj).2
      rw [← he, hu] at this
      exact this
    · have hex : ∃ r ∈ R, listed.getD r false = false := by
        by_cases h : ∃ r ∈ R, listed.getD r false = false
        · exact h
        · exact absurd (fun j hj => by
            cases h1 : listed.getD j false with
            | true => rfl
            | false => exact absurd ⟨j, hj, h1⟩ h) hall
      obtain ⟨r0, hr0, hr0u⟩ := hex
      refine ⟨fun hr => ?_, fun i hi => ?_⟩
      · exfalso
        have hl : ∀ j, j ∈ R → listed.getD j false = true := by
          intro j
          induction j using Nat.strongRecOn with
          | _ j hj =>
            intro hjR
            cases h : listed.getD j false with
            | true => rfl
            | false =>
              have hlt := (hR j hjR).1
              have hm : j ∈ Region.ready md l.toArray listed := by
                rw [mem_ready]
                refine ⟨getD_dn (by rw [inv.size]; exact hlt) h, l[j], by simp [hlt], fun e he hb => ?_⟩
                have h1 := List.all_eq_true.1 hlow j (by simpa using hlt)
                rw [List.getElem?_eq_getElem hlt] at h1
                have h2 := Array.all_eq_true_iff_forall_mem.1 (show ((l[j]).after.all fun e => !Region.binds md e || decide (e.on < j)) = true from h1) e he
                rw [hb] at h2
                have h3 : e.on < j := by simpa using h2
                have h4 := List.all_eq_true.1 hfe1 j hjR
                rw [List.getElem?_eq_getElem hlt] at h4
                have h5 := Array.all_eq_true_iff_forall_mem.1 (show ((l[j]).after.all fun e => !Region.binds md e || listed0.getD e.on false || R.contains e.on) = true from h4) e he
                rw [hb] at h5
                cases h6 : listed0.getD e.on false with
                | true => exact inv.first _ h6
                | false =>
                  rw [h6] at h5
                  exact hj e.on h3 (by simpa using h5)
              rw [hr] at hm
              cases hm
        rw [hl r0 hr0] at hr0u
        cases hr0u
      · obtain ⟨hun, o, ho, hall'⟩ := mem_ready.1 hi
        have hil : i < l.length := by simpa using (Array.getElem?_eq_some_iff.1 ho).1
        have hi0 : listed0.getD i false = false := by
          cases h : listed0.getD i false with
          | false => rfl
          | true => have := inv.first i h; rw [getD_up hun] at this; cases this
        have hiR : i ∈ R := by
          have h1 := List.all_eq_true.1 hfe2 i (by simpa using hil)
          rw [hi0, Bool.false_or, Bool.or_eq_true] at h1
          rcases h1 with h1 | h1
          · simpa using h1
          · have h2 := List.all_eq_true.1 h1 r0 hr0
            by_cases hir : i = r0
            · rw [hir]; exact hr0
            · exfalso
              cases hn : l.length with
              | zero => omega
              | succ n =>
                rw [hn, reachB, Bool.or_eq_true] at h2
                rcases h2 with h2 | h2
                · exact hir (by simpa using h2)
                · rw [show l[i]? = some o by simpa using ho] at h2
                  obtain ⟨e, he, h3⟩ := Array.any_eq_true'.1 (show (o.after.any fun e => Region.binds md e && reachB md l r0 n e.on) = true from h2)
                  rw [Bool.and_eq_true] at h3
                  have h4 := hall' e he h3.1
                  rw [reach_un inv.closed hr0u n e.on h3.2] at h4
                  cases h4
        refine wpOp_list ho (hstep i o hiR ho f _ w inv.good (getD_up hun) (fun j hj => by
          obtain ⟨e, he, h2⟩ := Array.any_eq_true'.1 hj
          rw [Bool.and_eq_true] at h2
          have hej : e.on = j := by simpa using h2.2
          exact hej ▸ hall' e he h2.1) (fun j hj => ?_) (fun j hj => inv.old j (reach_un inv.closed (getD_up hun) _ j hj)) _ ?_)
        · rw [Bool.and_eq_true] at hj
          obtain ⟨e, he, h2⟩ := Array.any_eq_true'.1 hj.1
          rw [Bool.and_eq_true] at h2
          have hej : e.on = j := by simpa using h2.2
          exact inv.val j (hej ▸ hall' e he h2.1) (by simpa using hj.2)
        · rintro a' v w' rfl hv hst hgd
          refine ih _ _ _ ?_ ⟨by simp [inv.size], fun j oj hj hl e he hb => ?_, fun j hj => getD_set_true (inv.first j hj), fun j hj => ?_, fun j hj h0 => ?_, ?_, fun j hj => ?_⟩
          · have := unl_set (by rw [inv.size]; exact hil) hun
            omega
          · by_cases hij : i = j
            · subst hij
              obtain rfl : oj = o := Option.some.inj ((by simpa using hj.symm : some oj = l[i]?).trans (by simpa using ho))
              exact getD_set_true (hall' e he hb)
            · rw [getD_set_ne false hij] at hl
              exact getD_set_true (inv.closed j oj hj hl e he hb)
          · by_cases hij : i = j
            · subst hij
              rw [show (listed.setIfInBounds i true).getD i false = true from by simp [inv.size, hil]] at hj
              cases hj
            · rw [getD_set_ne false hij] at hj
              rw [upd_ne _ _ (Ne.symm hij)]
              exact inv.old j hj
          · by_cases hij : j = i
            · subst hij; rw [upd_same]; exact hv
            · rw [getD_set_ne false (Ne.symm hij)] at hj
              rw [upd_ne _ _ hij]
              exact hV _ _ _ _ (inv.val j hj h0) hst
          · have e : (fun j => (listed.setIfInBounds i true).getD j false) = setL (fun j => listed.getD j false) i := by
              funext j
              by_cases hij : i = j
              · subst hij
                simp [setL, inv.size, hil]
              · rw [getD_set_ne false hij]
                unfold setL
                rw [show Nat.beq j i = false from by
                  cases hb : Nat.beq j i with
                  | false => rfl
                  | true => exact absurd (Nat.eq_of_beq_eq_true hb).symm hij]
                rfl
            rw [e]
            exact hgd
          · by_cases hij : i = j
            · subst hij; exact .inr hiR
            · rw [getD_set_ne false hij] at hj
              exact inv.only j hj
/-- The frame with what has come in its slots. -/
def dstOf (l : List Oper) (i : Nat) : Option Tmp := (l[i]?).bind (·.dst)
def puts (l : List Oper) (f : Nat → Value) : List Nat → Act → Act
  | [], a => a
  | i :: R, a => puts l f R (a.put (dstOf l i) (f i))
def startOf (a : Act) (l : List Oper) (i : Nat) : Value := match dstOf l i with | some d => a.eval (.tmp d) | none => undef
theorem put_put (a : Act) (d : Option Tmp) (u v : Value) : (a.put d u).put d v = a.put d v := by
  cases d with
  | none => rfl
  | some d => simp [Act.put]
theorem put_comm (a : Act) {d e : Option Tmp} (u v : Value) (h : d ≠ e) : (a.put d u).put e v = (a.put e v).put d u := by
  cases d with
  | none => rfl
  | some d =>
    cases e with
    | none => rfl
    | some e =>
      have hde : d ≠ e := fun h' => h (by rw [h'])
      simp only [Act.put]
      rw [Array.setIfInBounds_comm _ _ hde]
theorem put_start (a : Act) (l : List Oper) (i : Nat) : a.put (dstOf l i) (startOf a l i) = a := by
  unfold startOf
  cases dstOf l i with
  | none => rfl
  | some d =>
    simp only [Act.put]
    have : a.tmps.setIfInBounds d (a.eval (.tmp d)) = a.tmps := by
      apply Array.ext
      · simp
      · intro k h1 h2
        rw [Array.getElem_setIfInBounds]
        split
        · rename_i hk; subst hk; simp [Act.eval, h2]
        · rfl
    rw [this]
theorem puts_put (l : List Oper) (f : Nat → Value) (d : Option Tmp) (v : Value) : ∀ (R : List Nat) (a : Act), (∀ i ∈ R, dstOf l i ≠ d ∨ d = none) → (puts l f R a).put d v = puts l f R (a.put d v)
  | [], _, _ => rfl
  | i :: R, a, h => by
    rw [puts, puts, puts_put l f d v R _ fun j hj => h j (by simp [hj])]
    rcases h i (by simp) with h1 | h1
    · rw [put_comm a _ _ h1]
    · subst h1; rfl
theorem puts_upd (l : List Oper) (f : Nat → Value) (i : Nat) (v : Value) : ∀ (R : List Nat) (a : Act), i ∉ R → puts l (upd f i v) R a = puts l f R a
  | [], _, _ => rfl
  | j :: R, a, h => by
    have hji : j ≠ i := fun e => h (by simp [e])
    rw [puts, puts, upd_ne f v hji, puts_upd l f i v R _ fun hh => h (by simp [hh])]
/-- No two have the same slot. -/
def apartB (l : List Oper) : List Nat → Bool
  | [] => true
  | i :: R => (R.all fun j => !(j == i) && (!(dstOf l j == dstOf l i) || (dstOf l i == none))) && apartB l R
theorem puts_at (l : List Oper) (f : Nat → Value) (i : Nat) (v : Value) : ∀ (R : List Nat) (a : Act), apartB l R = true → i ∈ R → (puts l f R a).put (dstOf l i) v = puts l (upd f i v) R a
  | [], _, _, h => by cases h
  | j :: R, a, hB, h => by
    unfold apartB at hB
    rw [Bool.and_eq_true] at hB
    by_cases hji : j = i
    · subst hji
      have hn : j ∉ R := fun hh => by have := List.all_eq_true.1 hB.1 j hh; simp at this
      rw [puts, puts, upd_same, puts_upd l f j v R _ hn, puts_put l f _ v R, put_put]
      intro k hk
      have := List.all_eq_true.1 hB.1 k hk
      simp only [Bool.and_eq_true, Bool.or_eq_true, Bool.not_eq_true', beq_eq_false_iff_ne, beq_iff_eq] at this
      exact this.2
    · have hi : i ∈ R := by
        rcases List.mem_cons.1 h with e | e
        · exact absurd e.symm hji
        · exact e
      rw [puts, puts, upd_ne f v hji, puts_at l f i v R _ hB.2 hi]
theorem puts_start (l : List Oper) (a0 : Act) : ∀ (R : List Nat), puts l (startOf a0 l) R a0 = a0
  | [] => rfl
  | i :: R => by rw [puts, put_start, puts_start l a0 R]
def lclosedB (md : Region.Mode) (l : List Oper) (listed : Array Bool) : Bool := decide (listed.size = l.length) && (List.range l.length).all fun j => !listed.getD j false || ((l[j]?).map fun o => o.after.all fun e => !Region.binds md e || listed.getD e.on false).getD true
structure RhoOf (A : Act) (ρ : Operand → Value) : Prop where
  ev : A.eval = ρ
  c : ∀ v, ρ (.const v) = v
  g : ∀ g, ρ (.global g) = .pointer (some ⟨g, 0, none⟩)
  fn : ∀ f, ρ (.func f) = .func (.func f) #[] #[]
theorem rhoOf (A : Act) : RhoOf A A.eval := ⟨rfl, fun _ => rfl, fun _ => rfl, fun _ => rfl⟩
/-- What an operation owes, its frame known by its slots alone. -/
def FxOwes (P : Program) (md : Region.Mode) (l : List Oper) (Q : Exit → Act → World → Prop) (listed0 : Array Bool) (R : List Nat) (a0 : Act) (V : Nat → Value → World → Prop) (G : World → Prop) (St : World → World → Prop) (i : Nat) (o : Oper) : Prop :=
  ∀ (f : Nat → Value) (w : World) (A : Act) (ρ : Operand → Value), RhoOf A ρ → G w → (∀ j, (depB md o j && !listed0.getD j false) = true → V j (f j) w) → (∀ j, reachB md l i l.length j = true → f j = startOf a0 l j) → (∀ k, ρ (.tmp k) = (puts l f R a0).eval (.tmp k)) →
    ∀ K : Act → World → Prop, (∀ v w', V i v w' → St w w' → K (A.put o.dst v) w') → wpList P l.toArray (Exit.then K Q) [o] A w
/-- The same, with a relation of all slots that came. -/
def FxOwesG (P : Program) (md : Region.Mode) (l : List Oper) (Q : Exit → Act → World → Prop) (listed0 : Array Bool) (R : List Nat) (a0 : Act) (V : Nat → Value → World → Prop) (G : (Nat → Bool) → (Nat → Value) → World → Prop) (St : World → World → Prop) (i : Nat) (o : Oper) : Prop :=
  ∀ (f : Nat → Value) (L : Nat → Bool) (w : World) (A : Act) (ρ : Operand → Value), RhoOf A ρ → G L f w → L i = false → (∀ j, depB md o j = true → L j = true) → (∀ j, (depB md o j && !listed0.getD j false) = true → V j (f j) w) → (∀ j, reachB md l i l.length j = true → f j = startOf a0 l j) → (∀ k, ρ (.tmp k) = (puts l f R a0).eval (.tmp k)) →
    ∀ K : Act → World → Prop, (∀ v w', V i v w' → St w w' → G (setL L i) (upd f i v) w' → K (A.put o.dst v) w') → wpList P l.toArray (Exit.then K Q) [o] A w
theorem plan_fxg {listed0 : Array Bool} {a : Act} {w : World} {fuel : Nat} (R : List Nat) (V : Nat → Value → World → Prop) (G : (Nat → Bool) → (Nat → Value) → World → Prop) (St : World → World → Prop) (listed1 : Array Bool) (g : Nat)
    (hlow : lowB md l = true) (hcl : lclosedB md l listed0 = true) (hfe : fenceB md l listed0 R = true) (hRb : (R.all fun i => decide (i < l.length) && !listed0.getD i false) = true) (hap : apartB l R = true) (hfu : unl listed0 = fuel) (h1 : marks l.length listed0 R = listed1) (hg1 : unl listed1 = g)
    (hG0 : ∀ f, G (fun j => listed0.getD j false) f w) (hV : ∀ j v w w', V j v w → St w w' → V j v w')
    (hstep : Steps l (FxOwesG P md l Q listed0 R a V G St) R) (hend : ∀ f L w, G L f w → (∀ j, R.contains j = true → L j = true) → (∀ j, R.contains j = true → V j (f j) w) → wpAny P md l.toArray Q g listed1 (puts l f R a) w) : wpAny P md l.toArray Q fuel listed0 a w := by
  simp only [lclosedB, Bool.and_eq_true, decide_eq_true_eq, List.all_eq_true, List.mem_range, Bool.or_eq_true, Bool.not_eq_true'] at hcl
  obtain ⟨hs, hc⟩ := hcl
  have hRb' : ∀ i ∈ R, i < l.length ∧ listed0.getD i false = false := fun i hi => by
    have h2 := List.all_eq_true.1 hRb i hi
    rw [Bool.and_eq_true] at h2
    exact ⟨by simpa using h2.1, by simpa using h2.2⟩
  subst h1 hg1
  have key := fx_run (P := P) (Q := Q) (RA := fun f => puts l f R a) (f0 := startOf a l) (R := R) hlow hRb' hfe hV (listed0 := listed0) (fun i o hiR ho => ?_) (fun f L w hg hl hv => hend f L w hg (fun j hj => hl j (by simpa using hj)) fun j hj => hv j (by simpa using hj)) fuel listed0 (startOf a l) w hfu ⟨hs, fun j oj ho hl e he hb => ?_, fun j h => h, fun j _ => rfl, fun j h h' => (by rw [h] at h'; cases h'), hG0 _, fun j h => .inl h⟩
  · rw [show puts l (startOf a l) R a = a from puts_start l a R] at key
    exact key
  · intro f L w hg hL hLd hd hu K hK
    refine hstep i hiR o ho f L w (puts l f R a) _ (rhoOf _) hg hL hLd hd hu (fun _ => rfl) K fun v w' hv hst hgd => hK _ v w' ?_ hv hst hgd
    have hd : o.dst = dstOf l i := by
      unfold dstOf
      rw [show l[i]? = some o by simpa using ho]
      rfl
    rw [hd]
    exact puts_at l f i v R a hap hiR
  · have hj : j < l.length := (List.getElem?_eq_some_iff.1 ho).1
    rcases hc j hj with h | h
    · rw [h] at hl; cases hl
    · rw [ho] at h
      simp only [Option.map_some, Option.getD_some, Array.all_eq_true_iff_forall_mem, Bool.or_eq_true, Bool.not_eq_true'] at h
      rcases h e he with h | h
      · rw [h] at hb; cases hb
      · exact h
theorem plan_fx {listed0 : Array Bool} {a : Act} {w : World} {fuel : Nat} (R : List Nat) (V : Nat → Value → World → Prop) (G : World → Prop) (St : World → World → Prop) (listed1 : Array Bool) (g : Nat)
    (hlow : lowB md l = true) (hcl : lclosedB md l listed0 = true) (hfe : fenceB md l listed0 R = true) (hRb : (R.all fun i => decide (i < l.length) && !listed0.getD i false) = true) (hap : apartB l R = true) (hfu : unl listed0 = fuel) (h1 : marks l.length listed0 R = listed1) (hg1 : unl listed1 = g) (hG0 : G w) (hV : ∀ j v w w', V j v w → St w w' → V j v w') (hG : ∀ w w', G w → St w w' → G w')
    (hstep : Steps l (FxOwes P md l Q listed0 R a V G St) R) (hend : ∀ f w, G w → (∀ j, R.contains j = true → V j (f j) w) → wpAny P md l.toArray Q g listed1 (puts l f R a) w) : wpAny P md l.toArray Q fuel listed0 a w :=
  plan_fxg R V (fun _ _ w => G w) St listed1 g hlow hcl hfe hRb hap hfu h1 hg1 (fun _ => hG0) hV (fun i hi o ho f _ w A ρ hρ hg _ _ hd hu hA K hK => hstep i hi o ho f w A ρ hρ hg hd hu hA K fun v w' hv hst => hK v w' hv hst (hG _ _ hg hst)) fun f _ w hg _ hv => hend f w hg hv
/-- An operation that yields, whatever it does to the world. -/
theorem fx_val {o : Oper} {A : Act} {ρ : Operand → Value} {w w' : World} {K : Act → World → Prop} {v : Value} (hρ : RhoOf A ρ) (hw : Region.wanted o (yielded l.toArray A.tmps) = true) (hr : (execOp ρ o).run P w = .ok (.value v) w') (hK : K (A.put o.dst v) w') : wpList P l.toArray (Exit.then K Q) [o] A w := by
  unfold wpList
  rw [if_pos hw]
  refine .inl ?_
  unfold Oper.wp
  rw [hρ.ev, hr]
  exact hK
/-- An operation that yields nothing (a store). -/
theorem fx_skp {o : Oper} {A : Act} {ρ : Operand → Value} {w w' : World} {K : Act → World → Prop} (hρ : RhoOf A ρ) (hw : Region.wanted o (yielded l.toArray A.tmps) = true) (hr : (execOp ρ o).run P w = .ok .skip w') (hK : K (A.put o.dst undef) w') : wpList P l.toArray (Exit.then K Q) [o] A w := by
  unfold wpList
  rw [if_pos hw]
  refine .inl ?_
  unfold Oper.wp
  rw [hρ.ev, hr]
  exact hK
theorem exec_load {o : Oper} {ty : TypeId} {x : Operand} (ho : o.op = .load ty x) {ρ : Operand → Value} {w w' : World} {u v : Value} (hu : ρ x = u) (h : (Instr.loadAt ty u).run P w = .ok v w') : (execOp ρ o).run P w = .ok (.value v) w' := by
  unfold execOp
  simp only [ho, hu, Sem.run_bind, h, Result.andThen_ok, Sem.run_pure]
theorem exec_store {o : Oper} {ty : TypeId} {x y : Operand} (ho : o.op = .store ty x y) {ρ : Operand → Value} {w w' : World} {u v : Value} (hu : ρ x = u) (hv : ρ y = v) (h : (Instr.storeAt ty u v).run P w = .ok () w') : (execOp ρ o).run P w = .ok .skip w' := by
  unfold execOp
  simp only [ho, hu, hv, Sem.run_bind, h, Result.andThen_ok, Sem.run_pure]
/-- An operation that its guard passes over. -/
theorem fx_skip {o : Oper} {A : Act} {w : World} {K : Act → World → Prop} (hw : Region.wanted o (yielded l.toArray A.tmps) = false) (hK : K (A.put o.dst undef) w) : wpList P l.toArray (Exit.then K Q) [o] A w := by
  unfold wpList
  rw [if_neg (by rw [hw]; simp)]
  exact hK
/-- A call. -/
theorem fx_call {o : Oper} {A : Act} {ρ : Operand → Value} {w : World} {K : Act → World → Prop} (hρ : RhoOf A ρ) (hw : Region.wanted o (yielded l.toArray A.tmps) = true) {fn : FuncId} (vs : Array Value) {E : Ending → World → Prop} (xs : Array Operand) (ats : Array TypeId) (ho : o.op = .call { callee := .value (.func fn), args := xs, argTypes := ats }) (hv : #[] ++ xs.map ρ ++ #[] = vs) (hen : (callFunc fn vs).run P w = .ok (.enter fn vs) w)
    (hc : Calls P fn vs w E) (h : ∀ e w', E e w' → ∃ v, e = .returned v ∧ K (A.put o.dst v) w') : wpList P l.toArray (Exit.then K Q) [o] A w := by
  unfold wpList
  rw [if_pos hw]
  refine .inl ?_
  obtain ⟨dst, op, ty, pos, after, guard⟩ := o
  dsimp only at ho h
  subst ho
  unfold Oper.wp
  rw [execOp_call_go, hρ.ev, hv, hen, Oper.upon_enter]
  refine hc.mono fun e w' hr => ?_
  obtain ⟨v, rfl, hK⟩ := h e w' hr
  exact hK
end
end Go.Proofs.YtpcdbkaeijhmfaaGreatDoor
namespace Go.Proofs.YtpcdbkaeijhmfaaGreatDoor
set_option maxRecDepth 100000
set_option linter.unusedVariables false
set_option linter.unusedSimpArgs false
open Go.RowKit
structure TwoG (W0 : World) (t : TypeId) (D D' Z : Array Value) (L : Nat → Bool) (f : Nat → Value) (w : World) : Prop where
  fr : Frm (fun _ => False) W0 w
  one : L 4 = true → ∃ g, f 4 = .pointer (some ⟨g, 0, none⟩) ∧ W0.heap.size ≤ g ∧ Blk w g t (if L 6 = true then D else Z)
  two : L 5 = true → ∃ g, f 5 = .pointer (some ⟨g, 0, none⟩) ∧ W0.heap.size ≤ g ∧ Blk w g t (if L 7 = true then D' else Z)
  ne : L 4 = true → L 5 = true → f 4 ≠ f 5
  c6 : L 6 = true → L 4 = true
  c7 : L 7 = true → L 5 = true
section
variable {W0 w w' : World} {t : TypeId} {D D' Z : Array Value} {L : Nat → Bool} {f : Nat → Value}
theorem TwoG.start (f : Nat → Value) (hL : ∀ j, L j = false) : TwoG w t D D' Z L f w :=
  ⟨Frm.refl _ _, fun h => (by rw [hL] at h; cases h), fun h => (by rw [hL] at h; cases h), fun h => (by rw [hL] at h; cases h), fun h => (by rw [hL] at h; cases h), fun h => (by rw [hL] at h; cases h)⟩
theorem setL_ne (L : Nat → Bool) {i j : Nat} (h : j ≠ i) : setL L i j = L j := by
  unfold setL
  rw [show Nat.beq j i = false from by
    cases hb : Nat.beq j i with
    | false => rfl
    | true => exact absurd (Nat.eq_of_beq_eq_true hb) h]
  rfl
theorem setL_same (L : Nat → Bool) (i : Nat) : setL L i i = true := by simp [setL]
theorem TwoG.keep (h : TwoG W0 t D D' Z L f w) {i : Nat} (hi : i < 4) (v : Value) : TwoG W0 t D D' Z (setL L i) (upd f i v) w := by
  have e : ∀ j, 4 ≤ j → setL L i j = L j := fun j hj => setL_ne L (by omega)
  have u : ∀ j, 4 ≤ j → upd f i v j = f j := fun j hj => upd_ne f v (by omega)
  refine ⟨h.fr, ?_, ?_, ?_, ?_, ?_⟩
  · rw [e 4 (by omega), e 6 (by omega), u 4 (by omega)]; exact h.one
  · rw [e 5 (by omega), e 7 (by omega), u 5 (by omega)]; exact h.two
  · rw [e 4 (by omega), e 5 (by omega), u 4 (by omega), u 5 (by omega)]; exact h.ne
  · rw [e 4 (by omega), e 6 (by omega)]; exact h.c6
  · rw [e 5 (by omega), e 7 (by omega)]; exact h.c7
theorem TwoG.new4 (h : TwoG W0 t D D' Z L f w) (h4 : L 4 = false) : TwoG W0 t D D' Z (setL L 4) (upd f 4 (.pointer (some ⟨w.heap.size, 0, none⟩))) (w.alloc (.cells Z t)) := by
  have h6 : L 6 = false := by
    cases h' : L 6 with
    | false => rfl
    | true => rw [h.c6 h'] at h4; cases h4
  refine ⟨h.fr.alloc _, ?_, ?_, ?_, ?_, ?_⟩
  · rw [setL_same, upd_same, setL_ne L (by omega : 6 ≠ 4), h6]
    intro _
    exact ⟨_, rfl, h.fr.size, by rw [if_neg (by simp)]; exact Blk.new _ _ _⟩
  · rw [setL_ne L (by omega : 5 ≠ 4), setL_ne L (by omega : 7 ≠ 4), upd_ne f _ (by omega : 5 ≠ 4)]
    intro h5
    obtain ⟨g, e, hg, hb⟩ := h.two h5
    exact ⟨g, e, hg, hb.alloc _⟩
  · rw [upd_same, upd_ne f _ (by omega : 5 ≠ 4), setL_ne L (by omega : 5 ≠ 4)]
    intro _ h5 e
    obtain ⟨g, e', hg, hb⟩ := h.two h5
    rw [e'] at e
    have := hb.lt
    injection e with e; injection e with e; injection e with e; omega
  · rw [setL_ne L (by omega : 6 ≠ 4), h6]; intro h; cases h
  · rw [setL_ne L (by omega : 7 ≠ 4), setL_ne L (by omega : 5 ≠ 4)]; exact h.c7
theorem TwoG.new5 (h : TwoG W0 t D D' Z L f w) (h5 : L 5 = false) : TwoG W0 t D D' Z (setL L 5) (upd f 5 (.pointer (some ⟨w.heap.size, 0, none⟩))) (w.alloc (.cells Z t)) := by
  have h7 : L 7 = false := by
    cases h' : L 7 with
    | false => rfl
    | true => rw [h.c7 h'] at h5; cases h5
  refine ⟨h.fr.alloc _, ?_, ?_, ?_, ?_, ?_⟩
  · rw [setL_ne L (by omega : 4 ≠ 5), setL_ne L (by omega : 6 ≠ 5), upd_ne f _ (by omega : 4 ≠ 5)]
    intro h4
    obtain ⟨g, e, hg, hb⟩ := h.one h4
    exact ⟨g, e, hg, hb.alloc _⟩
  · rw [setL_same, upd_same, setL_ne L (by omega : 7 ≠ 5), h7]
    intro _
    exact ⟨_, rfl, h.fr.size, by rw [if_neg (by simp)]; exact Blk.new _ _ _⟩
  · rw [upd_same, upd_ne f _ (by omega : 4 ≠ 5), setL_ne L (by omega : 4 ≠ 5)]
    intro h4 _ e
    obtain ⟨g, e', hg, hb⟩ := h.one h4
    rw [e'] at e
    have := hb.lt
    injection e with e; injection e with e; injection e with e; omega
  · rw [setL_ne L (by omega : 6 ≠ 5), setL_ne L (by omega : 4 ≠ 5)]; exact h.c6
  · rw [setL_ne L (by omega : 7 ≠ 5), h7]; intro h; cases h
theorem TwoG.put6 (h : TwoG W0 t D D' Z L f w) (h4 : L 4 = true) (v : Value) {g : Nat} (hg : f 4 = .pointer (some ⟨g, 0, none⟩)) : TwoG W0 t D D' Z (setL L 6) (upd f 6 v) (w.setRow g D) := by
  obtain ⟨g', e, hge, hb⟩ := h.one h4
  rw [hg] at e; injection e with e; injection e with e; injection e with e; subst e
  refine ⟨h.fr.setRow (.inr hge) _, ?_, ?_, ?_, ?_, ?_⟩
  · rw [setL_ne L (by omega : 4 ≠ 6), setL_same, upd_ne f _ (by omega : 4 ≠ 6)]
    intro _
    exact ⟨g, hg, hge, by rw [if_pos rfl]; exact hb.setRow _⟩
  · rw [setL_ne L (by omega : 5 ≠ 6), setL_ne L (by omega : 7 ≠ 6), upd_ne f _ (by omega : 5 ≠ 6)]
    intro h5
    obtain ⟨g2, e2, hg2, hb2⟩ := h.two h5
    refine ⟨g2, e2, hg2, (heap_setRow w g g2 D ?_).trans hb2⟩
    intro e3
    exact h.ne h4 h5 (by rw [hg, e2, e3])
  · rw [setL_ne L (by omega : 4 ≠ 6), setL_ne L (by omega : 5 ≠ 6), upd_ne f _ (by omega : 4 ≠ 6), upd_ne f _ (by omega : 5 ≠ 6)]; exact h.ne
  · rw [setL_ne L (by omega : 4 ≠ 6)]; exact fun _ => h4
  · rw [setL_ne L (by omega : 7 ≠ 6), setL_ne L (by omega : 5 ≠ 6)]; exact h.c7
theorem TwoG.put7 (h : TwoG W0 t D D' Z L f w) (h5 : L 5 = true) (v : Value) {g : Nat} (hg : f 5 = .pointer (some ⟨g, 0, none⟩)) : TwoG W0 t D D' Z (setL L 7) (upd f 7 v) (w.setRow g D') := by
  obtain ⟨g', e, hge, hb⟩ := h.two h5
  rw [hg] at e; injection e with e; injection e with e; injection e with e; subst e
  refine ⟨h.fr.setRow (.inr hge) _, ?_, ?_, ?_, ?_, ?_⟩
  · rw [setL_ne L (by omega : 4 ≠ 7), setL_ne L (by omega : 6 ≠ 7), upd_ne f _ (by omega : 4 ≠ 7)]
    intro h4
    obtain ⟨g2, e2, hg2, hb2⟩ := h.one h4
    refine ⟨g2, e2, hg2, (heap_setRow w g g2 D' ?_).trans hb2⟩
    intro e3
    exact h.ne h4 h5 (by rw [hg, e2, e3])
  · rw [setL_ne L (by omega : 5 ≠ 7), setL_same, upd_ne f _ (by omega : 5 ≠ 7)]
    intro _
    exact ⟨g, hg, hge, by rw [if_pos rfl]; exact hb.setRow _⟩
  · rw [setL_ne L (by omega : 4 ≠ 7), setL_ne L (by omega : 5 ≠ 7), upd_ne f _ (by omega : 4 ≠ 7), upd_ne f _ (by omega : 5 ≠ 7)]; exact h.ne
  · rw [setL_ne L (by omega : 6 ≠ 7), setL_ne L (by omega : 4 ≠ 7)]; exact h.c6
  · rw [setL_ne L (by omega : 5 ≠ 7)]; exact fun _ => h5
theorem TwoG.done (h : TwoG W0 t D D' Z L f w) (h4 : L 4 = true) (h5 : L 5 = true) (h6 : L 6 = true) (h7 : L 7 = true) : ∃ g g', f 4 = .pointer (some ⟨g, 0, none⟩) ∧ f 5 = .pointer (some ⟨g', 0, none⟩) ∧ Blk w g t D ∧ Blk w g' t D' ∧ Frm (fun _ => False) W0 w := by
  obtain ⟨g, e, -, hb⟩ := h.one h4
  obtain ⟨g', e', -, hb'⟩ := h.two h5
  rw [h6, if_pos rfl] at hb
  rw [h7, if_pos rfl] at hb'
  exact ⟨g, g', e, e', hb, hb', h.fr⟩
end
end Go.Proofs.YtpcdbkaeijhmfaaGreatDoor
namespace Go.Proofs.YtpcdbkaeijhmfaaGreatDoor
set_option maxRecDepth 100000
set_option linter.unusedVariables false
set_option linter.unusedSimpArgs false
open Go.ChangeShapes Go.WideShapes Go.ChangeAt Go.RowKit Go.Deep
section
variable {H : Type} {enc : TypeId × Value → H} {P : Program}
theorem trodAll_below (hl : laidOutB P = true) {W W' : World} (hB : Below W.heap.size W W') : ∀ {ts : List TypeId} {vs : List Value} {ds : List (DataW H)} {ps : List MemPlace}, ts.all (fun t => P.readableRec t && decide (t < P.types.size)) = true →
    DataW.TrodAll enc P W 0 (fun _ => true) true ts vs ds ps → (∀ x ∈ ps, x.block < W.heap.size) → DataW.TrodAll enc P W' 0 (fun b => decide (b < W.heap.size)) true ts vs ds ps
  | [], vs, ds, ps, _, h, _ => by
    obtain ⟨rfl, rfl, rfl⟩ := trodAll_nil h
    exact trodAll_mk0
  | t :: ts, vs, ds, ps, hr, h, hlt => by
    obtain ⟨v, vs', d, ds', p, q, rfl, rfl, rfl, h1, h2⟩ := trodAll_cons h
    simp only [List.all_cons, Bool.and_eq_true, decide_eq_true_eq] at hr
    exact trodAll_cons_mk (Below.trod hl hr.1.1 hr.1.2 h1 hB fun x hx => hlt x (List.mem_append.2 (.inl hx)))
      (trodAll_below hl hB (by simpa using hr.2) h2 fun x hx => hlt x (List.mem_append.2 (.inr hx)))
/-- A law that answers true, and turns nothing of what was there, meets its row. -/
theorem law_post {f : Func} {s : ChangeSpec} {W W' : World} {args : Array Value} {ds gs : List (DataW H)} {before : List MemPlace} {tb : TypeId}
    (hW : DataW.Whole enc P f.params.toList s.vars false W args.toList ds gs before) (hv : s.vars = []) (hl : laidOutB P = true) (hr : f.params.toList.all (fun t => P.readableRec t && decide (t < P.types.size)) = true)
    (hres : f.resultTypes = #[tb]) (hb : P.underlying tb = some .bool) (hfn : s.fn H (ds ++ []) = { results := [.lit (.bool true)], args := ds }) (hB : Below W.heap.size W W') :
    s.post enc P f false true false false W args (.bool true) W' := by
  have hW' := hW
  obtain ⟨p, q, hA, hV, rfl, hfz, hnd⟩ := hW
  rw [hv] at hV
  obtain ⟨rfl, rfl⟩ := trodVars_none hV
  refine ⟨ds, [], _, [], p, [], hW', ?_, ?_, ?_, hB.frame _, fun h => by cases h⟩
  · rw [hfn, hres]
    exact trodAll_cons_mk (shut_bool hb _) trodAll_mk0
  · rw [hfn]
    exact trodAll_below hl hB hr hA fun x hx => hW'.lt x (by simpa using hx)
  · rw [hfn, hv]
    rfl
theorem read_bool {W : World} {base : Nat} {t : TypeId} {v : Value} {d : DataW H} {p : List MemPlace} (ht : P.underlying t = some .bool) (hok : Value.okWide P W .any base t v) (h : DataW.Trod enc P W 0 (fun _ => true) true t v d p) : ∃ b, v = .bool b := by
  obtain ⟨b, rfl, _⟩ := open_bool ht hok h
  exact ⟨b, rfl⟩
theorem read_int {W : World} {base : Nat} {t : TypeId} {k : IntKind} {v : Value} {d : DataW H} {p : List MemPlace} (ht : P.underlying t = some (.int k)) (hok : Value.okWide P W .any base t v) (h : DataW.Trod enc P W 0 (fun _ => true) true t v d p) : ∃ a, v = .int k a ∧ (Lit.int k a).wf = true := by
  obtain ⟨a, rfl, _, _, w⟩ := open_int ht hok h
  exact ⟨a, rfl, w⟩
theorem i64_range {a : Int} (h : (Lit.int .i64 a).wf = true) : -9223372036854775808 ≤ a ∧ a ≤ 9223372036854775807 := by
  simpa [Lit.wf, IntKind.min, IntKind.max, IntKind.signed, IntKind.bits] using h
theorem u8_of {a : Int} (h : (Lit.int .u8 a).wf = true) : a = ((UInt8.ofNat a.toNat).toNat : Int) := by
  have : 0 ≤ a ∧ a ≤ 255 := by simpa [Lit.wf, IntKind.min, IntKind.max, IntKind.signed, IntKind.bits] using h
  simp
  omega
/-- A slice of integers. -/
theorem read_ints {W : World} {base : Nat} {t e : TypeId} {k : IntKind} {v : Value} {d : DataW H} {p : List MemPlace} (ht : P.underlying t = some (.slice e)) (he : P.underlying e = some (.int k)) (hc : P.cellsOf e = 1) (hok : Value.okWide P W .any base t v)
    (h : DataW.Trod enc P W 0 (fun _ => true) true t v d p) : ∃ qs : List Int, Sl W (fun k => k < W.heap.size) v (qs.map (Value.int k)) ∧ ∀ n ∈ qs, (Lit.int k n).wf = true := by
  obtain ⟨a0, len0, cap0, rfl⟩ := okWide_slice ht hok
  obtain ⟨fuel, hf⟩ := h
  rcases open_ints ht he hc hf with ⟨hcs, _⟩ | ⟨a, len, cap, zs, hcs, _, hl, hm, hz, _, hcell, hw⟩
  · simp [Value.cells] at hcs
    obtain ⟨rfl, rfl, rfl⟩ := hcs
    exact ⟨[], ⟨none, 0, 0, rfl, rfl, Nat.le_refl _, by omega, .inl rfl⟩, fun n hn => by cases hn⟩
  · simp [Value.cells] at hcs
    obtain ⟨rfl, rfl, rfl⟩ := hcs
    simp only [if_true] at hz
    refine ⟨zs.take len0, ⟨_, len0, cap0, rfl, by simp; omega, hl, hm, ?_⟩, fun n hn => hw n (List.mem_of_mem_take hn)⟩
    by_cases h0 : len0 = 0
    · exact .inl h0
    · obtain ⟨g, o, sp⟩ := a
      have hsp : sp = none := by simpa [Addr.add] using World.cell?_spot (hcell 0 (by omega))
      subst hsp
      refine .inr ⟨g, o, rfl, World.block_lt_of_cell? _ _ (by have := hcell 0 (by omega); simpa [Addr.add] using this), fun i hi => ?_⟩
      simp at hi
      have := hcell i (by omega)
      have e1 : (⟨g, o, none⟩ : Addr).add i = ⟨g, o + i, none⟩ := by unfold Addr.add; split <;> simp_all
      rw [e1] at this
      rw [this]
      simp [show i < zs.length by omega]
/-- A slice of bytes. -/
theorem read_bytes {W : World} {base : Nat} {t e : TypeId} {v : Value} {d : DataW H} {p : List MemPlace} (ht : P.underlying t = some (.slice e)) (he : P.underlying e = some (.int .u8)) (hc : P.cellsOf e = 1) (hok : Value.okWide P W .any base t v)
    (h : DataW.Trod enc P W 0 (fun _ => true) true t v d p) : ∃ l : List UInt8, Sl W (fun k => k < W.heap.size) v (bv l) := by
  obtain ⟨qs, h1, h2⟩ := read_ints ht he hc hok h
  refine ⟨qs.map fun n => UInt8.ofNat n.toNat, ?_⟩
  have e : qs.map (Value.int .u8) = bv (qs.map fun n => UInt8.ofNat n.toNat) := by
    simp only [bv, List.map_map]
    refine List.map_congr_left fun n hn => ?_
    have := u8_of (h2 n hn)
    simp only [Function.comp]
    rw [← this]
  rw [← e]
  exact h1
/-- A slice of byte slices. -/
theorem read_rows {W : World} {base : Nat} {t e q : TypeId} {v : Value} {d : DataW H} {p : List MemPlace} (ht : P.underlying t = some (.slice e)) (he : P.underlying e = some (.slice q)) (hq : P.underlying q = some (.int .u8)) (ce : P.cellsOf e = 1) (cq : P.cellsOf q = 1)
    (hok : Value.okWide P W .any base t v) (h : DataW.Trod enc P W 0 (fun _ => true) true t v d p) : ∃ vs L, Sl W (fun k => k < W.heap.size) v vs ∧ Each W (fun k => k < W.heap.size) vs L := by
  obtain ⟨a0, len0, cap0, rfl⟩ := okWide_slice ht hok
  obtain ⟨fuel, hf⟩ := h
  rcases open_int_rows ht he hq ce cq hf with ⟨hcs, _⟩ | ⟨a, len, cap, A, L, C, Z, hcs, _, hl, hm, _, hrow⟩
  · simp [Value.cells] at hcs
    obtain ⟨rfl, rfl, rfl⟩ := hcs
    exact ⟨[], [], ⟨none, 0, 0, rfl, rfl, Nat.le_refl _, by omega, .inl rfl⟩, rfl, fun i v l hv => by simp at hv⟩
  · simp [Value.cells] at hcs
    obtain ⟨rfl, rfl, rfl⟩ := hcs
    refine ⟨(List.range len0).map fun r => .slice (A r) (L r) (C r), (List.range len0).map fun r => ((Z r).take (L r)).map fun n => UInt8.ofNat n.toNat, ⟨_, len0, cap0, rfl, by simp, hl, hm, ?_⟩, by simp, fun i v l hv hl' => ?_⟩
    · by_cases h0 : len0 = 0
      · exact .inl h0
      · obtain ⟨g, o, sp⟩ := a
        have hsp : sp = none := by simpa [Addr.add] using World.cell?_spot (hrow 0 (by omega)).1
        subst hsp
        refine .inr ⟨g, o, rfl, World.block_lt_of_cell? _ _ (by have := (hrow 0 (by omega)).1; simpa [Addr.add] using this), fun i hi => ?_⟩
        simp at hi
        have := (hrow i (by omega)).1
        have e1 : (⟨g, o, none⟩ : Addr).add i = ⟨g, o + i, none⟩ := by unfold Addr.add; split <;> simp_all
        rw [e1] at this
        rw [this]
        simp
    · obtain ⟨hi, rfl⟩ := List.getElem?_eq_some_iff.1 hv
      obtain ⟨hi', rfl⟩ := List.getElem?_eq_some_iff.1 hl'
      simp at hi
      simp only [List.getElem_map, List.getElem_range]
      obtain ⟨_, r1, r2, r3, r4, r5, r6⟩ := hrow i (by omega)
      refine ⟨_, _, _, rfl, by simp; omega, r1, r2, ?_⟩
      by_cases h0 : L i = 0
      · exact .inl h0
      · right
        cases hA : A i with
        | none => exact absurd (r5 hA) (by omega)
        | some a' =>
          obtain ⟨_, hc⟩ := r6 a' hA
          obtain ⟨g, o, sp⟩ := a'
          have hsp : sp = none := by simpa [Addr.add] using World.cell?_spot (hc 0 (by omega))
          subst hsp
          refine ⟨g, o, rfl, World.block_lt_of_cell? _ _ (by have := hc 0 (by omega); simpa [Addr.add] using this), fun j hj => ?_⟩
          simp at hj
          have := hc j (by omega)
          have e1 : (⟨g, o, none⟩ : Addr).add j = ⟨g, o + j, none⟩ := by unfold Addr.add; split <;> simp_all
          rw [e1] at this
          rw [this]
          have hw := r4 ((Z i)[j]'(by omega)) (List.getElem_mem _)
          simp [bv, show j < (Z i).length by omega]
          have := u8_of hw
          simpa using this
end
end Go.Proofs.YtpcdbkaeijhmfaaGreatDoor
namespace Go.Proofs.YtpcdbkaeijhmfaaGreatDoor
set_option maxRecDepth 100000
set_option linter.unusedVariables false
set_option linter.unusedSimpArgs false
open Go.RowKit Go.ChangeShapes Go.WideShapes Go.Deep
section
variable {H : Type} {enc : TypeId × Value → H} {P : Program} {W : World}
def w_cell (w : World) (g o : Nat) : Option Value := w.cell? ⟨g, o, none⟩
/-- What is read at type t takes sz cells, of which Rel tells a datum. -/
def Rdr (enc : TypeId × Value → H) (P : Program) (W : World) (t : TypeId) (sz : Nat) {α : Type} (Rel : List Value → α → Prop) : Prop :=
  P.cellsOf t = sz ∧ ∀ fuel cs x, DataW.trod enc P W 0 (fun _ => true) true fuel t cs = some x → cs.length = sz ∧ ∃ y, Rel cs y
def RInt (k : IntKind) (cs : List Value) (n : Int) : Prop := cs = [.int k n] ∧ (Lit.int k n).wf = true
def RBool (cs : List Value) (b : Bool) : Prop := cs = [.bool b]
def RStr (cs : List Value) (s : ByteArray) : Prop := cs = [.string s] ∧ s.size ≤ maxLen
def RSl (W : World) (sz : Nat) {α : Type} (Rel : List Value → α → Prop) (cs : List Value) (p : Value × List (List Value × α)) : Prop :=
  cs = [p.1] ∧ SlZ W (fun k => k < W.heap.size) sz p.1 (p.2.flatMap (·.1)) ∧ ∀ y ∈ p.2, y.1.length = sz ∧ Rel y.1 y.2
def RNil (cs : List Value) (_ : Unit) : Prop := cs = []
def RCons {α β : Type} (R : List Value → α → Prop) (R' : List Value → β → Prop) (cs : List Value) (y : α × β) : Prop := ∃ c0 c1, cs = c0 ++ c1 ∧ R c0 y.1 ∧ R' c1 y.2
theorem rdr_int {t : TypeId} {k : IntKind} (ht : P.underlying t = some (.int k)) (hc : P.cellsOf t = 1) : Rdr enc P W t 1 (RInt k) :=
  ⟨hc, fun fuel cs x h => by obtain ⟨n, rfl, _, hw⟩ := DataW.trod_int ht h; exact ⟨rfl, n, rfl, hw⟩⟩
theorem rdr_bool {t : TypeId} (ht : P.underlying t = some .bool) (hc : P.cellsOf t = 1) : Rdr enc P W t 1 RBool :=
  ⟨hc, fun fuel cs x h => by obtain ⟨n, rfl, _⟩ := DataW.trod_bool ht h; exact ⟨rfl, n, rfl⟩⟩
theorem rdr_str {t : TypeId} (ht : P.underlying t = some .string) (hc : P.cellsOf t = 1) : Rdr enc P W t 1 RStr :=
  ⟨hc, fun fuel cs x h => by obtain ⟨n, rfl, _, hs⟩ := DataW.trod_string ht h; exact ⟨rfl, n, rfl, hs⟩⟩
theorem addr_add (a : Addr) (i j : Nat) : (a.add i).add j = a.add (i + j) := by
  unfold Addr.add
  by_cases hi : i = 0
  · subst hi; simp
  · by_cases hj : j = 0
    · subst hj; simp
    · simp [hi, hj, Nat.add_assoc]
theorem flatMap_len {α : Type} {sz : Nat} (ys : List (List Value × α)) (h : ∀ y ∈ ys, y.1.length = sz) : (ys.flatMap (·.1)).length = ys.length * sz := by
  induction ys with
  | nil => simp
  | cons y ys ih => rw [List.flatMap_cons, List.length_append, ih fun e he => h e (by simp [he]), h y (by simp), List.length_cons, Nat.add_mul]; omega
theorem flatMap_at {α : Type} {sz : Nat} (ys : List (List Value × α)) (h : ∀ y ∈ ys, y.1.length = sz) (k j : Nat) (hk : k < ys.length) (hj : j < sz) : (ys.flatMap (·.1))[k * sz + j]? = (ys[k].1)[j]? := by
  induction ys generalizing k with
  | nil => simp at hk
  | cons y ys ih =>
    have hy := h y (by simp)
    rw [List.flatMap_cons]
    cases k with
    | zero => rw [List.getElem?_append_left (by omega)]; simp
    | succ k =>
      rw [List.getElem?_append_right (by rw [hy, Nat.add_mul]; omega), hy]
      rw [show (k + 1) * sz + j - sz = k * sz + j from by rw [Nat.add_mul]; omega]
      simpa using ih (fun e he => h e (by simp [he])) k (by simpa using hk)
theorem rdr_slice {α : Type} {sz : Nat} {Rel : List Value → α → Prop} {t e : TypeId} (ht : P.underlying t = some (.slice e)) (hc : P.cellsOf t = 1) (hpos : 0 < sz) (he : Rdr enc P W e sz Rel) : Rdr enc P W t 1 (RSl W sz Rel) := by
  refine ⟨hc, fun fuel cs x h => ?_⟩
  rcases open_slice ht h with ⟨rfl, _⟩ | ⟨a, len, cap, m, n, D, Pl, rfl, _, hl, hm, hmm, _, hrow⟩
  · exact ⟨rfl, (.slice none 0 0, []), rfl, SlZ.nil _ _ _, by simp⟩
  · simp only [if_true] at hmm
    rw [he.1] at hrow
    have hel : ∀ i, i < len → ∃ q : List Value × α, q.1.length = sz ∧ Rel q.1 q.2 ∧ ∀ j, j < sz → W.cell? (a.add (i * sz + j)) = q.1[j]? := fun i hi => by
      obtain ⟨cs, hcs, htr⟩ := hrow i (by omega)
      obtain ⟨h1, y, hy⟩ := he.2 _ _ _ htr
      refine ⟨(cs, y), h1, hy, fun j hj => ?_⟩
      have := (World.cells?_some hcs).2.2 j hj
      rw [← this, addr_add]
    obtain ⟨ys, hys, hat⟩ : ∃ ys : List (List Value × α), ys.length = len ∧ ∀ i (hi : i < ys.length), (ys[i]).1.length = sz ∧ Rel (ys[i]).1 (ys[i]).2 ∧ ∀ j, j < sz → W.cell? (a.add (i * sz + j)) = (ys[i]).1[j]? := by
      refine ⟨(List.range len).attach.map fun i => (hel i.1 (List.mem_range.1 i.2)).choose, by simp, fun i hi => ?_⟩
      have := (hel i (by simpa using hi)).choose_spec
      simpa using this
    have hall : ∀ y ∈ ys, y.1.length = sz ∧ Rel y.1 y.2 := fun y hy => by
      obtain ⟨i, hi, rfl⟩ := List.getElem_of_mem hy
      exact ⟨(hat i hi).1, (hat i hi).2.1⟩
    have hlen := flatMap_len ys fun y hy => (hall y hy).1
    refine ⟨rfl, (.slice (some a) len cap, ys), rfl, ⟨_, len, cap, rfl, by rw [hlen, hys], hl, hm, ?_⟩, hall⟩
    by_cases h0 : len = 0
    · exact .inl h0
    · obtain ⟨g, o, sp⟩ := a
      have hc0 := (hat 0 (by omega)).2.2 0 hpos
      have h00 := (hat 0 (by omega)).1
      rw [List.getElem?_eq_getElem (by rw [h00]; exact hpos)] at hc0
      have hsp : sp = none := by simpa [Addr.add] using World.cell?_spot hc0
      subst hsp
      have e1 : ∀ i, (⟨g, o, none⟩ : Addr).add i = ⟨g, o + i, none⟩ := fun i => by unfold Addr.add; split <;> simp_all
      refine .inr ⟨g, o, rfl, World.block_lt_of_cell? _ _ (by rw [e1] at hc0; exact hc0), fun i hi => ?_⟩
      rw [hlen, hys] at hi
      have hdm := Nat.div_add_mod i sz
      have hd1 : i / sz < len := Nat.div_lt_of_lt_mul (by rw [Nat.mul_comm]; exact hi)
      have hd2 : i % sz < sz := Nat.mod_lt _ hpos
      have hcx := (hat (i / sz) (by omega)).2.2 _ hd2
      have hdm' : i / sz * sz + i % sz = i := by rw [Nat.mul_comm]; exact hdm
      rw [hdm', e1] at hcx
      have hf := flatMap_at ys (fun y hy => (hall y hy).1) (i / sz) (i % sz) (by omega) hd2
      rw [hdm'] at hf
      show W.cell? ⟨g, o + i, none⟩ = _
      rw [hcx, ← hf]
      exact List.getElem?_eq_getElem _
/-- The fields of a struct from the i-th on, which begins at the cell o. -/
def RF (enc : TypeId × Value → H) (P : Program) (W : World) (fs : Array Field) (i o sz : Nat) {α : Type} (Rel : List Value → α → Prop) : Prop :=
  ∀ (n : Nat) (cs : List Value), (∀ (j : Nat) (f : Field), fs[j]? = some f → ∃ x, DataW.trod enc P W 0 (fun _ => true) true n f.type ((cs.drop f.offset).take (P.cellsOf f.type)) = some x) → o + sz ≤ cs.length → ∃ y, Rel ((cs.drop o).take sz) y
theorem rf_nil {fs : Array Field} {i o : Nat} : RF enc P W fs i o 0 RNil := fun n cs _ _ => ⟨(), by simp [RNil]⟩
theorem rf_cons {α β : Type} {fs : Array Field} {i o s sz : Nat} {f : Field} {R : List Value → α → Prop} {R' : List Value → β → Prop} (hf : fs[i]? = some f) (ho : f.offset = o) (h : Rdr enc P W f.type s R) (h' : RF enc P W fs (i + 1) (o + s) sz R') : RF enc P W fs i o (s + sz) (RCons R R') := fun n cs ht hl => by
  obtain ⟨x, hx⟩ := ht i f hf
  rw [h.1, ho] at hx
  obtain ⟨_, y, hy⟩ := h.2 _ _ _ hx
  obtain ⟨z, hz⟩ := h' n cs ht (by omega)
  refine ⟨(y, z), _, _, ?_, hy, hz⟩
  rw [List.take_add, List.drop_drop]
theorem rdr_struct {α : Type} {t : TypeId} {fs : Array Field} {sz : Nat} {Rel : List Value → α → Prop} (ht : P.underlying t = some (.struct fs)) (hc : P.cellsOf t = sz) (h : RF enc P W fs 0 0 sz Rel) : Rdr enc P W t sz Rel := by
  refine ⟨hc, fun fuel cs x hx => ?_⟩
  obtain ⟨ys, n, _, _, hl, hlen, hq⟩ := DataW.trod_struct ht hx
  rw [hc] at hl
  refine ⟨hl, ?_⟩
  have := h n cs (fun j f hf => by
    have hj : j < ys.length := by rw [hlen]; exact (Array.getElem?_eq_some_iff.1 hf).1
    exact ⟨_, (hq j f hf).trans (List.getElem?_eq_getElem hj)⟩) (by omega)
  simpa [← hl] using this
theorem rdr_arg {α : Type} {t : TypeId} {sz : Nat} {Rel : List Value → α → Prop} {v : Value} {d : DataW H} {p : List MemPlace} (h : Rdr enc P W t sz Rel) (hT : DataW.Trod enc P W 0 (fun _ => true) true t v d p) : ∃ y, Rel v.cells.toList y := by
  obtain ⟨fuel, hf⟩ := hT
  exact (h.2 _ _ _ hf).2
/-- A slice as an argument. -/
theorem rdr_slice_arg {α : Type} {sz base : Nat} {Rel : List Value → α → Prop} {t e : TypeId} {v : Value} {d : DataW H} {p : List MemPlace} (ht : P.underlying t = some (.slice e)) (h : Rdr enc P W t 1 (RSl W sz Rel)) (hok : Value.okWide P W .any base t v) (hT : DataW.Trod enc P W 0 (fun _ => true) true t v d p) :
    ∃ ys : List (List Value × α), SlZ W (fun k => k < W.heap.size) sz v (ys.flatMap (·.1)) ∧ ∀ y ∈ ys, y.1.length = sz ∧ Rel y.1 y.2 := by
  obtain ⟨a0, len0, cap0, rfl⟩ := okWide_slice ht hok
  obtain ⟨⟨v', ys⟩, h1, h2, h3⟩ := rdr_arg h hT
  simp [Value.cells] at h1
  subst h1
  exact ⟨ys, h2, h3⟩
theorem SlZ.one {K : Nat → Prop} {v : Value} {xs : List Value} (h : SlZ W K 1 v xs) : Sl W K v xs := by
  obtain ⟨A, n, c, rfl, hn, hc, hm, hx⟩ := h
  exact ⟨A, n, c, rfl, by omega, hc, hm, hx⟩
theorem flat_ints {k : IntKind} (ys : List (List Value × Int)) (h : ∀ y ∈ ys, y.1.length = 1 ∧ RInt k y.1 y.2) : ys.flatMap (·.1) = (ys.map (·.2)).map (.int k) := by
  induction ys with
  | nil => rfl
  | cons y ys ih => rw [List.flatMap_cons, ih fun e he => h e (by simp [he]), (h y (by simp)).2.1]; rfl
theorem flat_strs (ys : List (List Value × ByteArray)) (h : ∀ y ∈ ys, y.1.length = 1 ∧ RStr y.1 y.2) : ys.flatMap (·.1) = (ys.map (·.2)).map .string := by
  induction ys with
  | nil => rfl
  | cons y ys ih => rw [List.flatMap_cons, ih fun e he => h e (by simp [he]), (h y (by simp)).2.1]; rfl
/-- A slice of integers, told by the general reader. -/
theorem sl_ints {k : IntKind} {v : Value} {ys : List (List Value × Int)} (h1 : SlZ W (fun k => k < W.heap.size) 1 v (ys.flatMap (·.1))) (h2 : ∀ y ∈ ys, y.1.length = 1 ∧ RInt k y.1 y.2) : Sl W (fun k => k < W.heap.size) v ((ys.map (·.2)).map (.int k)) ∧ ∀ n ∈ ys.map (·.2), (Lit.int k n).wf = true := by
  rw [flat_ints ys h2] at h1
  refine ⟨h1.one, fun n hn => ?_⟩
  obtain ⟨y, hy, rfl⟩ := List.mem_map.1 hn
  exact (h2 y hy).2.2
theorem sl_bytes {v : Value} {ys : List (List Value × Int)} (h1 : SlZ W (fun k => k < W.heap.size) 1 v (ys.flatMap (·.1))) (h2 : ∀ y ∈ ys, y.1.length = 1 ∧ RInt .u8 y.1 y.2) : Sl W (fun k => k < W.heap.size) v (bv (ys.map fun y => UInt8.ofNat y.2.toNat)) := by
  obtain ⟨h3, h4⟩ := sl_ints h1 h2
  have e : (ys.map (·.2)).map (.int .u8) = bv (ys.map fun y => UInt8.ofNat y.2.toNat) := by
    simp only [bv, List.map_map]
    refine List.map_congr_left fun y hy => ?_
    have := u8_of (h4 y.2 (List.mem_map.2 ⟨y, hy, rfl⟩))
    simp only [Function.comp]
    rw [← this]
  rw [← e]
  exact h3
end
end Go.Proofs.YtpcdbkaeijhmfaaGreatDoor
namespace Go.Proofs.YtpcdbkaeijhmfaaGreatDoor
set_option maxRecDepth 100000
set_option linter.unusedVariables false
set_option linter.unusedSimpArgs false
open Go.RowKit
def IntsPost (xs ys : List Int) (w : World) (e : Ending) (w' : World) : Prop := e = .returned (.bool (decide (xs = ys))) ∧ ∃ k, w' = w.drewN k
set_option maxHeartbeats 400000 in
theorem ints_any (v u : Value) (K K' : Nat → Prop) (xs ys : List Int) (w : World) (h : Sl w K v (xs.map iv)) (h' : Sl w K' u (ys.map iv)) :
    Calls Tryz.prog 21 #[v, u] w (IntsPost xs ys w) := by
  obtain ⟨A, n, c, rfl, hn, hc, hm, hx⟩ := h
  obtain ⟨B, m, d, rfl, hn', hc', hm', hx'⟩ := h'
  rw [List.length_map] at hn hn'
  by_cases hnm : n = m
  · subst hnm
    have hd : decide (n = n) = true := by simp
    have H := Lib.hid (And.intro hn (And.intro hn' (And.intro hx hx')))
    clear hn hn' hx hx'
    go_enter Tryz.func21, Tryz.ntmps21
    go_wp2_with fail
    go_loopw [5] (fun i wr => ∃ k q : Nat, k ≤ n ∧ i = .int .i64 k ∧ xs.take k = ys.take k ∧ wr = w.drewN q) (fun i _ => n - (intOf i).toNat)
    case atStart => exact ⟨0, 0, Nat.zero_le _, rfl, by simp, rfl⟩
    case round =>
      obtain ⟨k, q, hk, rfl, ht, rfl⟩ := hrel
      by_cases hlt : k < n
      · obtain ⟨hn, hn', hx, hx'⟩ := H.out
        obtain ⟨g, o, rfl, _, hx⟩ := hx.resolve_left (by omega)
        obtain ⟨g', o', rfl, _, hx'⟩ := hx'.resolve_left (by omega)
        have hkx : k < xs.length := by omega
        have hky : k < ys.length := by omega
        have c1 : w.cell? ⟨g, o + k, none⟩ = some (.int .i64 xs[k]) := by rw [hx k (by simpa using hkx)]; simp [iv]
        have c2 : w.cell? ⟨g', o' + k, none⟩ = some (.int .i64 ys[k]) := by rw [hx' k (by simpa using hky)]; simp [iv]
        have e1 : xs.take (k + 1) = xs.take k ++ [xs[k]] := List.take_succ_eq_append_getElem hkx
        have e2 : ys.take (k + 1) = ys.take k ++ [ys[k]] := List.take_succ_eq_append_getElem hky
        have hne : xs[k] ≠ ys[k] → xs ≠ ys := fun h1 h2 => by subst h2; exact h1 rfl
        have H2 := Lib.hid (And.intro ht (And.intro e1 (And.intro e2 hne)))
        clear hx hx' hn hn' ht e1 e2 hne
        generalize xs[k] = x at *
        generalize ys[k] = y at *
        by_cases hxy : x = y
        · subst hxy
          have hb : (x != x) = false := by simp
          go_wp2_with fail
          go_quiet (fail)
          rename_i nq
          go_wp2_with fail
          go_roundw
          case rel => exact ⟨k + 1, q + nq, by omega, by go_num, by rw [H2.out.2.1, H2.out.2.2.1, H2.out.1], rfl⟩
          case measure => simp [intOf]; omega
        · have hb : (x != y) = true := by simpa using hxy
          have hf : decide (xs = ys) = false := by simpa using H2.out.2.2.2 hxy
          have Hf := Lib.hid hf
          clear hxy hf
          go_wp2_with fail
          go_quiet (fail)
          rename_i nq
          go_wp2_with fail
          go_ret
          exact ⟨by rw [Hf.out]; rfl, q + nq, by rw [World.drewN_drewN]⟩
      · obtain rfl : k = n := by omega
        have hf : decide (xs = ys) = true := by
          obtain ⟨hn, hn', _⟩ := H.out
          rw [List.take_of_length_le (by omega), List.take_of_length_le (by omega)] at ht
          simpa using ht
        have Hf := Lib.hid hf
        clear ht hf
        go_wp2_with fail
        go_ret
        exact ⟨by rw [Hf.out]; rfl, q, rfl⟩
  · have hb : ((n : Int) != (m : Int)) = true := by simp; omega
    have hf : decide (xs = ys) = false := by
      simp only [decide_eq_false_iff_not]
      intro h; subst h; omega
    have Hf := Lib.hid hf
    clear hnm hf hx hx' hn hn'
    go_enter Tryz.func21, Tryz.ntmps21
    go_wp2_with fail
    go_ret
    exact ⟨by rw [Hf.out]; rfl, 0, rfl⟩
end Go.Proofs.YtpcdbkaeijhmfaaGreatDoor
namespace Go.Proofs.YtpcdbkaeijhmfaaGreatDoor
set_option maxRecDepth 100000
set_option linter.unusedVariables false
set_option linter.unusedSimpArgs false
def goodW (w : By) : Prop := 34 ∉ w ∨ ∃ mid, w = 34 :: (mid ++ [34]) ∧ 34 ∉ mid
theorem wordsPw_nil {l : By} (h : l.dropWhile (· == 32) = []) : wordsB l = [] := by
  rw [wordsB]; split
  · rfl
  · next c r h' => rw [h] at h'; cases h'
theorem wordsPw_cons {l : By} {c : UInt8} {r : By} (h : l.dropWhile (· == 32) = c :: r) : wordsB l = (c :: r).take (max 1 (endB (c :: r))) :: wordsB ((c :: r).drop (max 1 (endB (c :: r)))) := by
  rw [wordsB]; split
  · next h' => rw [h] at h'; cases h'
  · next c' r' h' => rw [h] at h'; cases h'; rfl
theorem wordsR_nil {l : By} (h : l.dropWhile (· == 32) = []) : wordsR l = [] := by
  rw [wordsR]; split
  · rfl
  · next c r h' => rw [h] at h'; cases h'
theorem wordsR_cons {l : By} {c : UInt8} {r : By} (h : l.dropWhile (· == 32) = c :: r) : wordsR l = (c :: r).take (max 1 (endR false (c :: r))) :: wordsR ((c :: r).drop (max 1 (endR false (c :: r)))) := by
  rw [wordsR]; split
  · next h' => rw [h] at h'; cases h'
  · next c' r' h' => rw [h] at h'; cases h'; rfl
theorem dw_head {l : By} {c : UInt8} {r : By} (h : l.dropWhile (· == 32) = c :: r) : c ≠ 32 := by
  have := List.head?_dropWhile_not (· == (32 : UInt8)) l
  rw [h] at this
  simpa using this
theorem endR_le : ∀ (i : Bool) (l : By), endR i l ≤ l.length
  | _, [] => by simp [endR]
  | i, c :: r => by
    unfold endR
    have := endR_le (if c == 34 then !i else i) r
    split
    · rw [List.length_cons]; omega
    · exact Nat.zero_le _
/-- Outside of a text, up to a blank or a quotation mark. -/
theorem endR_out : ∀ (u v : By), (∀ c ∈ u, c ≠ 32 ∧ c ≠ 34) → endR false (u ++ v) = u.length + endR false v
  | [], v, _ => by simp
  | c :: u, v, h => by
    obtain ⟨h1, h2⟩ := h c (by simp)
    have ih := endR_out u v fun c hc => h c (by simp [hc])
    rw [List.cons_append, endR, if_pos (by simp [h1]), if_neg (by simpa using h2), ih]
    simp only [List.length_cons]; omega
theorem endR_in : ∀ (u v : By), (∀ c ∈ u, c ≠ 34) → endR true (u ++ v) = u.length + endR true v
  | [], v, _ => by simp
  | c :: u, v, h => by
    have ih := endR_in u v fun c hc => h c (by simp [hc])
    rw [List.cons_append, endR, if_pos (by simp), if_neg (by simpa using h c (by simp)), ih]
    simp only [List.length_cons]; omega
theorem tw_mem : ∀ (l : By) (c : UInt8), c ∈ l.takeWhile (· != 32) → (c != 32) = true
  | [], c, h => by simp at h
  | d :: l, c, h => by
    rw [List.takeWhile_cons] at h
    split at h
    · rename_i hd
      rcases List.mem_cons.1 h with rfl | h
      · exact hd
      · exact tw_mem l c h
    · simp at h
theorem tw_take (l : By) : l.take (l.takeWhile (· != 32)).length = l.takeWhile (· != 32) := by
  conv => lhs; arg 2; rw [← List.takeWhile_append_dropWhile (p := (· != (32 : UInt8))) (l := l)]
  rw [List.take_left]
theorem tw_spec (l : By) : l = l.takeWhile (· != 32) ++ l.dropWhile (· != 32) ∧ (∀ c ∈ l.takeWhile (· != 32), c ≠ 32) ∧ (l.dropWhile (· != 32) = [] ∨ ∃ r, l.dropWhile (· != 32) = 32 :: r) := by
  refine ⟨List.takeWhile_append_dropWhile.symm, fun c hc => ?_, ?_⟩
  · have := tw_mem l c hc
    simpa using this
  · cases h : l.dropWhile (· != 32) with
    | nil => exact .inl rfl
    | cons c r =>
      have := List.head?_dropWhile_not (· != (32 : UInt8)) l
      rw [h] at this
      simp at this
      exact .inr ⟨r, by rw [this]⟩
/-- The first quotation mark, or none. -/
theorem q_split : ∀ (r : By), (34 ∉ r ∧ r.idxOf? 34 = none) ∨ ∃ mid rest, r = mid ++ 34 :: rest ∧ 34 ∉ mid ∧ r.idxOf? 34 = some mid.length
  | [] => .inl ⟨by simp, rfl⟩
  | c :: r => by
    by_cases h : c = 34
    · subst h
      exact .inr ⟨[], r, rfl, by simp, by simp [List.idxOf?, List.findIdx?_cons]⟩
    · rcases q_split r with ⟨h1, h2⟩ | ⟨mid, rest, rfl, h2, h3⟩
      · refine .inl ⟨by simp [h1]; exact fun e => h e.symm, ?_⟩
        unfold List.idxOf? at *
        rw [List.findIdx?_cons, if_neg (by simpa using h), h2]; rfl
      · refine .inr ⟨c :: mid, rest, rfl, by simp [h2]; exact fun e => h e.symm, ?_⟩
        unfold List.idxOf? at *
        rw [List.findIdx?_cons, if_neg (by simpa using h), h3]; rfl
theorem bad_head {c : UInt8} {u : By} (hc : c ≠ 34) (h : 34 ∈ c :: u) : ¬ goodW (c :: u) := by
  rintro (h1 | ⟨mid, h1, -⟩)
  · exact h1 h
  · cases h1; exact hc rfl
theorem bad_open {u : By} (h : 34 ∉ u) : ¬ goodW (34 :: u) := by
  rintro (h1 | ⟨mid, h1, -⟩)
  · exact h1 (by simp)
  · have h2 := (List.cons.inj h1).2; rw [h2] at h; exact h (by simp)
theorem bad_behind {mid u : By} {d : UInt8} (h : 34 ∉ mid) : ¬ goodW (34 :: (mid ++ 34 :: d :: u)) := by
  rintro (h1 | ⟨m, h1, h2⟩)
  · exact h1 (by simp)
  · have h3 := (List.cons.inj h1).2
    have h4 : 34 ∈ m := by
      have e1 : (mid ++ 34 :: d :: u)[mid.length]? = some 34 := by simp
      have hl := congrArg List.length h3
      simp at hl
      rw [h3, List.getElem?_append_left (by omega)] at e1
      exact List.mem_of_getElem? e1
    exact h2 h4
/-- One word: the same, or neither says anything. -/
theorem word_rel (c : UInt8) (r : By) (hc : c ≠ 32) : endB (c :: r) = endR false (c :: r) ∨ (¬ goodW ((c :: r).take (max 1 (endB (c :: r)))) ∧ ¬ goodW ((c :: r).take (max 1 (endR false (c :: r))))) := by
  by_cases h34 : c = 34
  · subst h34
    have eR : endR false (34 :: r) = endR true r + 1 := by rw [endR]; simp
    rcases q_split r with ⟨h1, h2⟩ | ⟨mid, rest, rfl, h2, h3⟩
    · right
      have eB : endB (34 :: r) = (r.takeWhile (· != 32)).length + 1 := by simp [endB, h2, List.takeWhile_cons]
      rw [eR, eB, Nat.max_eq_right (by omega), Nat.max_eq_right (by omega), List.take_succ_cons, List.take_succ_cons]
      exact ⟨bad_open fun h => h1 (List.mem_of_mem_take h), bad_open fun h => h1 (List.mem_of_mem_take h)⟩
    · have eB : endB (34 :: (mid ++ 34 :: rest)) = mid.length + 2 + (rest.takeWhile (· != 32)).length := by
        have : (34 :: (mid ++ 34 :: rest)).drop (mid.length + 2) = rest := by
          rw [show mid.length + 2 = (mid.length + 1) + 1 from rfl, List.drop_succ_cons, show mid ++ 34 :: rest = (mid ++ [34]) ++ rest by simp, show mid.length + 1 = (mid ++ [34]).length by simp, List.drop_left]
        simp only [endB, h3, if_true]
        rw [this]
      have eR2 : endR true (mid ++ 34 :: rest) = mid.length + (endR false rest + 1) := by
        rw [endR_in mid _ fun c hc e => h2 (e ▸ hc)]; rw [endR]; simp
      rw [eR, eB, eR2]
      have ht : ∀ k, (34 :: (mid ++ 34 :: rest)).take (mid.length + 2 + k) = 34 :: (mid ++ 34 :: rest.take k) := by
        intro k
        rw [show mid.length + 2 + k = (mid.length + (k + 1)) + 1 from by omega, List.take_succ_cons, List.take_length_add_append, List.take_succ_cons]
      cases rest with
      | nil => left; simp [endR]
      | cons d u =>
        by_cases hd : d = 32
        · subst hd; left; simp [endR]
        · right
          have t1 : ((d :: u).takeWhile (· != 32)).length = (u.takeWhile (· != 32)).length + 1 := by simp [List.takeWhile_cons, hd]
          have t2 : endR false (d :: u) = endR (if d == 34 then !false else false) u + 1 := by rw [endR, if_pos (by simp [hd])]
          rw [t1, t2, Nat.max_eq_right (by omega), Nat.max_eq_right (by omega), ht, show mid.length + (endR (if d == 34 then !false else false) u + 1 + 1) + 1 = mid.length + 2 + (endR (if d == 34 then !false else false) u + 1) from by omega, ht, List.take_succ_cons, List.take_succ_cons]
          exact ⟨bad_behind h2, bad_behind h2⟩
  · have eB : endB (c :: r) = ((c :: r).takeWhile (· != 32)).length := by simp [endB, h34]
    obtain ⟨e1, e2, e3⟩ := tw_spec (c :: r)
    by_cases hq : 34 ∈ (c :: r).takeWhile (· != 32)
    · right
      have hcw : (c :: r).takeWhile (· != 32) = c :: r.takeWhile (· != 32) := by simp [List.takeWhile_cons, hc]
      constructor
      · rw [eB, hcw, Nat.max_eq_right (by simp), List.length_cons, List.take_succ_cons]
        rw [hcw] at hq
        refine bad_head h34 ?_
        rw [tw_take]
        exact hq
      · rcases q_split ((c :: r).takeWhile (· != 32)) with ⟨h1, -⟩ | ⟨mid, rest, h1, h2, -⟩
        · exact absurd hq h1
        · have hm : mid ≠ [] := by rintro rfl; rw [hcw] at h1; exact h34 (List.cons.inj h1).1
          obtain ⟨c', mid', rfl⟩ := List.exists_cons_of_ne_nil hm
          have hc' : c = c' := by rw [hcw] at h1; exact (List.cons.inj h1).1
          subst hc'
          rw [h1] at e1
          have e4 : c :: r = (c :: mid') ++ (34 :: (rest ++ (c :: r).dropWhile (· != 32))) := e1.trans (by simp)
          have e5 : endR false (c :: r) = (c :: mid').length + (endR true (rest ++ (c :: r).dropWhile (· != 32)) + 1) := by
            conv => lhs; rw [e4]
            rw [endR_out _ _ fun x hx => ⟨e2 x (by rw [h1]; exact List.mem_append_left _ hx), fun e => h2 (e ▸ hx)⟩, endR]
            simp
          rw [e5, Nat.max_eq_right (by rw [List.length_cons]; omega)]
          generalize (c :: r).dropWhile (· != 32) = D at e4 ⊢
          rw [e4, List.take_length_add_append, List.take_succ_cons]
          exact bad_head h34 (by simp)
    · left
      rw [eB]
      conv => rhs; rw [e1]
      rw [endR_out _ _ fun x hx => ⟨e2 x hx, fun e => hq (e ▸ hx)⟩]
      rcases e3 with e3 | ⟨u, e3⟩ <;> rw [e3] <;> simp [endR]
theorem words_rel : ∀ (n : Nat) (l : By), l.length ≤ n → wordsB l = wordsR l ∨ ∃ pre x y r1 r2, wordsB l = pre ++ x :: r1 ∧ wordsR l = pre ++ y :: r2 ∧ ¬ goodW x ∧ ¬ goodW y ∧ x.head? = y.head?
  | n, l, hn => by
    cases h : l.dropWhile (· == 32) with
    | nil => left; rw [wordsPw_nil h, wordsR_nil h]
    | cons c r =>
      have hl : (c :: r).length ≤ l.length := by rw [← h]; exact (List.dropWhile_sublist _).length_le
      rcases word_rel c r (dw_head h) with he | ⟨h1, h2⟩
      · have hlt : ((c :: r).drop (max 1 (endR false (c :: r)))).length < l.length := by
          rw [List.length_drop]; simp only [List.length_cons] at hl ⊢; omega
        cases n with
        | zero => omega
        | succ n =>
          rcases words_rel n _ (by omega : ((c :: r).drop (max 1 (endR false (c :: r)))).length ≤ n) with h3 | ⟨pre, x, y, r1, r2, h3, h4, h5, h6, h7⟩
          · left; rw [wordsPw_cons h, wordsR_cons h, he, h3]
          · right
            exact ⟨_ :: pre, x, y, r1, r2, by rw [wordsPw_cons h, he, h3]; rfl, by rw [wordsR_cons h, h4]; rfl, h5, h6, h7⟩
      · right
        refine ⟨[], _, _, _, _, wordsPw_cons h, wordsR_cons h, h1, h2, ?_⟩
        rw [show max 1 (endB (c :: r)) = (max 1 (endB (c :: r)) - 1) + 1 from by omega, show max 1 (endR false (c :: r)) = (max 1 (endR false (c :: r)) - 1) + 1 from by omega]
        rfl
end Go.Proofs.YtpcdbkaeijhmfaaGreatDoor
namespace Go.Proofs.YtpcdbkaeijhmfaaGreatDoor
set_option maxRecDepth 100000
set_option linter.unusedVariables false
set_option linter.unusedSimpArgs false
theorem valGo_no : ∀ (f : By) (n : Nat), 34 ∈ f → valGo n f = none
  | [], n, h => by simp at h
  | c :: r, n, h => by
    rw [valGo]
    split
    · next hc =>
      split
      · refine valGo_no r _ ?_
        rcases List.mem_cons.1 h with h | h
        · subst h; exact absurd hc (by decide)
        · exact h
      · rfl
    · rfl
theorem figB_no (b : Bool) (f : By) (h : 34 ∈ f) : figB b f = none := by
  cases f with
  | nil => rfl
  | cons c r => unfold figB; simp only; split; rfl; rw [valGo_no _ _ h]; rfl
theorem numB_no (w : By) (h : 34 ∈ w) : numB w = none := by
  cases w with
  | nil => rfl
  | cons c r =>
    unfold numB; simp only
    split
    · next hc => subst hc; exact figB_no _ _ (by simpa using h)
    · exact figB_no _ _ h
theorem unqB_no : ∀ (n : Nat) (l : By), l.length ≤ n → 34 ∈ l → unqB l = none
  | _, [], _, h => by simp at h
  | 0, c :: r, hn, h => by simp at hn
  | n + 1, c :: r, hn, h => by
    by_cases h92 : c = 92
    · subst h92
      match r, hn, h with
      | [], hn, h => simp at h
      | [a], hn, h => simp [unqB, plainB]
      | a :: b :: r, hn, h =>
        rw [unqB]
        have h3 : 34 = a ∨ 34 = b ∨ 34 ∈ r := by simpa using h
        rcases h3 with rfl | rfl | h3
        · have : hexB 34 = none := by decide
          rw [this]
        · have : hexB 34 = none := by decide
          rw [this]
          cases hexB a <;> rfl
        · have hn' : r.length ≤ n := by simp at hn; omega
          rw [unqB_no n r hn' h3]
          cases hexB a <;> cases hexB b <;> rfl
    · rw [unqB]
      · by_cases h34 : c = 34
        · subst h34; rw [if_neg (by decide)]
        · have : 34 ∈ r := by rcases List.mem_cons.1 h with e | e; exact absurd e.symm h34; exact e
          rw [unqB_no n r (by simp at hn; omega) this]
          split <;> rfl
      · intro a1 b1 r1 e; exact absurd e h92
theorem txtB_no (w : By) (h : ¬ goodW w) : txtB w = none := by
  cases w with
  | nil => rfl
  | cons c r =>
    unfold txtB; simp only
    split
    · next hc =>
      obtain ⟨rfl, hl⟩ := hc
      obtain ⟨ys, hys⟩ := List.getLast?_eq_some_iff.1 hl
      have e : r = r.dropLast ++ [34] := by rw [hys]; simp
      refine unqB_no _ _ (Nat.le_refl _) ?_
      by_cases hm : 34 ∈ r.dropLast
      · exact hm
      · exact absurd (.inr ⟨_, by rw [← e], hm⟩) h
    · rfl
theorem bad_mem {w : By} (h : ¬ goodW w) : 34 ∈ w := by
  by_cases h1 : 34 ∈ w
  · exact h1
  · exact absurd (.inl h1) h
theorem bad_ne {w : By} {s : String} (h : 34 ∈ w) (hs : 34 ∉ bs s) : w ≠ bs s := fun e => hs (e ▸ h)
theorem numsB_no : ∀ (l : List By) (x : By), x ∈ l → 34 ∈ x → numsB l = none
  | [], x, h, _ => by simp at h
  | w :: r, x, h, hx => by
    rw [numsB]
    rcases List.mem_cons.1 h with rfl | h
    · rw [numB_no _ hx]
    · rw [numsB_no r x h hx]; cases numB w <;> rfl
theorem answB_no : ∀ (l : List By) (s : St) (x : By), x ∈ l → 34 ∈ x → answB s l = none
  | [], s, x, h, _ => by simp at h
  | w :: r, s, x, h, hx => by
    rw [answB]
    rcases List.mem_cons.1 h with rfl | h
    · rw [if_neg (bad_ne hx (by decide)), if_neg (bad_ne hx (by decide))]
    · rw [answB_no r _ x h hx, answB_no r _ x h hx]; simp
theorem kindB_no (w : By) (h : 34 ∈ w) : kindB w = none := by
  unfold kindB
  rw [if_neg (bad_ne h (by decide)), if_neg (bad_ne h (by decide)), if_neg (bad_ne h (by decide)), if_neg (bad_ne h (by decide)), if_neg (bad_ne h (by decide))]
theorem planB_no (l : List By) (s : St) (x : By) (h : x ∈ l) (hx : 34 ∈ x) : planB s l = none := by
  match l, h with
  | [], h => rfl
  | [_], h => rfl
  | [_, _], h => rfl
  | [k, a, b], h =>
    unfold planB; simp only
    have h3 : x = k ∨ x = a ∨ x = b := by simpa using h
    rcases h3 with rfl | rfl | rfl
    · rw [kindB_no _ hx]
    · rw [numB_no _ hx]; cases kindB k <;> rfl
    · rw [numB_no _ hx]; cases kindB k <;> cases numB a <;> rfl
  | _ :: _ :: _ :: _ :: _, h => rfl
theorem wordB_no (l : List By) (s : St) (x : By) (h : x ∈ l) (hx : ¬ goodW x) : wordB s l = none := by
  match l, h with
  | [], h => rfl
  | [w], h => obtain rfl : x = w := by simpa using h
              unfold wordB; simp only; rw [txtB_no _ hx]; rfl
  | _ :: _ :: _, h => rfl
theorem readB_no (l : List By) (s : St) (x : By) (h : x ∈ l) (hx : ¬ goodW x) : readB s l = none := by
  match l, h with
  | [], h => rfl
  | [w], h => obtain rfl : x = w := by simpa using h
              unfold readB; simp only; rw [txtB_no _ hx]; rfl
  | _ :: _ :: _, h => rfl
/-- A line with a word that says nothing, and that is no remark, says nothing. -/
theorem countsB_no (s : St) (w : By) (h : 34 ∈ w) (n : List Int) : countsB s w n = none := by
  unfold countsB
  rw [if_neg fun e => bad_ne h (by decide) e.1, if_neg fun e => bad_ne h (by decide) e.1, if_neg fun e => bad_ne h (by decide) e.1, if_neg fun e => bad_ne h (by decide) e.1]
theorem sayW_bad (s : St) (pre : List By) (x : By) (r : List By) (hx : ¬ goodW x) (hh : (pre ++ x :: r).head?.bind List.head? ≠ some 35) : sayW s (pre ++ x :: r) = none := by
  have hm := bad_mem hx
  cases pre with
  | nil =>
    rw [List.nil_append] at hh ⊢
    unfold sayW; simp only
    rw [if_neg (by simpa using hh), if_neg (bad_ne hm (by decide)), if_neg (bad_ne hm (by decide)), if_neg (bad_ne hm (by decide)), if_neg (bad_ne hm (by decide)), if_neg (bad_ne hm (by decide)), if_neg (bad_ne hm (by decide))]
    cases numsB r with
    | none => rfl
    | some n => exact countsB_no s x hm n
  | cons w pre =>
    rw [List.cons_append] at hh ⊢
    have hin : x ∈ pre ++ x :: r := by simp
    have hne : pre ++ x :: r ≠ [] := by simp
    unfold sayW; simp only
    rw [if_neg (by simpa using hh), if_neg hne, if_neg hne, wordB_no _ s x hin hx, readB_no _ s x hin hx, answB_no _ s x hin hm, planB_no _ s x hin hm, numsB_no _ x hin hm]
    simp
/-- The document's words say what the program's say. -/
theorem say_same (s : St) (l : By) : sayW s (wordsR l) = sayW s (wordsB l) := by
  rcases words_rel l.length l (Nat.le_refl _) with h | ⟨pre, x, y, r1, r2, h1, h2, hx, hy, hh⟩
  · rw [h]
  · have e : (pre ++ x :: r1).head?.bind List.head? = (pre ++ y :: r2).head?.bind List.head? := by
      cases pre with
      | nil => simpa using hh
      | cons w pre => rfl
    by_cases hc : (pre ++ x :: r1).head?.bind List.head? = some 35
    · rw [h1, h2]
      rw [e] at hc
      have k : ∀ L : List By, L.head?.bind List.head? = some 35 → sayW s L = some s := by
        intro L hL
        cases L with
        | nil => rfl
        | cons w L => unfold sayW; simp only; rw [if_pos (by simpa using hL)]
      rw [k _ hc, k _ (e.trans hc)]
    · rw [h1, h2, sayW_bad s _ _ _ hx hc, sayW_bad s _ _ _ hy (by rw [← e]; exact hc)]
end Go.Proofs.YtpcdbkaeijhmfaaGreatDoor
