/- Words for memory that all texts of this seat share: frames, slices that read as lists. Chores and pipes: plain; how they lie in memory. The walk of each's iterator. The walk of chore.Pipes. A long region that draws its order, most of whose operations wait for one another: walked in pieces: in the text's order where only one may come up (or a move, which may be taken first); where some reads may come up, but nothing behind them, still. The walk of slices.Clone[[]teasel/api.Errand,teasel/api.Errand]. The walk of slices.Clone[[]uint32,uint32]. The walk of can. Small walks: Over, Great, named, can. The walk of teaselref23.Pipes. The walk of slices.Equal at errands. The walk of slices.Equal at uint32. slices.Collect at []int, over whatever iterator. The walk of teaselref01.Ints. From a law's walk to its row: what is read, and that all reads as it did. Arguments of any shape, read as data. A chore, pipes as arguments. -/
import Derived.Test.YtnibllkcacalhaaRows
import Derived.WalkKit
import Derived.WalkSpells
import Derived.WalkLawsBesides
import Derived.Lib.Hide
import Derived.Deep.RegionHeld3
import Derived.Deep.AppendLies
import Derived.Deep.QuietTactic
import Derived.BigQuiet
import Derived.Deep.RegionLaw
import Derived.Maps.AppendAt
import Derived.RangeFuncNested
import Derived.RangeFuncBound
import Derived.RangeFuncCalls
import Derived.RangeFuncLeaves
import Derived.Shelf.Abstract
import Derived.Shelf.RegionOpen
import Derived.OwnWalkIn
import Derived.TacticsInMore
import Derived.LoopNIn
import Derived.LoopIn
import Derived.StillTailTactics
import Derived.RangeFuncFrom
import Derived.RangeFuncBox
import Derived.ProofKit
import Derived.Carry
import Derived.OpenShut
import Derived.Deep.Matrix
import Derived.Deep.Slices
import Derived.Deep.Fields
import Derived.ChangeSame
namespace Go.Proofs.Ytnibllkcacalhaa
open Go.RowKit

theorem args1 {a : Act} {x : Operand} {v : Value} (h : a.eval x = v) : #[] ++ (#[x] : Array Operand).map a.eval ++ #[] = #[v] := by simp [h]
theorem args2 {a : Act} {x y : Operand} {v u : Value} (h : a.eval x = v) (h' : a.eval y = u) : #[] ++ (#[x, y] : Array Operand).map a.eval ++ #[] = #[v, u] := by simp [h, h']
theorem args3 {a : Act} {x y z : Operand} {v u t : Value} (h : a.eval x = v) (h' : a.eval y = u) (h2 : a.eval z = t) : #[] ++ (#[x, y, z] : Array Operand).map a.eval ++ #[] = #[v, u, t] := by simp [h, h', h2]
/-- A CALL OF A Go FUNCTION AS ONE STEP OF A REGION THAT DRAWS: for 'go_region_law': its contract R. -/
theorem step_call {P : Program} {ops : Array Oper} {o : Oper} {a : Act} {w : World} {K : Act → World → Prop} {Q : Exit → Act → World → Prop} {E : Prop} (hgd : o.guard = none) {f : FuncId} {vs : Array Value} {R : Ending → World → Prop} (hc : Calls P f vs w R)
    (xs : Array Operand) (ats : Array TypeId) (ho : o.op = .call { callee := .value (.func f), args := xs, argTypes := ats }) (hv : #[] ++ xs.map a.eval ++ #[] = vs) (hen : (callFunc f vs).run P w = .ok (.enter f vs) w)
    (h : ∀ e w', R e w' → ∃ v, e = .returned v ∧ K (a.put o.dst v) w') :
    if Region.wanted o (yielded ops a.tmps) = true then Oper.wp P o a w K Q else E := by
  have hw : Region.wanted o (yielded ops a.tmps) = true := by simp [Region.wanted, hgd]
  rw [if_pos hw]
  obtain ⟨dst, op, ty, pos, after, guard⟩ := o
  dsimp only at ho h
  subst ho
  unfold Oper.wp
  rw [execOp_call_go, hv]
  rw [hen, Oper.upon_enter]
  refine hc.mono fun e w' hr => ?_
  obtain ⟨v, rfl, hK⟩ := h e w' hr
  exact hK

/-- A contract that ends in a later draw of the same world, met in a quiet region behind a draws. -/
theorem quiet_up {P : Program} {f : FuncId} {args : Array Value} {w : World} {a n : Nat} {v : Value} {R : Ending → World → Prop} (h : Calls P f args (w.drewN (a + n)) R)
    (hR : ∀ e w', R e w' → e = .returned v ∧ ∃ m, w' = w.drewN (a + m)) : Calls P f args (w.drewN (a + n)) fun e w'' => e = .returned v ∧ ∃ m, w'' = w.drewN (a + m) := h.mono hR
theorem quiet_add {P : Program} {f : FuncId} {args : Array Value} {w : World} {a n : Nat} {v : Value}
    (h : Calls P f args (w.drewN (a + n)) fun e w' => e = .returned v ∧ ∃ m, w' = (w.drewN (a + n)).drewN m) : Calls P f args (w.drewN (a + n)) fun e w'' => e = .returned v ∧ ∃ m, w'' = w.drewN (a + m) :=
  quiet_up h (by rintro e w' ⟨rfl, m, rfl⟩; exact ⟨rfl, n + m, by rw [World.drewN_drewN, Nat.add_assoc]⟩)
theorem quiet_add_left {P : Program} {f : FuncId} {args : Array Value} {w : World} {a n : Nat} {v : Value}
    (h : Calls P f args (w.drewN (a + n)) fun e w' => e = .returned v ∧ w.drewN (a + n) = w') : Calls P f args (w.drewN (a + n)) fun e w'' => e = .returned v ∧ ∃ m, w'' = w.drewN (a + m) :=
  quiet_up h (by rintro e w' ⟨rfl, rfl⟩; exact ⟨rfl, n, rfl⟩)
theorem quiet_left {P : Program} {f : FuncId} {args : Array Value} {w : World} {n : Nat} {v : Value}
    (h : Calls P f args (w.drewN n) fun e w' => e = .returned v ∧ w.drewN n = w') : Calls P f args (w.drewN n) fun e w'' => e = .returned v ∧ ∃ m, w'' = w.drewN m :=
  Calls.quiet_of_same (h.mono (by rintro e w' ⟨rfl, rfl⟩; exact ⟨rfl, rfl⟩))
/-- A call as one step of a region that draws, guarded or not. -/
theorem step_call_g {P : Program} {ops : Array Oper} {o : Oper} {a : Act} {w : World} {K : Act → World → Prop} {Q : Exit → Act → World → Prop} {E : Prop} (hw : Region.wanted o (yielded ops a.tmps) = true) {f : FuncId} {vs : Array Value} {R : Ending → World → Prop} (hc : Calls P f vs w R)
    (xs : Array Operand) (ats : Array TypeId) (ho : o.op = .call { callee := .value (.func f), args := xs, argTypes := ats }) (hv : #[] ++ xs.map a.eval ++ #[] = vs) (hen : (callFunc f vs).run P w = .ok (.enter f vs) w)
    (h : ∀ e w', R e w' → ∃ v, e = .returned v ∧ K (a.put o.dst v) w') :
    if Region.wanted o (yielded ops a.tmps) = true then Oper.wp P o a w K Q else E := by
  rw [if_pos hw]
  obtain ⟨dst, op, ty, pos, after, guard⟩ := o
  dsimp only at ho h
  subst ho
  unfold Oper.wp
  rw [execOp_call_go, hv, hen, Oper.upon_enter]
  refine hc.mono fun e w' hr => ?_
  obtain ⟨v, rfl, hK⟩ := h e w' hr
  exact hK
/-- Outside the blocks of K all is as it was. -/
structure Frm (K : Nat → Prop) (w w' : World) : Prop where
  os : w'.os = w.os
  tape : w'.tape = w.tape
  output : w'.output = w.output
  size : w.heap.size ≤ w'.heap.size
  block : ∀ k, k < w.heap.size → ¬ K k → w'.heap[k]? = w.heap[k]?
section
variable {K K' : Nat → Prop} {w w1 w2 : World}
theorem Frm.refl (K : Nat → Prop) (w : World) : Frm K w w := ⟨rfl, rfl, rfl, Nat.le_refl _, fun _ _ _ => rfl⟩
theorem Frm.trans (h : Frm K w w1) (h' : Frm K' w1 w2) (hk : ∀ k, K' k → K k ∨ w.heap.size ≤ k) : Frm K w w2 :=
  ⟨h'.os.trans h.os, h'.tape.trans h.tape, h'.output.trans h.output, Nat.le_trans h.size h'.size, fun k hl hn =>
    (h'.block k (Nat.lt_of_lt_of_le hl h.size) (fun hk' => (hk k hk').elim hn (fun hh => absurd hl (by omega)))).trans (h.block k hl hn)⟩
theorem Frm.trans' (h : Frm K w w1) (h' : Frm K w1 w2) : Frm K w w2 := h.trans h' (fun _ hk => Or.inl hk)
theorem Frm.mono (h : Frm K w w1) (hk : ∀ k, K k → K' k ∨ w.heap.size ≤ k) : Frm K' w w1 :=
  ⟨h.os, h.tape, h.output, h.size, fun k hl hn => h.block k hl (fun h' => (hk k h').elim hn (fun hh => absurd hl (by omega)))⟩
theorem Frm.drew (h : Frm K w w1) : Frm K w w1.drew := ⟨h.os, h.tape, h.output, h.size, h.block⟩
theorem Frm.drewN (h : Frm K w w1) (n : Nat) : Frm K w (w1.drewN n) := ⟨h.os, h.tape, h.output, h.size, h.block⟩
theorem Frm.alloc (h : Frm K w w1) (o : Obj) : Frm K w (w1.alloc o) :=
  ⟨h.os, h.tape, h.output, Nat.le_trans h.size (by simp), fun k hl hn => (Below.heap_alloc _ _ _ (Nat.lt_of_lt_of_le hl h.size)).trans (h.block k hl hn)⟩
theorem Frm.setCell (h : Frm K w w1) (p : Addr) (hp : K p.block ∨ w.heap.size ≤ p.block) (u : Value) : Frm K w (w1.setCell p u) :=
  ⟨h.os, h.tape, h.output, by simpa using h.size, fun k hl hn => (Below.heap_setCell _ _ _ _ (by rintro rfl; exact hp.elim hn (fun hh => absurd hl (by omega)))).trans (h.block k hl hn)⟩
theorem Frm.grown (h : Frm K w w1) {row : Option Nat} (hg : w1.grownBy w2 row) (hr : ∀ k, row = some k → K k ∨ w.heap.size ≤ k) : Frm K w w2 :=
  h.trans (K' := fun k => row = some k) ⟨hg.os, hg.tape, hg.output, hg.size, fun k hl hn => hg.block k hl (fun e => hn e.symm)⟩ hr
theorem Frm.of_grown {row : Option Nat} (hg : w1.grownBy w2 row) : Frm (fun k => row = some k) w1 w2 :=
  ⟨hg.os, hg.tape, hg.output, hg.size, fun k hl hn => hg.block k hl (fun e => hn e.symm)⟩
theorem Frm.cell (h : Frm K w w1) {a : Addr} {v : Value} (hc : w.cell? a = some v) (hk : ¬ K a.block) : w1.cell? a = some v :=
  (World.cell?_of_block (w := w) (h.block a.block (World.block_lt_of_cell? _ _ hc) hk)).trans hc
theorem Frm.frozen (h : Frm K w w1) {a : Addr} (hc : a.block < w.heap.size) (hk : ¬ K a.block) : w1.frozen? a = w.frozen? a :=
  World.frozen?_of_block (w := w) (h.block a.block hc hk)
theorem Frm.own {base n size : Nat} {e : TypeId} {v : Value} {xs : List Value} (h : Frm K w w1) (ho : w.ownsRow base e size v n xs) (hk : ∀ g, v.ownBlock = some g → ¬ K g) : w1.ownsRow base e size v n xs := by
  refine ⟨ho.1, ?_⟩
  rcases ho.2 with hn | ⟨g, cap, cur, rfl, hb, hgg, rest⟩
  · exact .inl hn
  · exact .inr ⟨g, cap, cur, rfl, hb, (h.block g (Array.getElem?_eq_some_iff.1 hgg).1 (hk g rfl)).trans hgg, rest⟩
theorem Frm.below {B : Nat} (h : Frm K w w1) (hB : B ≤ w.heap.size) (hk : ∀ k, K k → B ≤ k) : Below B w w1 :=
  ⟨h.os, h.tape, h.output, h.size, fun k hl => h.block k (by omega) (fun h' => by have := hk k h'; omega)⟩
end

theorem Frm.of_below {w w' : World} (h : Below w.heap.size w w') : Frm (fun _ => False) w w' := ⟨h.os, h.tape, h.output, h.size, fun k hk _ => h.block k hk⟩
/-- A store of what the cell holds changes nothing. -/
theorem setCell_same {w : World} {b i : Nat} {v : Value} (h : w.cell? ⟨b, i, none⟩ = some v) : w.setCell ⟨b, i, none⟩ v = w := by
  have key : w.heap.modify b (fun
      | .cells c elem frozen => .cells (if (none : Option Nat).isSome then c else c.setIfInBounds i v) elem frozen
      | o => o) = w.heap := by
    apply Array.ext
    · simp
    · intro k h1 h2
      rw [Array.getElem_modify]
      split
      · rename_i hk
        subst hk
        unfold World.cell? at h
        rw [Array.getElem?_eq_getElem h2] at h
        cases hc : w.heap[b] with
        | cells c t fr =>
          rw [hc] at h
          simp at h ⊢
          apply Array.ext
          · simp
          · intro j h3 h4
            rw [Array.getElem_setIfInBounds]
            split
            · rename_i hj; subst hj; rw [Array.getElem?_eq_getElem h4] at h; exact (Option.some.inj h).symm
            · rfl
        | _ => simp [hc] at h
      · rfl
  show ({ w with heap := _ } : World) = w
  have e : (w.setCell ⟨b, i, none⟩ v).heap = w.heap := key
  cases w
  simp only [World.setCell] at e ⊢
  congr 1

/-- Block g is just the cells cs, none frozen. -/
def Blk (w : World) (g : Nat) (t : TypeId) (cs : Array Value) : Prop := w.heap[g]? = some (.cells cs t (0, 0))
section
variable {w w' : World} {g : Nat} {t : TypeId} {cs : Array Value} {K : Nat → Prop}
theorem Blk.lt (h : Blk w g t cs) : g < w.heap.size := by
  rcases Nat.lt_or_ge g w.heap.size with hlt | hge
  · exact hlt
  · unfold Blk at h; rw [Array.getElem?_eq_none hge] at h; cases h
theorem Blk.cell (h : Blk w g t cs) (i : Nat) : w.cell? ⟨g, i, none⟩ = cs[i]? := cell_of_row w g i cs t (0, 0) h
theorem Blk.frozen (h : Blk w g t cs) (i : Nat) : w.frozen? ⟨g, i, none⟩ = false := by
  unfold Blk at h
  simp [World.frozen?, h]
theorem Blk.new (w : World) (t : TypeId) (cs : Array Value) : Blk (w.alloc (.cells cs t)) w.heap.size t cs := heap_alloc_new w _
theorem Blk.drew (h : Blk w g t cs) : Blk w.drew g t cs := h
theorem Blk.alloc (h : Blk w g t cs) (o : Obj) : Blk (w.alloc o) g t cs := (Below.heap_alloc w o g h.lt).trans h
theorem Blk.set_ (h : Blk w g t cs) (i : Nat) (u : Value) : Blk (w.setCell ⟨g, i, none⟩ u) g t (cs.setIfInBounds i u) := by
  unfold Blk at h ⊢
  simp [World.setCell, Array.getElem?_modify, h]
theorem Blk.far (h : Blk w g t cs) {p : Addr} (hp : g ≠ p.block) (u : Value) : Blk (w.setCell p u) g t cs := (Below.heap_setCell w p u g hp).trans h
theorem lt_heap {o : Obj} (h : w.heap[g]? = some o) : g < w.heap.size := by
  rcases Nat.lt_or_ge g w.heap.size with hlt | hge
  · exact hlt
  · rw [Array.getElem?_eq_none hge] at h; cases h
theorem Blk.kept (h : Blk w g t cs) (hf : Frm K w w') (hg : ¬ K g) : Blk w' g t cs := (hf.block g h.lt hg).trans h
theorem Blk.ne_ {g' : Nat} {t' : TypeId} {cs' : Array Value} (h : Blk w g t cs) (h' : Blk w g' t' cs') (hne : t ≠ t') : g ≠ g' := by
  rintro rfl
  unfold Blk at h h'
  rw [h] at h'
  injection h' with h'
  injection h' with _ ht
  exact hne ht
end

/-- A slice value reads as the list xs (of one-cell elements), in blocks of K. -/
def Sl (w : World) (K : Nat → Prop) (v : Value) (xs : List Value) : Prop :=
  ∃ A n c, v = .slice A n c ∧ n = xs.length ∧ n ≤ c ∧ c ≤ 9223372036854775807 ∧
    (n = 0 ∨ ∃ g o, A = some ⟨g, o, none⟩ ∧ K g ∧ ∀ i (h : i < xs.length), w.cell? ⟨g, o + i, none⟩ = some xs[i])
def iv (x : Int) : Value := .int .i64 x
def sv (x : ByteArray) : Value := .string x
def bv (l : List UInt8) : List Value := l.map fun c => .int .u8 c.toNat
@[simp] theorem bv_length (l : List UInt8) : (bv l).length = l.length := by simp [bv]
theorem bv_one (l : List UInt8) : ∀ u ∈ bv l, u.oneCell' = true := by
  intro u hu; simp [bv] at hu; obtain ⟨c, _, rfl⟩ := hu; rfl
section
variable {w w' : World} {K K' : Nat → Prop} {v : Value} {xs : List Value}
theorem Sl.kept (h : Sl w K v xs) (hf : ∀ k, K k → w'.heap[k]? = w.heap[k]?) : Sl w' K v xs := by
  obtain ⟨A, n, c, rfl, hn, hc, hm, hx⟩ := h
  refine ⟨A, n, c, rfl, hn, hc, hm, hx.imp id ?_⟩
  rintro ⟨g, o, rfl, hK, hx⟩
  exact ⟨g, o, rfl, hK, fun i hi => (World.cell?_of_block (w := w) (hf g hK)).trans (hx i hi)⟩
/-- A new block of one cell. -/
theorem Sl.blk1 (w : World) (x : Value) (t : TypeId) : Sl (w.alloc (.cells #[x] t)) (fun k => k = w.heap.size) (.slice (some ⟨w.heap.size, 0, none⟩) 1 1) [x] :=
  ⟨_, _, _, rfl, rfl, Nat.le_refl _, by omega, .inr ⟨_, 0, rfl, rfl, fun i hi => by
    obtain rfl : i = 0 := by simp at hi; omega
    exact cell_of_row _ _ _ _ t (0, 0) (heap_alloc_new w _)⟩⟩
theorem Sl.nil_ (w : World) (K : Nat → Prop) : Sl w K (.slice none 0 0) [] := ⟨none, 0, 0, rfl, rfl, Nat.le_refl _, by omega, .inl rfl⟩
theorem Sl.blk (w : World) (cs : Array Value) (t : TypeId) {n : Nat} {xs : List Value} (hx : cs.toList = xs) (hn : n = xs.length ∧ n ≤ 1000000) : Sl (w.alloc (.cells cs t)) (fun k => k = w.heap.size) (.slice (some ⟨w.heap.size, 0, none⟩) n n) xs :=
  ⟨_, _, _, rfl, hn.1, Nat.le_refl _, by omega, .inr ⟨_, 0, rfl, rfl, fun i hi => by
    rw [cell_of_row _ _ _ cs t (0, 0) (heap_alloc_new w _), Nat.zero_add, ← Array.getElem?_toList, hx]
    exact List.getElem?_eq_getElem hi⟩⟩
/-- What a call handed back lies apart from K, and stays so. -/
def Apart (w : World) (K : Nat → Prop) (g : Nat) : Prop := ¬ K g ∧ g < w.heap.size
theorem Sl.next {K : Nat → Prop} {w w' : World} {v : Value} {xs : List Value} (h : Sl w (Apart w K) v xs) (hf : Frm K w w') : Sl w' (Apart w' K) v xs := by
  obtain ⟨A, n, c, rfl, hn, hc, hm, hx⟩ := h
  refine ⟨A, n, c, rfl, hn, hc, hm, hx.imp id ?_⟩
  rintro ⟨g, o, rfl, hK, hx⟩
  exact ⟨g, o, rfl, ⟨hK.1, Nat.lt_of_lt_of_le hK.2 hf.size⟩, fun i hi => (World.cell?_of_block (w := w) (hf.block g hK.2 hK.1)).trans (hx i hi)⟩
theorem Sl.mono (h : Sl w K v xs) (hk : ∀ k, K k → K' k) : Sl w K' v xs := by
  obtain ⟨A, n, c, rfl, hn, hc, hm, hx⟩ := h
  refine ⟨A, n, c, rfl, hn, hc, hm, hx.imp id ?_⟩
  rintro ⟨g, o, rfl, hK, hx⟩
  exact ⟨g, o, rfl, hk g hK, hx⟩

theorem own_ne {base n size g : Nat} {e t : TypeId} {cs : Array Value} {fr : Nat × Nat} (h : w.ownsRow base e size v n xs) (hg : w.heap[g]? = some (.cells cs t fr)) (hne : e ≠ t) : v.ownBlock ≠ some g := by
  rcases h.2 with ⟨rfl, _⟩ | ⟨g', cap, cur, rfl, _, hh, _⟩
  · simp [Value.ownBlock]
  · intro he
    have : g' = g := by simpa [Value.ownBlock] using he
    subst this
    rw [hh] at hg
    injection hg with hg
    injection hg with _ ht
    exact hne ht
theorem own_blk_ne {base n size g : Nat} {e t : TypeId} {cs : Array Value} (h : w.ownsRow base e size v n xs) (hg : Blk w g t cs) (hne : e ≠ t) : v.ownBlock ≠ some g := own_ne h hg hne
theorem Sl.keptTo (h : Sl w K v xs) (hf : ∀ k, K k → w'.heap[k]? = w.heap[k]? ∧ K' k) : Sl w' K' v xs := by
  obtain ⟨A, n, c, rfl, hn, hc, hm, hx⟩ := h
  refine ⟨A, n, c, rfl, hn, hc, hm, hx.imp id ?_⟩
  rintro ⟨g, o, rfl, hK, hx⟩
  exact ⟨g, o, rfl, (hf g hK).2, fun i hi => (World.cell?_of_block (w := w) (hf g hK).1).trans (hx i hi)⟩

/-- Blocks of K that are rows of element type t. -/
def TK (w : World) (K : Nat → Prop) (t : TypeId) (g : Nat) : Prop := K g ∧ ∃ cs fr, w.heap[g]? = some (.cells cs t fr)
theorem TK.kept {t : TypeId} {g : Nat} (h : TK w K t g) (hf : w'.heap[g]? = w.heap[g]?) (hK : K g → K' g) : TK w' K' t g :=
  ⟨hK h.1, by rw [hf]; exact h.2⟩
theorem TK.lt {t : TypeId} {g : Nat} (h : TK w K t g) : g < w.heap.size := by
  obtain ⟨_, cs, fr, hh⟩ := h
  exact lt_heap hh
theorem TK.ne_ {t t' : TypeId} {g g' : Nat} {cs : Array Value} (h : TK w K t g) (h' : Blk w g' t' cs) (hne : t ≠ t') : g ≠ g' := by
  rintro rfl
  obtain ⟨_, cs, fr, hh⟩ := h
  unfold Blk at h'
  rw [hh] at h'
  injection h' with h'
  injection h' with _ ht
  exact hne ht

/-- A slice of the call's own, that may be written: its row's block is known whole. -/
def OSl (w : World) (K : Nat → Prop) (e : TypeId) (v : Value) (xs : List Value) : Prop :=
  ∃ A n c, v = .slice A n c ∧ n = xs.length ∧ n ≤ c ∧ c ≤ 9223372036854775807 ∧
    ((A = none ∧ c = 0) ∨ ∃ g o cur, A = some ⟨g, o, none⟩ ∧ K g ∧ Blk w g e cur ∧ o + c ≤ cur.size ∧ ∀ i (h : i < xs.length), cur[o + i]? = some xs[i])
variable {e : TypeId}
theorem OSl.of_own {base n : Nat} (h : w.ownsRow base e 1 v n xs) (hK : ∀ g, v.ownBlock = some g → K g) : OSl w K e v xs := by
  obtain ⟨h1, h2⟩ := h
  rcases h2 with ⟨rfl, rfl⟩ | ⟨g, cap, cur, rfl, hb, hh, hn, hm, hs, ht⟩
  · exact ⟨none, 0, 0, rfl, by omega, Nat.le_refl _, by omega, Or.inl ⟨rfl, rfl⟩⟩
  · refine ⟨_, n, cap, rfl, by omega, hn, hm, Or.inr ⟨g, 0, cur, rfl, hK g rfl, hh, by omega, fun i hi => ?_⟩⟩
    subst ht
    simp at hi ⊢
theorem OSl.kept (h : OSl w K e v xs) (hf : ∀ k, K k → w'.heap[k]? = w.heap[k]? ∧ K' k) : OSl w' K' e v xs := by
  obtain ⟨A, n, c, rfl, hn, hc, hm, hx⟩ := h
  refine ⟨A, n, c, rfl, hn, hc, hm, hx.imp id ?_⟩
  rintro ⟨g, o, cur, rfl, hK, hg, hx⟩
  exact ⟨g, o, cur, rfl, (hf g hK).2, (hf g hK).1.trans hg, hx⟩
theorem OSl.kept' {b : Nat} {t : TypeId} {cs : Array Value} (h : OSl w K e v xs) (hb : Blk w b t cs) (hne : e ≠ t) (i : Nat) (u : Value) : OSl (w.setCell ⟨b, i, none⟩ u) K e v xs := by
  obtain ⟨A, n, c, rfl, hn, hc, hm, hx⟩ := h
  refine ⟨A, n, c, rfl, hn, hc, hm, hx.imp id ?_⟩
  rintro ⟨g, o, cur, rfl, hK, hg, hx⟩
  exact ⟨g, o, cur, rfl, hK, hg.far (hg.ne_ hb hne) u, hx⟩
theorem OSl.apart {K2 : Nat → Prop} (h : OSl w K e v xs) (hk : ∀ k, K k → ¬ K2 k) : Sl w (Apart w K2) v xs := by
  obtain ⟨A, n, c, rfl, hn, hc, hm, hx⟩ := h
  refine ⟨A, n, c, rfl, hn, hc, hm, ?_⟩
  rcases hx with ⟨rfl, rfl⟩ | ⟨g, o, cur, rfl, hK, hg, hs, hx⟩
  · exact Or.inl (by omega)
  · exact Or.inr ⟨g, o, rfl, ⟨hk g hK, hg.lt⟩, fun i hi => (hg.cell _).trans (hx i hi)⟩
theorem OSl.sl (h : OSl w K e v xs) : Sl w (TK w K e) v xs := by
  obtain ⟨A, n, c, rfl, hn, hc, hm, hx⟩ := h
  refine ⟨A, n, c, rfl, hn, hc, hm, ?_⟩
  rcases hx with ⟨rfl, rfl⟩ | ⟨g, o, cur, rfl, hK, hg, hs, hx⟩
  · exact Or.inl (by omega)
  · exact Or.inr ⟨g, o, rfl, ⟨hK, _, _, hg⟩, fun i hi => (hg.cell _).trans (hx i hi)⟩
end

theorem own_form {w : World} {base n size : Nat} {e : TypeId} {v : Value} {xs : List Value} (h : w.ownsRow base e size v n xs) : ∃ A c, v = .slice A n c ∧ n ≤ c ∧ c ≤ 9223372036854775807 := by
  rcases h.2 with ⟨rfl, rfl⟩ | ⟨g, cap, cur, rfl, _, _, hn, hc, _⟩
  · exact ⟨none, 0, rfl, Nat.le_refl _, by omega⟩
  · exact ⟨_, cap, rfl, hn, hc⟩
/-- 's[:h]', 's[l:]' of any slice whose elements take sz cells: to be laid ahead of a walk. -/
theorem run_take {P : Program} {t e sz : Nat} (ht : P.underlying t = some (.slice e)) (hz : ∀ w, (sizeOf e).run P w = .ok sz w) (A : Option Addr) (len cap : Nat) (h : Int) (h0 : 0 ≤ h) (h1 : h ≤ cap) (w : World) :
    (Instr.slice t (.slice A len cap) none (some (.int .i64 h)) none).run P w = .ok (.slice A h.toNat cap) w := by
  have he : P.elem t = e := by simp [Program.elem, ht]
  rw [run_slice_h w t A len cap (by rw [he]; exact ht) .i64 h h0 h1, he, hz]
  cases A <;> simp [Result.andThen, sliced, Addr.add]
theorem run_drop {P : Program} {t e sz : Nat} (ht : P.underlying t = some (.slice e)) (hz : ∀ w, (sizeOf e).run P w = .ok sz w) (A : Option Addr) (len cap : Nat) (l : Int) (h0 : 0 ≤ l) (h1 : l ≤ len) (w : World) :
    (Instr.slice t (.slice A len cap) (some (.int .i64 l)) none none).run P w = .ok (.slice (if cap = l.toNat then A else A.map (·.add (l.toNat * sz))) (len - l.toNat) (cap - l.toNat)) w := by
  have he : P.elem t = e := by simp [Program.elem, ht]
  rw [run_slice_l w t A len cap (by rw [he]; exact ht) .i64 l h0 h1, he, hz]
  simp [Result.andThen, sliced]
/-- The first k elements of a row of the call's own: 's[:k]'. -/
theorem own_take {w : World} {base n sz k c : Nat} {e : TypeId} {A : Option Addr} {xs : List Value} (h : w.ownsRow base e sz (.slice A n c) n xs) (hk : k ≤ n) : w.ownsRow base e sz (.slice A k c) k (xs.take (k * sz)) := by
  obtain ⟨h1, h2⟩ := h
  refine ⟨by rw [List.length_take, h1]; exact Nat.min_eq_left (Nat.mul_le_mul_right _ hk), ?_⟩
  rcases h2 with ⟨he, h0⟩ | ⟨g, cap, cur, he, hb, hh, hn, hm, hs, ht⟩
  · obtain ⟨rfl, rfl, rfl⟩ := he
    obtain rfl : k = 0 := by omega
    exact .inl ⟨rfl, rfl⟩
  · injection he with e1 e2 e3
    subst e1 e3
    exact .inr ⟨g, c, cur, rfl, hb, hh, by omega, hm, hs, by rw [← ht, List.take_take, Nat.min_eq_left (Nat.mul_le_mul_right _ hk)]⟩
theorem own_at {w : World} {base n sz c : Nat} {e : TypeId} {A : Option Addr} {xs : List Value} (h : w.ownsRow base e sz (.slice A n c) n xs) (i : Nat) (hi : i < xs.length) : ∃ g, A = some ⟨g, 0, none⟩ ∧ w.cell? ⟨g, i, none⟩ = some xs[i] := by
  rcases h.2 with ⟨he, h0⟩ | ⟨g, cap, cur, he, hb, hh, hn, hm, hs, ht⟩
  · have := h.1; subst h0; simp at this; subst this; simp at hi
  · injection he with e1 e2 e3
    refine ⟨g, e1, ?_⟩
    rw [cell_of_row w g _ cur e (0, 0) hh, ← Array.getElem?_toList]
    have h3 : (cur.toList.take (n * sz))[i]? = some xs[i] := by rw [ht]; exact List.getElem?_eq_getElem hi
    rw [List.getElem?_take] at h3
    split at h3
    · exact h3
    · cases h3
theorem own_blk {w : World} {base n sz : Nat} {e : TypeId} {v : Value} {xs : List Value} (h : w.ownsRow base e sz v n xs) (g : Nat) (hg : v.ownBlock = some g) : ∃ cs, Blk w g e cs := by
  rcases h.2 with ⟨rfl, h0⟩ | ⟨g', cap, cur, rfl, hb, hh, _⟩
  · cases hg
  · cases hg; exact ⟨cur, hh⟩
theorem own_new0 {w : World} {base g : Nat} {e : TypeId} (hg : w.heap.size = g) (hb : base ≤ w.heap.size) : (w.alloc (.cells #[] e)).ownsRow base e 1 (.slice (some ⟨g, 0, none⟩) 0 0) 0 [] := by
  subst hg
  exact World.ownsRow_made _ _ _ hb (Nat.zero_le _) rfl
theorem Sl.drop {w : World} {K : Nat → Prop} {A : Option Addr} {n c : Nat} {xs : List Value} (h : Sl w K (.slice A n c) xs) (q : Nat) (hq : q ≤ n) : Sl w K (.slice (if c = q then A else A.map (·.add q)) (n - q) (c - q)) (xs.drop q) := by
  obtain ⟨A', n', c', he, hn, hc, hm, hx⟩ := h
  cases he
  refine ⟨_, _, _, rfl, by simp; omega, by omega, by omega, ?_⟩
  by_cases h0 : n - q = 0
  · exact .inl h0
  · obtain ⟨g, o, rfl, hK, hx⟩ := hx.resolve_left (by omega)
    refine .inr ⟨g, o + q, ?_, hK, fun i hi => ?_⟩
    · rw [if_neg (by omega)]
      show some ((⟨g, o, none⟩ : Addr).add q) = _
      unfold Addr.add; split
      · subst_vars; rfl
      · rfl
    · simp at hi
      have := hx (q + i) (by omega)
      rw [Nat.add_assoc, this]; simp
theorem own_new1 {w : World} {base g : Nat} {e : TypeId} {x : Value} (hg : w.heap.size = g) (hb : base ≤ w.heap.size) : (w.alloc (.cells #[x] e)).ownsRow base e 1 (.slice (some ⟨g, 0, none⟩) 1 1) 1 [x] := by
  subst hg
  exact ⟨rfl, .inr ⟨_, 1, #[x], rfl, hb, heap_alloc_new w _, Nat.le_refl _, by unfold maxLen; omega, rfl, rfl⟩⟩
/-- append onto a row of the call's own of whatever a slice holds, nil or not. -/
theorem wp_append_sl {P : Program} {w : World} {o : Oper} {a : Act} {C : Act → World → Prop} {Q : Exit → Act → World → Prop} (s x : Operand) (t : TypeId)
    (ho : o.op = .call { callee := .builtin .append, args := #[s, x], argTypes := #[t, t] })
    (base : Nat) (e : TypeId) (i : TypeInfo) (z : Value) (bytes : Nat) (ht : P.underlying t = some (.slice e)) (hi : P.info? e = some i) (hz : i.zero = some z)
    (hsize : i.size = 1) (hby : i.bytes = bytes) (hzs : z.cells.size = 1)
    (v : Value) (n : Nat) (xs : List Value) (hs : a.eval s = v) (hown : w.ownsRow base e 1 v n xs) (K : Nat → Prop) (u : Value) (news : List Value) (hx : a.eval x = u) (hsl : Sl w K u news) (h1 : ∀ u ∈ news, u.oneCell' = true)
    (h63 : n + news.length ≤ maxLen) (hbytes : (n + news.length) * bytes ≤ 140737488355328) (hbase : base ≤ w.heap.size)
    (h : ∀ A' N c' w', Hid (N = n + news.length) → N ≤ c' → c' ≤ 9223372036854775807 → w'.ownsRow base e 1 (.slice A' N c') N (xs ++ news) → w.grownBy w' v.ownBlock → ((Value.slice A' N c').ownBlock = v.ownBlock ∨ (Value.slice A' N c').ownBlock = some w.heap.size) → C (a.put o.dst (.slice A' N c')) w') : o.wp P a w C Q := by
  obtain ⟨A, m, c, rfl, hm, hc, hcm, hxs⟩ := hsl
  cases A with
  | none =>
    have hm0 : m = 0 := hxs.elim id fun ⟨_, _, h, _⟩ => by cases h
    have hnews : news = [] := List.eq_nil_of_length_eq_zero (by omega)
    subst hm0; subst hnews
    have hr : (Builtin.append_ #[t, t] o.type #[v, .slice none 0 c]).run P w = .ok v w := by
      rcases hown.2 with ⟨rfl, rfl⟩ | ⟨g, cap, cur, rfl, hb, hg, hn, hcap, hcs, htk⟩
      · simp [Builtin.append_, run_underlying ht, sizeOf, typeInfo, hi, Builtin.lenOf, Builtin.firstCells]
      · simp [Builtin.append_, run_underlying ht, sizeOf, typeInfo, hi, Builtin.lenOf, Builtin.firstCells, storeCells, hn]
    obtain ⟨A1, c1, rfl, hc1, hc2⟩ := own_form hown
    have hfin := h A1 n c1 w (Lib.hid (by simp)) hc1 hc2 (by simpa using hown) ⟨rfl, rfl, rfl, Nat.le_refl _, fun _ _ _ => rfl⟩ (.inl rfl)
    unfold Oper.wp execOp
    simp only [ho, resolve, invoke, builtin, Sem.run_bind, Sem.run_pure, Result.andThen_ok, List.map_toArray, List.map_cons, List.map_nil, hs, hx, hr]
    exact hfin
  | some ad =>
    have hnews : ∀ (j : Nat) (u : Value), news[j]? = some u → w.cell? (ad.add j) = some u := by
      intro j u hu
      obtain ⟨hj, rfl⟩ := List.getElem?_eq_some_iff.1 hu
      rcases hxs with h0 | ⟨g, o, h, _, h2⟩
      · omega
      · cases h
        rw [← h2 j hj]
        unfold Addr.add; split
        · subst_vars; rfl
        · rfl
    subst hm
    obtain ⟨v', w', hr, h2, h3, _, h5⟩ := run_append_own_at (P := P) w base t o.type e i z 1 bytes ht hi hz hsize hby hzs (by decide) v n xs hown ad news.length c news (by simp) hnews h1 h63 hbytes hbase
    unfold Oper.wp execOp
    simp only [ho, resolve, invoke, builtin, Sem.run_bind, Sem.run_pure, Result.andThen_ok, List.map_toArray, List.map_cons, List.map_nil, hs, hx, hr]
    obtain ⟨A1, c1, rfl, hc1, hc2⟩ := own_form h2
    exact h A1 _ c1 w' (Lib.hid rfl) hc1 hc2 h2 h3 h5
theorem wpList_append_sl {P : Program} {w : World} {ops : Array Oper} {rest : List Oper} {o : Oper} {a : Act} {Q : Exit → Act → World → Prop} (hgd : o.guard = none) (s x : Operand) (t : TypeId)
    (ho : o.op = .call { callee := .builtin .append, args := #[s, x], argTypes := #[t, t] })
    (base : Nat) (e : TypeId) (i : TypeInfo) (z : Value) (bytes : Nat) (ht : P.underlying t = some (.slice e)) (hi : P.info? e = some i) (hz : i.zero = some z)
    (hsize : i.size = 1) (hby : i.bytes = bytes) (hzs : z.cells.size = 1)
    (v : Value) (n : Nat) (xs : List Value) (hs : a.eval s = v) (hown : w.ownsRow base e 1 v n xs) (K : Nat → Prop) (u : Value) (news : List Value) (hx : a.eval x = u) (hsl : Sl w K u news) (h1 : ∀ u ∈ news, u.oneCell' = true)
    (h63 : n + news.length ≤ maxLen) (hbytes : (n + news.length) * bytes ≤ 140737488355328) (hbase : base ≤ w.heap.size)
    (h : ∀ A' N c' w', Hid (N = n + news.length) → N ≤ c' → c' ≤ 9223372036854775807 → w'.ownsRow base e 1 (.slice A' N c') N (xs ++ news) → w.grownBy w' v.ownBlock → ((Value.slice A' N c').ownBlock = v.ownBlock ∨ (Value.slice A' N c').ownBlock = some w.heap.size) → wpList P ops Q rest (a.put o.dst (.slice A' N c')) w') : wpList P ops Q (o :: rest) a w :=
  wpList_plain hgd fun _ hK => wp_append_sl s x t ho base e i z bytes ht hi hz hsize hby hzs v n xs hs hown K u news hx hsl h1 h63 hbytes hbase fun A' N c' w' e1 e2 e3 h2 h3 h4 => hK _ _ (h A' N c' w' e1 e2 e3 h2 h3 h4)
theorem step_append_sl {P : Program} {w : World} {ops : Array Oper} {o : Oper} {a : Act} {C : Act → World → Prop} {Q : Exit → Act → World → Prop} {E : Prop} (hgd : o.guard = none) (s x : Operand) (t : TypeId)
    (ho : o.op = .call { callee := .builtin .append, args := #[s, x], argTypes := #[t, t] })
    (base : Nat) (e : TypeId) (i : TypeInfo) (z : Value) (bytes : Nat) (ht : P.underlying t = some (.slice e)) (hi : P.info? e = some i) (hz : i.zero = some z)
    (hsize : i.size = 1) (hby : i.bytes = bytes) (hzs : z.cells.size = 1)
    (v : Value) (n : Nat) (xs : List Value) (hs : a.eval s = v) (hown : w.ownsRow base e 1 v n xs) (K : Nat → Prop) (u : Value) (news : List Value) (hx : a.eval x = u) (hsl : Sl w K u news) (h1 : ∀ u ∈ news, u.oneCell' = true)
    (h63 : n + news.length ≤ maxLen) (hbytes : (n + news.length) * bytes ≤ 140737488355328) (hbase : base ≤ w.heap.size)
    (h : ∀ A' N c' w', Hid (N = n + news.length) → N ≤ c' → c' ≤ 9223372036854775807 → w'.ownsRow base e 1 (.slice A' N c') N (xs ++ news) → w.grownBy w' v.ownBlock → ((Value.slice A' N c').ownBlock = v.ownBlock ∨ (Value.slice A' N c').ownBlock = some w.heap.size) → C (a.put o.dst (.slice A' N c')) w') :
    if Region.wanted o (yielded ops a.tmps) = true then Oper.wp P o a w C Q else E := by
  have hw : Region.wanted o (yielded ops a.tmps) = true := by simp [Region.wanted, hgd]
  rw [if_pos hw]
  exact wp_append_sl s x t ho base e i z bytes ht hi hz hsize hby hzs v n xs hs hown K u news hx hsl h1 h63 hbytes hbase h

/-- A slice value whose elements take sz cells each reads as the cells xs, in blocks of K. -/
def SlZ (w : World) (K : Nat → Prop) (sz : Nat) (v : Value) (xs : List Value) : Prop :=
  ∃ A n c, v = .slice A n c ∧ xs.length = n * sz ∧ n ≤ c ∧ c ≤ 9223372036854775807 ∧
    (n = 0 ∨ ∃ g o, A = some ⟨g, o, none⟩ ∧ K g ∧ ∀ i (h : i < xs.length), w.cell? ⟨g, o + i, none⟩ = some xs[i])
theorem SlZ.nil (w : World) (K : Nat → Prop) (sz : Nat) : SlZ w K sz (.slice none 0 0) [] := ⟨none, 0, 0, rfl, by simp, Nat.le_refl _, by omega, .inl rfl⟩
theorem SlZ.keptTo {w w' : World} {K K' : Nat → Prop} {sz : Nat} {v : Value} {xs : List Value} (h : SlZ w K sz v xs) (hf : ∀ k, K k → w'.heap[k]? = w.heap[k]? ∧ K' k) : SlZ w' K' sz v xs := by
  obtain ⟨A, n, c, rfl, hn, hc, hm, hx⟩ := h
  refine ⟨A, n, c, rfl, hn, hc, hm, hx.imp id ?_⟩
  rintro ⟨g, o, rfl, hK, hx⟩
  exact ⟨g, o, rfl, (hf g hK).2, fun i hi => (World.cell?_of_block (w := w) (hf g hK).1).trans (hx i hi)⟩
theorem SlZ.of_own {w : World} {base n sz : Nat} {e : TypeId} {v : Value} {xs : List Value} {K : Nat → Prop} (h : w.ownsRow base e sz v n xs) (hK : ∀ g, v.ownBlock = some g → K g) : SlZ w K sz v xs := by
  obtain ⟨h1, h2⟩ := h
  rcases h2 with ⟨rfl, rfl⟩ | ⟨g, cap, cur, rfl, hb, hh, hn, hm, hs, ht⟩
  · exact ⟨none, 0, 0, rfl, by simpa using h1, Nat.le_refl _, by omega, Or.inl rfl⟩
  · refine ⟨_, n, cap, rfl, h1, hn, hm, Or.inr ⟨g, 0, rfl, hK g rfl, fun i hi => ?_⟩⟩
    rw [cell_of_row w g _ cur e (0, 0) hh, ← Array.getElem?_toList, Nat.zero_add]
    have h3 : (cur.toList.take (n * sz))[i]? = some xs[i] := by rw [ht]; exact List.getElem?_eq_getElem hi
    rw [List.getElem?_take] at h3
    split at h3
    · exact h3
    · cases h3
theorem wp_append_slz {P : Program} {w : World} {o : Oper} {a : Act} {C : Act → World → Prop} {Q : Exit → Act → World → Prop} (s x : Operand) (t : TypeId)
    (ho : o.op = .call { callee := .builtin .append, args := #[s, x], argTypes := #[t, t] })
    (base : Nat) (e : TypeId) (i : TypeInfo) (z : Value) (sz bytes : Nat) (ht : P.underlying t = some (.slice e)) (hi : P.info? e = some i) (hz : i.zero = some z)
    (hsize : i.size = sz) (hby : i.bytes = bytes) (hzs : z.cells.size = sz) (hsz : 0 < sz)
    (v : Value) (n : Nat) (xs : List Value) (hs : a.eval s = v) (hown : w.ownsRow base e sz v n xs) (K : Nat → Prop) (u : Value) (m : Nat) (news : List Value) (hx : a.eval x = u) (hsl : SlZ w K sz u news) (hl : news.length = m * sz) (h1 : ∀ u ∈ news, u.oneCell' = true)
    (h63 : n + m ≤ maxLen) (hbytes : (n + m) * bytes ≤ 140737488355328) (hbase : base ≤ w.heap.size)
    (h : ∀ A' N c' w', Hid (N = n + m) → N ≤ c' → c' ≤ 9223372036854775807 → w'.ownsRow base e sz (.slice A' N c') N (xs ++ news) → w.grownBy w' v.ownBlock → ((Value.slice A' N c').ownBlock = v.ownBlock ∨ (Value.slice A' N c').ownBlock = some w.heap.size) → C (a.put o.dst (.slice A' N c')) w') : o.wp P a w C Q := by
  obtain ⟨A, m', c, rfl, hm, hc, hcm, hxs⟩ := hsl
  have hmm : m' = m := Nat.eq_of_mul_eq_mul_right hsz (by omega)
  subst hmm
  cases A with
  | none =>
    have hm0 : m' = 0 := hxs.elim id fun ⟨_, _, h, _⟩ => by cases h
    have hnews : news = [] := List.eq_nil_of_length_eq_zero (by rw [hl, hm0]; simp)
    subst hm0; subst hnews
    have hr : (Builtin.append_ #[t, t] o.type #[v, .slice none 0 c]).run P w = .ok v w := by
      rcases hown.2 with ⟨rfl, rfl⟩ | ⟨g, cap, cur, rfl, hb, hg, hn, hcap, hcs, htk⟩
      · simp [Builtin.append_, run_underlying ht, sizeOf, typeInfo, hi, Builtin.lenOf, Builtin.firstCells]
      · simp [Builtin.append_, run_underlying ht, sizeOf, typeInfo, hi, Builtin.lenOf, Builtin.firstCells, storeCells, hn]
    obtain ⟨A1, c1, rfl, hc1, hc2⟩ := own_form hown
    have hfin := h A1 n c1 w (Lib.hid (by simp)) hc1 hc2 (by simpa using hown) ⟨rfl, rfl, rfl, Nat.le_refl _, fun _ _ _ => rfl⟩ (.inl rfl)
    unfold Oper.wp execOp
    simp only [ho, resolve, invoke, builtin, Sem.run_bind, Sem.run_pure, Result.andThen_ok, List.map_toArray, List.map_cons, List.map_nil, hs, hx, hr]
    exact hfin
  | some ad =>
    have hnews : ∀ (j : Nat) (u : Value), news[j]? = some u → w.cell? (ad.add j) = some u := by
      intro j u hu
      obtain ⟨hj, rfl⟩ := List.getElem?_eq_some_iff.1 hu
      rcases hxs with h0 | ⟨g, o, h, _, h2⟩
      · rw [hl, h0] at hj; omega
      · cases h
        rw [← h2 j hj]
        unfold Addr.add; split
        · subst_vars; rfl
        · rfl
    obtain ⟨v', w', hr, h2, h3, _, h5⟩ := run_append_own_at (P := P) w base t o.type e i z sz bytes ht hi hz hsize hby hzs hsz v n xs hown ad m' c news hl hnews h1 h63 hbytes hbase
    unfold Oper.wp execOp
    simp only [ho, resolve, invoke, builtin, Sem.run_bind, Sem.run_pure, Result.andThen_ok, List.map_toArray, List.map_cons, List.map_nil, hs, hx, hr]
    obtain ⟨A1, c1, rfl, hc1, hc2⟩ := own_form h2
    exact h A1 _ c1 w' (Lib.hid rfl) hc1 hc2 h2 h3 h5
theorem wpList_append_slz {P : Program} {w : World} {ops : Array Oper} {rest : List Oper} {o : Oper} {a : Act} {Q : Exit → Act → World → Prop} (hgd : o.guard = none) (s x : Operand) (t : TypeId)
    (ho : o.op = .call { callee := .builtin .append, args := #[s, x], argTypes := #[t, t] })
    (base : Nat) (e : TypeId) (i : TypeInfo) (z : Value) (sz bytes : Nat) (ht : P.underlying t = some (.slice e)) (hi : P.info? e = some i) (hz : i.zero = some z)
    (hsize : i.size = sz) (hby : i.bytes = bytes) (hzs : z.cells.size = sz) (hsz : 0 < sz)
    (v : Value) (n : Nat) (xs : List Value) (hs : a.eval s = v) (hown : w.ownsRow base e sz v n xs) (K : Nat → Prop) (u : Value) (m : Nat) (news : List Value) (hx : a.eval x = u) (hsl : SlZ w K sz u news) (hl : news.length = m * sz) (h1 : ∀ u ∈ news, u.oneCell' = true)
    (h63 : n + m ≤ maxLen) (hbytes : (n + m) * bytes ≤ 140737488355328) (hbase : base ≤ w.heap.size)
    (h : ∀ A' N c' w', Hid (N = n + m) → N ≤ c' → c' ≤ 9223372036854775807 → w'.ownsRow base e sz (.slice A' N c') N (xs ++ news) → w.grownBy w' v.ownBlock → ((Value.slice A' N c').ownBlock = v.ownBlock ∨ (Value.slice A' N c').ownBlock = some w.heap.size) → wpList P ops Q rest (a.put o.dst (.slice A' N c')) w') : wpList P ops Q (o :: rest) a w :=
  wpList_plain hgd fun _ hK => wp_append_slz s x t ho base e i z sz bytes ht hi hz hsize hby hzs hsz v n xs hs hown K u m news hx hsl hl h1 h63 hbytes hbase fun A' N c' w' e1 e2 e3 h2 h3 h4 => hK _ _ (h A' N c' w' e1 e2 e3 h2 h3 h4)

theorem step_append_slz {P : Program} {w : World} {ops : Array Oper} {o : Oper} {a : Act} {C : Act → World → Prop} {Q : Exit → Act → World → Prop} {E : Prop} (hw : Region.wanted o (yielded ops a.tmps) = true) (s x : Operand) (t : TypeId)
    (ho : o.op = .call { callee := .builtin .append, args := #[s, x], argTypes := #[t, t] })
    (base : Nat) (e : TypeId) (i : TypeInfo) (z : Value) (sz bytes : Nat) (ht : P.underlying t = some (.slice e)) (hi : P.info? e = some i) (hz : i.zero = some z)
    (hsize : i.size = sz) (hby : i.bytes = bytes) (hzs : z.cells.size = sz) (hsz : 0 < sz)
    (v : Value) (n : Nat) (xs : List Value) (hs : a.eval s = v) (hown : w.ownsRow base e sz v n xs) (K : Nat → Prop) (u : Value) (m : Nat) (news : List Value) (hx : a.eval x = u) (hsl : SlZ w K sz u news) (hl : news.length = m * sz) (h1 : ∀ u ∈ news, u.oneCell' = true)
    (h63 : n + m ≤ maxLen) (hbytes : (n + m) * bytes ≤ 140737488355328) (hbase : base ≤ w.heap.size)
    (h : ∀ A' N c' w', Hid (N = n + m) → N ≤ c' → c' ≤ 9223372036854775807 → w'.ownsRow base e sz (.slice A' N c') N (xs ++ news) → w.grownBy w' v.ownBlock → ((Value.slice A' N c').ownBlock = v.ownBlock ∨ (Value.slice A' N c').ownBlock = some w.heap.size) → C (a.put o.dst (.slice A' N c')) w') :
    if Region.wanted o (yielded ops a.tmps) = true then Oper.wp P o a w C Q else E := by
  rw [if_pos hw]
  exact wp_append_slz s x t ho base e i z sz bytes ht hi hz hsize hby hzs hsz v n xs hs hown K u m news hx hsl hl h1 h63 hbytes hbase h
theorem SlZ.blk2 (w : World) (x y : Value) (t : TypeId) : SlZ (w.alloc (.cells #[x, y] t)) (fun k => k = w.heap.size) 2 (.slice (some ⟨w.heap.size, 0, none⟩) 1 1) [x, y] :=
  ⟨_, _, _, rfl, rfl, Nat.le_refl _, by omega, .inr ⟨_, 0, rfl, rfl, fun i hi => by
    have hc := fun i => cell_of_row _ w.heap.size i _ t (0, 0) (heap_alloc_new w (.cells #[x, y] t))
    rw [Nat.zero_add, hc i]
    simp⟩⟩
theorem heap_setRow (w : World) (g k : Nat) (cs : Array Value) (h : k ≠ g) : (w.setRow g cs).heap[k]? = w.heap[k]? := by
  simp only [World.setRow, Array.getElem?_modify]
  rw [if_neg (fun e => h e.symm)]
theorem Blk.setRow {w : World} {g : Nat} {t : TypeId} {cs : Array Value} (h : Blk w g t cs) (cs' : Array Value) : Blk (w.setRow g cs') g t cs' := setRow_heap w g cs cs' t (0, 0) h
theorem Frm.setRow {K : Nat → Prop} {w w1 : World} (h : Frm K w w1) {g : Nat} (hg : K g ∨ w.heap.size ≤ g) (cs : Array Value) : Frm K w (w1.setRow g cs) :=
  ⟨h.os, h.tape, h.output, by simpa [World.setRow] using h.size, fun k hl hn => (heap_setRow _ _ _ _ (by rintro rfl; exact hg.elim hn (fun hh => absurd hl (by omega)))).trans (h.block k hl hn)⟩
/-- 'clear' of a row that is the whole of its block. -/
theorem run_clear_row {P : Program} (w : World) (t e ty : TypeId) (z : Value) (ht : P.underlying t = some (.slice e)) (hv : ∀ w, (zeroValue e).run P w = .ok z w) (g n c : Nat) (et : TypeId) (cur : Array Value) (hg : Blk w g et cur) (hn : 0 < n) (hs : n * z.cells.size = cur.size) (h1 : ∀ v ∈ z.cells.toList, v.oneCell' = true) :
    (Builtin.clear_ #[t] ty #[.slice (some ⟨g, 0, none⟩) n c]).run P w = .ok (.tuple #[]) (w.setRow g (Builtin.zeroCells z.cells n)) := by
  have hsz : (Builtin.zeroCells z.cells n).toList.length = cur.size := by simp [Builtin.zeroCells, hs]
  have hst := run_storeCells_at (P := P) g 0 et (Builtin.zeroCells z.cells n).toList 0 cur w hg (by omega) (fun v hv' => by
    simp only [Builtin.zeroCells, Array.toList_map, List.mem_map] at hv'
    obtain ⟨i, hi, rfl⟩ := hv'
    have hi' : i < n * z.cells.size := by simpa using hi
    have hp : 0 < z.cells.size := by
      rcases Nat.eq_zero_or_pos z.cells.size with h0 | h0
      · rw [h0] at hi'; omega
      · exact h0
    have hlt : i % z.cells.size < z.cells.size := Nat.mod_lt _ hp
    rw [getElem!_pos z.cells _ hlt]
    exact h1 _ (by simp))
  rw [show (0 + 0 + (Builtin.zeroCells z.cells n).toList.length) = cur.toList.length from by rw [hsz]; simp, List.drop_length] at hst
  simp only [Nat.add_zero, List.take_zero, List.nil_append, List.append_nil, Array.toArray_toList] at hst
  obtain ⟨m, rfl⟩ : ∃ m, n = m + 1 := ⟨n - 1, by omega⟩
  simp [Builtin.clear_, run_underlying ht, hv, hst]
/-- 'string(b)'. -/
theorem run_conv {P : Program} {src e dst : TypeId} (hs : P.underlying src = some (.slice e)) (he : P.underlying e = some (.int .u8)) (hd : P.underlying dst = some .string) {w : World} {K : Nat → Prop} {v : Value} {l : List UInt8} (h : Sl w K v (bv l)) :
    (convert src dst v).run P w = .ok (.string ⟨l.toArray⟩) w := by
  obtain ⟨A, n, c, rfl, hn, hc, hm, hx⟩ := h
  rw [bv_length] at hn
  cases A with
  | none =>
    have h0 : n = 0 := hx.elim id fun ⟨_, _, h, _⟩ => by cases h
    have hl : l = [] := List.eq_nil_of_length_eq_zero (by omega)
    subst hl
    exact run_convert_bytes_nil w src e hs he n c dst hd
  | some a =>
    have hl : (loadCells a n).run P w = .ok ((l.map fun c => ((c.toNat : Nat) : Int)).map (Value.int .u8)).toArray w := by
      rcases hx with h0 | ⟨g, o, h, _, hcs⟩
      · subst h0
        have hl : l = [] := List.eq_nil_of_length_eq_zero (by omega)
        subst hl
        simp [loadCells, loadCellsFrom]
      · cases h
        have := run_loadCells_list (P := P) w ⟨g, o, none⟩ (bv l) (fun j v hj => by
          obtain ⟨hj1, rfl⟩ := List.getElem?_eq_some_iff.1 hj
          rw [← hcs j hj1]
          unfold Addr.add; split
          · subst_vars; rfl
          · rfl)
        rw [bv_length, ← hn] at this
        rw [this]
        simp [bv]
    rw [run_convert_bytes_string w src dst e _ n c hs he hd, run_bytesToString w _ n c _ hl, foldl_push_bytes]
    have e1 : (l.map fun c => ((c.toNat : Nat) : Int)).map (fun n : Int => UInt8.ofNat n.toNat) = l := by
      rw [List.map_map]
      conv => rhs; rw [← List.map_id l]
      exact List.map_congr_left fun c _ => by simp
    rw [e1]
    simp [ByteArray.empty, ByteArray.emptyWithCapacity]
    rfl

theorem run_convN {P : Program} {src e dst : TypeId} (hs : P.underlying src = some (.slice e)) (he : P.underlying e = some (.int .u8)) (hd : P.underlying dst = some .string) {w : World} {K : Nat → Prop} {v : Value} {l : List UInt8} (h : Sl w K v (bv l)) (n : Nat) :
    (convert src dst v).run P (w.drewN n) = .ok (.string ⟨l.toArray⟩) (w.drewN n) := run_conv hs he hd (K := K) (w := w.drewN n) h
/-- A slice of byte slices reads as L: the row in blocks of K, the bytes in blocks of K'. -/
def Each (w : World) (K' : Nat → Prop) (vs : List Value) (L : List (List UInt8)) : Prop :=
  vs.length = L.length ∧ ∀ (i : Nat) (v : Value) (l : List UInt8), vs[i]? = some v → L[i]? = some l → Sl w K' v (bv l)
def tot (L : List (List UInt8)) : Nat := (L.map List.length).sum
@[simp] theorem tot_nil : tot [] = 0 := rfl
@[simp] theorem tot_cons (l : List UInt8) (L : List (List UInt8)) : tot (l :: L) = l.length + tot L := by simp [tot]
section
variable {w w' : World} {K K' : Nat → Prop} {vs : List Value} {L : List (List UInt8)}
theorem Each.kept (h : Each w K vs L) (hf : ∀ k, K k → w'.heap[k]? = w.heap[k]? ∧ K' k) : Each w' K' vs L :=
  ⟨h.1, fun i v l hv hl => (h.2 i v l hv hl).keptTo hf⟩
theorem Each.tail {v : Value} {l : List UInt8} (h : Each w K (v :: vs) (l :: L)) : Each w K vs L :=
  ⟨by simpa using h.1, fun i v' l' hv hl => h.2 (i + 1) v' l' (by simpa using hv) (by simpa using hl)⟩
theorem Each.cons {v : Value} {l : List UInt8} (h : Each w K vs L) (hv : Sl w K v (bv l)) : Each w K (v :: vs) (l :: L) :=
  ⟨by simpa using h.1, fun i v' l' hv' hl => by
    cases i with
    | zero => simp at hv' hl; subst hv' hl; exact hv
    | succ i => exact h.2 i v' l' (by simpa using hv') (by simpa using hl)⟩
theorem Each.snoc {v : Value} {l : List UInt8} (h : Each w K vs L) (hv : Sl w K v (bv l)) : Each w K (vs ++ [v]) (L ++ [l]) :=
  ⟨by simpa using h.1, fun i v' l' hv' hl => by
    rcases Nat.lt_trichotomy i vs.length with hi | hi | hi
    · rw [List.getElem?_append_left hi] at hv'
      rw [List.getElem?_append_left (by rw [← h.1]; exact hi)] at hl
      exact h.2 i v' l' hv' hl
    · rw [List.getElem?_append_right (by omega), hi] at hv'
      rw [List.getElem?_append_right (by rw [← h.1]; omega), hi, h.1] at hl
      simp at hv' hl
      subst hv' hl
      exact hv
    · rw [List.getElem?_append_right (by omega)] at hv'
      rw [List.getElem?_eq_none (by simp; omega)] at hv'
      cases hv'⟩
theorem Each.head {v : Value} {l : List UInt8} (h : Each w K (v :: vs) (l :: L)) : Sl w K v (bv l) := h.2 0 v l rfl rfl
end
end Go.Proofs.Ytnibllkcacalhaa
namespace Go.Proofs.Ytnibllkcacalhaa
open Go.RowKit
structure Er where
  d : Int
  q : Int
  n : Int
deriving DecidableEq
structure Ch where
  row : List Er
  at_ : Int
  sum : Int
  wrong : Int
deriving DecidableEq
structure Pi where
  room : Int
  ins : List Int
  closed : Bool
deriving DecidableEq
/-- May an errand be, of m pipes? -/
def mayB (m : Int) (e : Er) : Bool :=
  if e.d = 1 then decide (0 ≤ e.q) && decide (e.q < m) else if e.d = 2 ∨ e.d = 4 then (e.n == 0) && (decide (0 ≤ e.q) && decide (e.q < m)) else if e.d = 3 then (e.q == 0) else if e.d = 5 then (e.q == 0) && (e.n == 0) else false
def headB (c : Ch) : Bool := decide (c.row.length ≤ 64) && (decide (0 ≤ c.at_) && (decide (c.at_ ≤ c.row.length) && (decide (0 ≤ c.wrong) && decide (c.wrong ≤ 64))))
def rightB (m : Int) (c : Ch) : Bool := headB c && c.row.all (mayB m)
def pipeB (p : Pi) : Bool := decide (1 ≤ p.room) && (decide (p.room ≤ 16) && decide ((p.ins.length : Int) ≤ p.room))
def pipesB (l : List Pi) : Bool := l.all pipeB && decide (l.length ≤ 8)
def overB (c : Ch) : Bool := decide (c.at_ = c.row.length)
/-- Can it be done on that pipe? -/
def canP (d : Int) (p : Pi) : Bool := if d = 1 then p.closed || decide ((p.ins.length : Int) < p.room) else p.closed || decide (0 < p.ins.length)
def canB (e : Er) (l : List Pi) : Bool := if e.d = 1 ∨ e.d = 2 then (match l[e.q.toNat]? with | some p => canP e.d p | none => false) else true
def nextB (c : Ch) (l : List Pi) : Bool := match c.row[c.at_.toNat]? with | some e => canB e l | none => false
def readyB (c : Ch) (l : List Pi) : Bool := pipesB l && (rightB l.length c && (!overB c && nextB c l))
def u32w (x : Int) : Int := IntKind.u32.wrap x
/-- A put, a get: what becomes of the pipe. -/
def putP (x : Int) (p : Pi) : Pi := if p.closed then p else { p with ins := p.ins ++ [u32w x] }
def getP (p : Pi) : Pi := { p with ins := p.ins.drop 1 }
def getS (s : Int) (p : Pi) : Int := match p.ins with | x :: _ => u32w (s * 31 + x + 1) | [] => u32w (s * 31)
def pipeN (e : Er) (c : Ch) (p : Pi) : Pi := if e.d = 1 then putP (c.sum + e.n) p else if e.d = 2 then getP p else if e.d = 4 then { p with closed := true } else p
def choreN (e : Er) (c : Ch) (p : Option Pi) : Ch :=
  if e.d = 1 then { c with at_ := c.at_ + 1, wrong := if (p.map (·.closed)).getD false then c.wrong + 1 else c.wrong }
  else if e.d = 2 then { c with at_ := c.at_ + 1, sum := (p.map (getS c.sum)).getD c.sum }
  else if e.d = 3 then { c with at_ := c.at_ + 1, sum := u32w (c.sum + e.n) }
  else if e.d = 5 then { c with at_ := c.row.length }
  else { c with at_ := c.at_ + 1 }
def pipesN (e : Er) (c : Ch) (l : List Pi) : List Pi := if e.d = 3 ∨ e.d = 5 then l else l.modify e.q.toNat (pipeN e c)
/-- A step. -/
def stepN (c : Ch) (l : List Pi) : Ch × List Pi :=
  if readyB c l then (match c.row[c.at_.toNat]? with | some e => (choreN e c l[e.q.toNat]?, pipesN e c l) | none => (c, l)) else (c, l)
/-- A pipe, and the slice of what is in it. -/
structure Pk where
  v : Value
  p : Pi
def uv (l : List Int) : List Value := l.map (.int .u32)
theorem uv_length (l : List Int) : (uv l).length = l.length := by simp [uv]
theorem uv_one (l : List Int) : ∀ u ∈ uv l, u.oneCell' = true := by
  intro u hu
  obtain ⟨x, -, rfl⟩ := List.mem_map.1 hu
  rfl
def eCells (e : Er) : List Value := [.int .u8 e.d, .int .i64 e.q, .int .u32 e.n]
def pCells (p : Pk) : List Value := [.int .i64 p.p.room, p.v, .bool p.p.closed]
theorem flat3 {α : Type} (f : α → List Value) (hf : ∀ x, (f x).length = 3) (ys : List α) : (ys.flatMap f).length = ys.length * 3 := by
  induction ys with
  | nil => rfl
  | cons y ys ih => rw [List.flatMap_cons, List.length_append, hf, ih, List.length_cons]; omega
theorem flat3_at {α : Type} (f : α → List Value) (hf : ∀ x, (f x).length = 3) (ys : List α) (k j : Nat) (hk : k < ys.length) (hj : j < 3) : (ys.flatMap f)[k * 3 + j]? = (f ys[k])[j]? := by
  induction ys generalizing k with
  | nil => simp at hk
  | cons y ys ih =>
    rw [List.flatMap_cons]
    cases k with
    | zero => rw [List.getElem?_append_left (by rw [hf]; omega)]; simp
    | succ k =>
      rw [List.getElem?_append_right (by rw [hf]; omega), hf, show (k + 1) * 3 + j - 3 = k * 3 + j from by omega, ih k (by simpa using hk)]
      simp
/-- A slice of errands; a slice of pipes. -/
def RAt (w : World) (K : Nat → Prop) (v : Value) (es : List Er) : Prop := SlZ w K 3 v (es.flatMap eCells)
def PAt (w : World) (K : Nat → Prop) (v : Value) (ps : List Pk) : Prop := SlZ w K 3 v (ps.flatMap pCells) ∧ ∀ p ∈ ps, Sl w K p.v (uv p.p.ins)
theorem slz3 {α : Type} {w : World} {K : Nat → Prop} {A : Option Addr} {n c : Nat} (f : α → List Value) (hf : ∀ x, (f x).length = 3) (ys : List α) (h : SlZ w K 3 (.slice A n c) (ys.flatMap f)) :
    n = ys.length ∧ n ≤ c ∧ c ≤ 9223372036854775807 ∧ ∀ i (hi : i < ys.length), ∃ g o, A = some ⟨g, o, none⟩ ∧ K g ∧ ∀ j, j < 3 → w.cell? ⟨g, o + i * 3 + j, none⟩ = (f ys[i])[j]? := by
  obtain ⟨A', n', c', e, hn, hc, hm, hx⟩ := h
  cases e
  have hl := flat3 f hf ys
  refine ⟨by omega, hc, hm, fun i hi => ?_⟩
  obtain ⟨g, o, rfl, hK, hcs⟩ := hx.resolve_left (by omega)
  refine ⟨g, o, rfl, hK, fun j hj => ?_⟩
  rw [← flat3_at f hf ys i j hi hj, Nat.add_assoc, hcs _ (by omega), List.getElem?_eq_getElem]
theorem RAt.cells {w : World} {K : Nat → Prop} {A : Option Addr} {n c : Nat} {es : List Er} (h : RAt w K (.slice A n c) es) :
    n = es.length ∧ n ≤ c ∧ c ≤ 9223372036854775807 ∧ ∀ i (hi : i < es.length), ∃ g o, A = some ⟨g, o, none⟩ ∧ K g ∧ w.cell? ⟨g, o + i * 3, none⟩ = some (.int .u8 es[i].d) ∧ w.cell? ⟨g, o + i * 3 + 1, none⟩ = some (.int .i64 es[i].q) ∧ w.cell? ⟨g, o + i * 3 + 2, none⟩ = some (.int .u32 es[i].n) := by
  obtain ⟨h1, h2, h3, h4⟩ := slz3 eCells (fun _ => rfl) es h
  refine ⟨h1, h2, h3, fun i hi => ?_⟩
  obtain ⟨g, o, e, hK, hc⟩ := h4 i hi
  exact ⟨g, o, e, hK, hc 0 (by omega), hc 1 (by omega), hc 2 (by omega)⟩
theorem PAt.cells {w : World} {K : Nat → Prop} {A : Option Addr} {n c : Nat} {ps : List Pk} (h : PAt w K (.slice A n c) ps) :
    n = ps.length ∧ n ≤ c ∧ c ≤ 9223372036854775807 ∧ ∀ i (hi : i < ps.length), ∃ g o, A = some ⟨g, o, none⟩ ∧ K g ∧ w.cell? ⟨g, o + i * 3, none⟩ = some (.int .i64 ps[i].p.room) ∧ w.cell? ⟨g, o + i * 3 + 1, none⟩ = some ps[i].v ∧ w.cell? ⟨g, o + i * 3 + 2, none⟩ = some (.bool ps[i].p.closed) := by
  obtain ⟨h1, h2, h3, h4⟩ := slz3 pCells (fun _ => rfl) ps h.1
  refine ⟨h1, h2, h3, fun i hi => ?_⟩
  obtain ⟨g, o, e, hK, hc⟩ := h4 i hi
  exact ⟨g, o, e, hK, hc 0 (by omega), hc 1 (by omega), hc 2 (by omega)⟩
theorem RAt.keptTo {w w' : World} {K K' : Nat → Prop} {v : Value} {es : List Er} (h : RAt w K v es) (hf : ∀ q, K q → w'.heap[q]? = w.heap[q]? ∧ K' q) : RAt w' K' v es := SlZ.keptTo (w := w) h hf
theorem PAt.keptTo {w w' : World} {K K' : Nat → Prop} {v : Value} {ps : List Pk} (h : PAt w K v ps) (hf : ∀ q, K q → w'.heap[q]? = w.heap[q]? ∧ K' q) : PAt w' K' v ps :=
  ⟨SlZ.keptTo h.1 hf, fun p hp => (h.2 p hp).keptTo hf⟩
end Go.Proofs.Ytnibllkcacalhaa
namespace Go.Proofs.Ytnibllkcacalhaa
set_option maxRecDepth 100000
open Go.RowKit Go.Shelf
attribute [local go_sem] Oper.semAt_some
def pEnc (x : Pk) : Value := .agg #[.int .i64 x.p.room, x.v, .bool x.p.closed]
theorem each_any (A : Option Addr) (n c : Nat) (w : World) : Calls Try.prog 74 #[.slice A n c] w fun e w' => e = .returned (.func (.func 78) #[] #[.pointer (some ⟨w.heap.size, 0, none⟩)]) ∧ w' = w.alloc (.cells #[.slice A n c] 22) := by
  go_enter Try.func74, Try.ntmps74
  go_wp2
  go_ret
  exact ⟨rfl, rfl⟩
set_option maxRecDepth 100000 in
set_option maxHeartbeats 2000000 in
theorem each1_in {α : Type} (f : α → Pk) (m : Nat) (hm : 1 ≤ m) (l Bs n₀ n c : Nat) (A : Option Addr) (xs : List α) (hreach : n ≤ 1000000) (J Jx : List α → World → Prop) (W : World) (hJ : AbidesFrom W.heap.size J)
    (hY : ∀ pre x W1, J pre W1 → pre.length < n → YieldAt Fence.wide (m - 1) Try.prog l #[pEnc (f x)] W1 fun e W' => (e = .returned (.bool true) ∧ J (pre ++ [x]) W' ∧ Below n₀ W1 W') ∨ (e = .returned (.bool false) ∧ Jx (pre ++ [x]) W'))
    (hBs : W.cell? ⟨Bs, 0, none⟩ = some (.slice A n c)) (hP : PAt W (fun q => q < n₀) (.slice A n c) (xs.map f)) (hn0 : n₀ ≤ W.heap.size) (h0 : J [] W) :
    CallsIn Fence.wide m Try.prog 78 #[.func (.yield l) #[] #[], .pointer (some ⟨Bs, 0, none⟩)] W fun e W' => (∃ v, e = .returned v) ∧ ((∃ ys, ys = xs ∧ J ys W') ∨ (∃ pre, pre <+: xs ∧ Jx pre W')) := by
  refine callsIn_of_wp Try.func78 rfl trivial ?_ rfl
  simp only [Try.ntmps78, List.size_toArray, List.length_cons, List.length_nil, Nat.reduceAdd, Nat.reduceSub, Array.replicate_succ, Array.replicate_zero, List.push_toArray, List.append_toArray, List.nil_append, List.cons_append]
  obtain ⟨hps, hnc, hcm, hcs⟩ := hP.cells
  have HP := Lib.hid (And.intro hps (And.intro hcs (And.intro hP.2 (And.intro hJ (And.intro hY hn0)))))
  clear hps hcs hP hJ hY hn0
  gi_wp2
  gi_loopw [7] (fun i wr => ∃ k : Nat, k ≤ n ∧ i = .int .i64 k ∧ J (xs.take k) wr ∧ Below n₀ W wr) (fun i _ => n - (intOf i).toNat)
  case atStart => exact ⟨0, Nat.zero_le _, rfl, h0, Below.refl _ _⟩
  case round =>
    obtain ⟨k, hk, rfl, hJs, hnx⟩ := hrel
    by_cases hlt : k < n
    · obtain ⟨hps, hcs, hsl, hJ, hY, hn0⟩ := HP.out
      rw [List.length_map] at hps
      have hkx : k < xs.length := by omega
      obtain ⟨g, o, rfl, hg, d0, d1, d2⟩ := hcs k (by rw [List.length_map]; exact hkx)
      rw [List.getElem_map] at d0 d1 d2
      have hts : xs.take (k + 1) = xs.take k ++ [xs[k]] := List.take_succ_eq_append_getElem hkx
      replace d0 := (hnx.cell (p := ⟨g, o + k * 3, none⟩) hg).trans d0
      replace d1 := (hnx.cell (p := ⟨g, o + k * 3 + 1, none⟩) hg).trans d1
      replace d2 := (hnx.cell (p := ⟨g, o + k * 3 + 2, none⟩) hg).trans d2
      obtain ⟨a1, n1, c1, hv, -⟩ := hsl (f xs[k]) (List.mem_map_of_mem (List.getElem_mem hkx))
      have hy1 := hY (xs.take k) xs[k] (wr.alloc (.cells #[.int .i64 (f xs[k]).p.room, (f xs[k]).v, .bool (f xs[k]).p.closed] 52)) (hJ _ _ _ none hJs (World.grownBy_alloc _ _ _) (fun r e => by cases e)) (by rw [List.length_take]; omega)
      unfold pEnc at hy1
      rw [hv] at d1 hy1
      obtain ⟨fn, tmps, assign, body, hy, hR⟩ := hy1
      have Ht := Lib.hid hts
      have hb1 : Below n₀ W (wr.alloc (.cells #[.int .i64 (f xs[k]).p.room, .slice a1 n1 c1, .bool (f xs[k]).p.closed] 52)) := hnx.trans ((Below.refl _ wr).alloc (Nat.le_trans hn0 hnx.size) _)
      clear hts hps hcs hsl hJ hY hn0 hv
      generalize (f xs[k]).p = p at *
      obtain ⟨xr, xi, xc⟩ := p
      dsimp only at *
      gi_wp2
      refine hR.mono ?_
      rintro e W3 (⟨rfl, hJ3, hk3⟩ | ⟨rfl, hJx3⟩)
      · gi_wp2
        go_roundw
        case rel => exact ⟨k + 1, by omega, by simp, by rw [Ht.out]; exact hJ3, hb1.trans hk3⟩
        case measure => simp [intOf]; omega
      · gi_wp2
        refine bodyPost_ret (results_none rfl _ _ _) rfl ?_
        exact ⟨⟨_, rfl⟩, .inr ⟨_, by rw [← Ht.out]; exact List.take_prefix _ _, hJx3⟩⟩
    · obtain rfl : k = n := by omega
      gi_wp2
      go_end0
      exact ⟨⟨_, rfl⟩, .inl ⟨_, List.take_of_length_le (by have := HP.out.1; rw [List.length_map] at this; omega), hJs⟩⟩
theorem each_stops {α : Type} (f : α → Pk) (m : Nat) (hm : 1 ≤ m) (Bs n₀ n c : Nat) (A : Option Addr) (xs : List α) (hreach : n ≤ 1000000) (w : World) (hBl : Bs < w.heap.size) (hn₀ : n₀ ≤ w.heap.size)
    (hBs : w.cell? ⟨Bs, 0, none⟩ = some (.slice A n c)) (hP : PAt w (fun q => q < n₀) (.slice A n c) (xs.map f)) :
    SeqStopsK Fence.wide m Try.prog 78 #[.pointer (some ⟨Bs, 0, none⟩)] (fun x : α => #[pEnc (f x)]) (Below n₀) (fun ys => ys = xs) (fun pre => pre <+: xs) n w := fun l J Jx W hW hJ _ hY h0 =>
  each1_in f m hm l Bs n₀ n c A xs hreach J Jx W hJ hY ((hW.cell (p := ⟨Bs, 0, none⟩) hBl).trans hBs) (hP.keptTo fun q hq => ⟨hW.block q (by omega), hq⟩) (Nat.le_trans hn₀ hW.size) h0
theorem blk_kept {X Y : World} {g : Nat} {cs : Array Value} {t : TypeId} {fr : Nat × Nat} {row : Option Nat} (h : X.heap[g]? = some (.cells cs t fr)) (hg : X.grownBy Y row) (hr : ∀ r, row = some r → ∃ o, X.heap[r]? = some o ∧ o.isCells = false) : Y.heap[g]? = some (.cells cs t fr) := by
  refine (hg.block g (lt_heap h) ?_).trans h
  rintro rfl
  obtain ⟨o, ho, hc⟩ := hr _ rfl
  rw [h] at ho
  cases ho
  cases hc
end Go.Proofs.Ytnibllkcacalhaa
namespace Go.Proofs.Ytnibllkcacalhaa
set_option maxRecDepth 100000
open Go.RowKit Go.Shelf
attribute [local go_sem] Oper.semAt_some
def PipesPost (ps : List Pk) (w : World) (e : Ending) (w' : World) : Prop := e = .returned (.bool (pipesB (ps.map (·.p)))) ∧ Frm (fun _ => False) w w'
def pipeH (x : Pk) : Bool := pipeB x.p
/-- The box of the round's pipe. -/
def AxP (w : World) (A : Option Addr) (n c : Nat) (n₀ : Nat) (x : Pk) (a' : Act) (W : World) : Prop := ∃ g, n₀ ≤ g ∧ Blk W g 52 #[.int .i64 x.p.room, x.v, .bool x.p.closed] ∧
  a' = { tmps := #[.slice A n c, undef, .pointer (some ⟨w.heap.size, 0, none⟩), .pointer (some ⟨g, 0, none⟩), .slice A n c, .int .i64 n, .bool false, .slice A n c, .func (.func 78) #[] #[.pointer (some ⟨w.heap.size + 1, 0, none⟩)], pEnc x, undef, undef, undef, undef, undef, undef, undef, undef, undef, undef, undef, undef, undef, undef, undef, undef], defers := [] }
theorem pipes_fin {m D : Nat} {b : Bool} {ps : List Pk} {w W : World} {t : Array Value} (h0 : W.heap[w.heap.size]? = some (.cells #[.bool b] 4 (0, 0))) (hK : W.heap[D]? = some (.deferred (some []))) (hB : Below w.heap.size w W) (hD : w.heap.size + 2 ≤ D)
    (hb : b = pipesB (ps.map (·.p))) (h2 : t.getD 2 undef = .pointer (some ⟨w.heap.size, 0, none⟩)) : bodyPostM Fence.wide m Try.prog Try.f59 (PipesPost ps w) Exit.ret { tmps := t, defers := [{ target := .collected D, args := #[] }] } W := by
  subst hb
  refine ⟨by simp, .inl ⟨_, _, rfl, run_takeDeferred hK, ?_⟩⟩
  have hc0 : (W.putObj D (.deferred none)).cell? ⟨w.heap.size, 0, none⟩ = some (.bool (pipesB (ps.map (·.p)))) := (World.cell?_of_block (w := W) (World.putObj_heap_other (by simp; omega))).trans (cell_of_one h0)
  have hb : Below w.heap.size w (W.putObj D (.deferred none)) := hB.trans (belowK_b (w := w) (Nat.le_refl _) W D _ _ (by omega) hK rfl rfl)
  exact ⟨_, by simp [results, Try.results59, go_sem, -Array.getD_eq_getD_getElem?, h2, hc0], rfl, Frm.of_below hb⟩
theorem pipeH_cases (x : Pk) (n1 : Nat) (h : n1 = x.p.ins.length) : (pipeH x = true ∧ decide (x.p.room < 1) = false ∧ decide (16 < x.p.room) = false ∧ decide (x.p.room < (n1 : Int)) = false) ∨
    (pipeH x = false ∧ (decide (x.p.room < 1) = true ∨ (decide (x.p.room < 1) = false ∧ decide (16 < x.p.room) = true) ∨ (decide (x.p.room < 1) = false ∧ decide (16 < x.p.room) = false ∧ decide (x.p.room < (n1 : Int)) = true))) := by
  subst h
  unfold pipeH pipeB
  simp only [decide_eq_true_eq, decide_eq_false_iff_not, Bool.and_eq_true, Bool.and_eq_false_iff]
  omega
theorem all_snoc {α : Type} (p : α → Bool) (l : List α) (x : α) : (l ++ [x]).all p = (l.all p && p x) := by simp
theorem all_prefix {α : Type} (p : α → Bool) (l m : List α) (h : l <+: m) (hl : l.all p = false) : m.all p = false := by
  obtain ⟨k, rfl⟩ := h
  rw [List.all_append, hl, Bool.false_and]
set_option maxRecDepth 100000 in
set_option maxHeartbeats 2000000 in
theorem pipes_in (A : Option Addr) (n c : Nat) (ps : List Pk) (w : World) (h : PAt w (fun q => q < w.heap.size) (.slice A n c) ps) (hn8 : n ≤ 8) :
    CallsIn Fence.wide 4 Try.prog 59 #[.slice A n c] w (PipesPost ps w) := by
  have hps : n = ps.length := h.cells.1
  have g1 : decide ((8 : Int) < n) = false := by simp; omega
  have H := Lib.hid (And.intro h hps)
  clear h hps
  refine callsIn_of_wp_marks Try.func59 rfl trivial ?_ rfl
  simp only [Try.ntmps59, List.size_toArray, List.length_cons, List.length_nil, Nat.reduceAdd, Nat.reduceSub, Array.replicate_succ, Array.replicate_zero, List.push_toArray, List.append_toArray, List.nil_append, List.cons_append]
  gi_wp2_with fail
  refine ⟨trivial, ?_⟩
  refine (callsIn_wide.2 (each_any A n c _)).mono ?_
  rintro e w' ⟨rfl, rfl⟩
  have hF0 : Frm (fun _ => False) w ((w.alloc (.cells #[.bool false] 4)).alloc (.cells #[.slice A n c] 22)) := ((Frm.refl _ w).alloc _).alloc _
  have hk0 : ((w.alloc (.cells #[.bool false] 4)).alloc (.cells #[.slice A n c] 22)).heap[w.heap.size]? = some (.cells #[.bool false] 4 (0, 0)) := (Blk.new w _ _).alloc _
  have hk1 : ((w.alloc (.cells #[.bool false] 4)).alloc (.cells #[.slice A n c] 22)).cell? ⟨w.heap.size + 1, 0, none⟩ = some (.slice A n c) := by
    have := World.cell?_alloc_new (w.alloc (.cells #[.bool false] 4)) #[.slice A n c] 22 0
    simp at this ⊢
  have hs0 : ((w.alloc (.cells #[.bool false] 4)).alloc (.cells #[.slice A n c] 22)).heap.size = w.heap.size + 2 := by simp
  gi_wp2_with fail
  have H0 := Lib.hid (And.intro hF0 (And.intro hk0 (And.intro hk1 hs0)))
  generalize hW0 : (w.alloc (.cells #[.bool false] 4)).alloc (.cells #[.slice A n c] 22) = W0 at *
  clear hF0 hk0 hk1 hs0 hW0
  refine wpIn_rangeFunc_ownH rfl (by omega) (gf := 78) (lb := #[.pointer (some ⟨w.heap.size + 1, 0, none⟩)]) rfl trivial (enters_of Try.func78 (by kernel_rfl) rfl)
    (each_stops (fun x : { x // x ∈ ps } => x.1) 3 (by omega) (w.heap.size + 1) w.heap.size n c A ps.attach (by omega) W0 (by have := H0.out.2.2.2; omega) H0.out.1.size H0.out.2.2.1 (by rw [List.attach_map_subtype_val]; exact H.out.1.keptTo fun q hq => ⟨H0.out.1.block q hq id, hq⟩)) belowK_t (belowK_b H0.out.1.size) (Below.refl _ _) (fun _ => rfl)
    (fun pre W => (W.heap[w.heap.size]? = some (.cells #[.bool false] 4 (0, 0)) ∧ (pre.map (·.1)).all pipeH = true) ∧ Below w.heap.size w W)
    (fun cc pre W => (cc = .ret ∧ W.heap[w.heap.size]? = some (.cells #[.bool false] 4 (0, 0)) ∧ (pre.map (·.1)).all pipeH = false) ∧ Below w.heap.size w W)
    (OwnFrom.and (Own.from (fun s X Y row hs hg hr => ⟨blk_kept hs.1 hg hr, hs.2⟩) _) (ownFrom_below (Nat.le_refl _) (by have := H0.out.1.size; omega)))
    (fun cc => OwnFrom.and (Own.from (fun s X Y row hs hg hr => ⟨hs.1, blk_kept hs.2.1 hg hr, hs.2.2⟩) _) (ownFrom_below (Nat.le_refl _) (by have := H0.out.1.size; omega)))
    ⟨⟨H0.out.2.1, rfl⟩, H0.out.1.below (Nat.le_refl _) fun _ h => h.elim⟩
    (fun x a' W => AxP w A n c w.heap.size x.1 a' W) (fun x a' => Own.from (fun _ X Y row hs hg hr => by obtain ⟨g, h1, h2, h3⟩ := hs; exact ⟨g, h1, blk_kept h2 hg hr, h3⟩) _) ?assign ?body ?done ?stop
  case assign =>
    rintro l pre x W K ⟨⟨hk, hal⟩, hBW⟩ hK
    obtain ⟨a1, n1, c1, hv, -⟩ := H.out.1.2 x.1 x.2
    have hKK := fun a' (hA : a' = _) => hK a' (W.alloc (.cells #[.int .i64 x.1.p.room, x.1.v, .bool x.1.p.closed] 52)) ((KeepsOthers.alloc W _).from _) ((Below.refl _ W).alloc hBW.size _) ⟨⟨blk_kept hk (World.grownBy_alloc _ _ none) (fun r e => by cases e), hal⟩, hBW.trans ((Below.refl _ W).alloc hBW.size _)⟩ ⟨W.heap.size, hBW.size, Blk.new W _ _, hA⟩
    unfold pEnc at hKK ⊢
    rw [hv] at hKK ⊢
    have HKK := Lib.hid hKK
    clear hKK hK hk hal
    gi_wp2
    exact HKK.out _ rfl
  case body =>
    rintro l pre x a' W hl hrec ⟨⟨hk, hal⟩, hBW⟩ ⟨g, hg, hb, rfl⟩ hlen
    obtain ⟨a1, n1, c1, hv, hn1, -⟩ := H.out.1.2 x.1 x.2
    rw [uv_length] at hn1
    have hpc := pipeH_cases x.1 n1 hn1
    have hal2 : ((pre ++ [x]).map (·.1)).all pipeH = pipeH x.1 := by rw [List.map_append, List.map_singleton, all_snoc, hal, Bool.true_and]
    have c0 := hb.cell 0
    have c1' := hb.cell 1
    rw [hv] at c1'
    have hk0 : W.cell? ⟨w.heap.size, 0, none⟩ = some (.bool false) := cell_of_one hk
    have hf0 := free_of_one hk
    have HB := Lib.hid (And.intro hal2 (And.intro hk hBW))
    simp only [List.getElem?_toArray, List.getElem?_cons_zero, List.getElem?_cons_succ] at c0 c1'
    unfold pEnc
    rw [hv]
    clear hb hal hal2 hk hBW hrec hv hn1
    generalize x.1.p.room = r at *
    rcases hpc with ⟨hp, h1, h2, h3⟩ | ⟨hp, h1 | ⟨h1, h2⟩ | ⟨h1, h2, h3⟩⟩
    · gi_wp2
      exact ⟨KeepsFrom.refl _ _, Below.refl _ _, ⟨HB.out.2.1, by rw [HB.out.1]; exact hp⟩, HB.out.2.2⟩
    all_goals
      gi_wp2
      refine ⟨(KeepsOthers.setCell _ _ _).from _, ⟨rfl, ?_, by rw [HB.out.1]; exact hp⟩, HB.out.2.2.trans ((Below.refl _ W).setCell (p := ⟨w.heap.size, 0, none⟩) (Nat.le_refl _) _)⟩
      rw [one_setCell HB.out.2.1]
  case done =>
    rintro D ys W hD rfl ⟨⟨hk, hal⟩, hBW⟩ hK
    have hc0 := cell_of_one hk
    have hf0 := free_of_one hk
    have hp : pipesB (ps.map (·.p)) = true := by
      rw [List.attach_map_subtype_val] at hal
      unfold pipesB
      rw [List.all_map, List.length_map]
      have : ps.all (pipeB ∘ fun x => x.p) = true := hal
      rw [this]
      simp; have := H.out.2; omega
    have HB := Lib.hid (And.intro hk (And.intro hBW (And.intro hK hp)))
    clear hk hal hBW hK hp
    gi_wp2
    exact pipes_fin (b := true) (by rw [one_setCell HB.out.1]) (by rw [Below.heap_setCell _ _ _ _ (by simp; have := H0.out.2.2.2; omega)]; exact HB.out.2.2.1) (HB.out.2.1.trans ((Below.refl _ W).setCell (p := ⟨w.heap.size, 0, none⟩) (Nat.le_refl _) _)) (by have := H0.out.2.2.2; omega) HB.out.2.2.2.symm rfl
  case stop =>
    rintro D cc pre W hD hpre ⟨⟨rfl, hk, hal⟩, hBW⟩ hK
    have hp : pipesB (ps.map (·.p)) = false := by
      unfold pipesB
      rw [List.all_map]
      have h2 := all_prefix pipeH (pre.map (·.1)) ps (by have := hpre.map (·.1); rwa [List.attach_map_subtype_val] at this) hal
      have : ps.all (pipeB ∘ fun x => x.p) = false := h2
      rw [this, Bool.false_and]
    have HB := Lib.hid (And.intro hk (And.intro hBW (And.intro hK hp)))
    clear hk hal hBW hK hp
    gi_wp2
    exact pipes_fin (b := false) HB.out.1 HB.out.2.2.1 HB.out.2.1 (by have := H0.out.2.2.2; omega) HB.out.2.2.2.symm rfl
set_option maxHeartbeats 800000 in
theorem pipes_any (A : Option Addr) (n c : Nat) (ps : List Pk) (w : World) (h : PAt w (fun q => q < w.heap.size) (.slice A n c) ps) : Calls Try.prog 59 #[.slice A n c] w (PipesPost ps w) := by
  by_cases h8 : n ≤ 8
  · exact callsIn_wide.1 (pipes_in A n c ps w h h8)
  · have hps : n = ps.length := h.cells.1
    have hf : pipesB (ps.map (·.p)) = false := by
      unfold pipesB
      rw [List.length_map, decide_eq_false (by omega), Bool.and_false]
    have g1 : decide ((8 : Int) < n) = true := by simp; omega
    have H := Lib.hid hf
    clear h hps hf h8
    go_enter Try.func59, Try.ntmps59
    go_wp2_with fail
    have hc : (w.alloc (.cells #[.bool false] 4)).cell? ⟨w.heap.size, 0, none⟩ = some (.bool false) := cell_of_one (Blk.new w _ _)
    refine bodyPost_ret (v := .bool false) (by simp [results, Try.results59, go_sem, hc]) rfl ?_
    exact ⟨by rw [H.out], (Frm.refl _ w).alloc _⟩
end Go.Proofs.Ytnibllkcacalhaa
namespace Go.Proofs.Ytnibllkcacalhaa
section
variable {P : Program} {ops : Array Oper} {md : Region.Mode}
theorem upon_then {o : Oper} {a : Act} {K K' : Act → World → Prop} {Q : Exit → Act → World → Prop} {r : Result Next} (h : o.upon P a K (Exit.then K' Q) r) : o.upon P a K Q r := by
  cases r with
  | ok n w' =>
    cases n with
    | enter f args => exact Calls.mono h fun e w'' hh => by cases e <;> exact hh
    | _ => exact h
  | _ => exact h
theorem wpOp_then {i : Nat} {K K' : Act → World → Prop} {Q : Exit → Act → World → Prop} {a : Act} {w : World} (h : wpOp P ops (Exit.then K' Q) i K a w) : wpOp P ops Q i K a w := by
  unfold wpOp at *
  cases ho : ops[i]? with
  | none => simpa [ho] using h
  | some o =>
    simp only [ho] at h ⊢
    by_cases hw : Region.wanted o (yielded ops a.tmps) = true
    · rw [if_pos hw] at h ⊢
      exact h.imp upon_then id
    · rw [if_neg hw] at h ⊢
      exact h
/-- A move: it may be taken first. -/
def isMove (o : Oper) : Bool := match o.op with
  | .move _ => true
  | _ => false
theorem move_yields {o : Oper} (h : isMove o = true) (a : Act) : ∃ v, Yields P ops o v a := by
  obtain ⟨dst, op, ty, pos, after, guard⟩ := o
  cases op with
  | move x =>
    cases hw : Region.wanted ⟨dst, .move x, ty, pos, after, guard⟩ (yielded ops a.tmps) with
    | true => exact ⟨a.eval x, .inl ⟨hw, fun w => rfl⟩⟩
    | false => exact ⟨undef, .inr ⟨hw, rfl⟩⟩
  | _ => cases h
/-- All below k came. -/
def upTo (n k : Nat) : Array Bool := ((List.range n).map fun i => decide (i < k)).toArray
theorem upTo_at (n k j : Nat) (d : Bool) : (upTo n k).getD j d = if j < n then decide (j < k) else d := by
  unfold upTo
  by_cases h : j < n
  · simp [h]
  · simp [h]
theorem upTo_zero (n : Nat) : Array.replicate n false = upTo n 0 := by
  apply Array.ext
  · simp [upTo]
  · intro i h1 h2; simp [upTo]
theorem upTo_set (n k : Nat) : (upTo n k).setIfInBounds k true = upTo n (k + 1) := by
  apply Array.ext
  · simp [upTo]
  · intro i h1 h2
    rw [Array.getElem_setIfInBounds]
    split
    · rename_i h; subst h; simp [upTo]
    · rename_i h
      simp only [upTo, List.getElem_toArray, List.getElem_map, List.getElem_range, decide_eq_decide]
      omega
    · simpa [upTo] using h1
theorem upTo_size (n k : Nat) : (upTo n k).size = n := by simp [upTo]
/-- Behind all below k the operation of number k may come up, and it alone, or it is a move that may be taken first. -/
def okAt (md : Region.Mode) (ops : Array Oper) (o : Oper) (k : Nat) (tl : List Oper) : Bool :=
  (o.after.all fun e => !Region.binds md e || decide (e.on < k)) &&
  ((tl.all fun o' => o'.after.any fun e => Region.binds md e && decide (k ≤ e.on)) || (isMove o && tl.all fun o' => (o'.after.any fun e => Region.binds md e && e.on == k) || o.apart ops o'))
def seqK (md : Region.Mode) (ops : Array Oper) : Nat → Nat → List Oper → Bool
  | 0, _, _ => true
  | _ + 1, _, [] => false
  | f + 1, k, o :: tl => okAt md ops o k tl && seqK md ops f (k + 1) tl
def listTo : Nat → Nat → Array Bool → Array Bool
  | 0, _, listed => listed
  | f + 1, k, listed => listTo f (k + 1) (listed.setIfInBounds k true)
theorem listTo_up (n : Nat) : ∀ f k, listTo f k (upTo n k) = upTo n (k + f)
  | 0, k => rfl
  | f + 1, k => by rw [listTo, upTo_set, listTo_up n f (k + 1)]; congr 1; omega
theorem tail_at {l : List Oper} {k j : Nat} {o oj : Oper} {tl : List Oper} (h : l.drop k = o :: tl) (hj : k < j) (ho : l.toArray[j]? = some oj) : oj ∈ tl := by
  have h1 : (l.drop k)[j - k]? = some oj := by rw [List.getElem?_drop]; simpa [show k + (j - k) = j from by omega] using ho
  rw [h, show j - k = (j - k - 1) + 1 from by omega, List.getElem?_cons_succ] at h1
  exact List.mem_of_getElem? h1
theorem wpList_move {o : Oper} {l : List Oper} {Q : Exit → Act → World → Prop} {a : Act} {w : World} {v : Value} (hy : Yields P ops o v a) (h : isMove o = true) (hl : wpList P ops Q (o :: l) a w) : wpList P ops Q l (a.put o.dst v) w := by
  unfold wpList at hl
  rcases hy with ⟨hw, hv⟩ | ⟨hw, rfl⟩
  · rw [if_pos hw] at hl
    rcases hl with hl | ⟨hl, -⟩
    · unfold Oper.wp at hl
      rw [hv w] at hl
      exact hl
    · obtain ⟨dst, op, ty, pos, after, guard⟩ := o
      cases op with
      | move x =>
        have h1 : ((execOp a.eval ⟨dst, .move x, ty, pos, after, guard⟩).runT P w #[]).2 = #[] := rfl
        have h2 := hl.1
        rw [h1] at h2
        simp at h2
      | _ => cases h
  · rw [if_neg (by rw [hw]; simp)] at hl
    exact hl
theorem drop_at {l : List Oper} {k : Nat} {o : Oper} {tl : List Oper} (h : l.drop k = o :: tl) : l.toArray[k]? = some o ∧ k < l.length ∧ l.drop (k + 1) = tl := by
  have h1 : (l.drop k)[0]? = some o := by rw [h]; rfl
  rw [List.getElem?_drop] at h1
  have h2 : k < l.length := by
    rcases Nat.lt_or_ge k l.length with h3 | h3
    · exact h3
    · rw [List.drop_eq_nil_of_le h3] at h; cases h
  exact ⟨by simpa using h1, h2, by rw [← List.drop_drop, h]; rfl⟩
theorem wpAny_seq {l : List Oper} {Q : Exit → Act → World → Prop} {K : Act → World → Prop} {g : Nat} (hsel : Region.noSelect l.toArray = true) (hQ : ∀ c d v a w, Q (.panic c) (Act.put a d v) w → Q (.panic c) a w) :
    ∀ (f k : Nat) (a : Act) (w : World), seqK md l.toArray f k (l.drop k) = true → wpList P l.toArray (Exit.then K Q) ((l.drop k).take f) a w →
      (∀ a w, K a w → wpAny P md l.toArray Q g (upTo l.length (k + f)) a w) → wpAny P md l.toArray Q (f + g) (upTo l.length k) a w := by
  intro f
  induction f with
  | zero => intro k a w _ h hK; rw [Nat.zero_add]; exact hK a w h
  | succ f ih =>
    intro k a w hB h hK
    cases hd : l.drop k with
    | nil => rw [hd] at hB; cases hB
    | cons o tl =>
      obtain ⟨h0, hkl, hdr⟩ := drop_at hd
      rw [hd] at hB h
      rw [List.take_succ_cons] at h
      simp only [seqK, okAt, Bool.and_eq_true] at hB
      obtain ⟨⟨hdep, hB⟩, hB'⟩ := hB
      have hrk : k ∈ Region.ready md l.toArray (upTo l.length k) := by
        rw [mem_ready]
        refine ⟨by rw [upTo_at, if_pos hkl]; simp, o, h0, fun e he hb => ?_⟩
        have h1 := Array.all_eq_true_iff_forall_mem.1 hdep e he
        rw [hb] at h1
        have h2 : e.on < k := by simpa using h1
        rw [upTo_at, if_pos (by omega)]
        simpa using h2
      rw [show f + 1 + g = (f + g) + 1 from by omega]
      have hK' : ∀ a w, K a w → wpAny P md l.toArray Q g (upTo l.length (k + 1 + f)) a w := by rw [show k + 1 + f = k + (f + 1) from by omega]; exact hK
      rw [Bool.or_eq_true] at hB
      rcases hB with hB | hB
      · refine ⟨fun h1 => (by rw [h1] at hrk; cases hrk), fun i hi => ?_⟩
        have hik : i = k := by
          obtain ⟨hun, oi, hoi, hall⟩ := mem_ready.1 hi
          rw [upTo_at] at hun
          split at hun
          · have hge : k ≤ i := by simpa using hun
            rcases Nat.eq_or_lt_of_le hge with h1 | h1
            · exact h1.symm
            · have h2 := List.all_eq_true.1 hB oi (tail_at hd h1 hoi)
              obtain ⟨e, he, h3⟩ := Array.any_eq_true'.1 h2
              simp only [Bool.and_eq_true, decide_eq_true_eq] at h3
              have h4 := hall e he h3.1
              rw [upTo_at] at h4
              split at h4
              · have : e.on < k := by simpa using h4
                omega
              · cases h4
          · cases hun
        subst hik
        have hw : wpOp P l.toArray (Exit.then K Q) i (wpList P l.toArray (Exit.then K Q) (tl.take f)) a w := by unfold wpOp; simp only [h0]; exact h
        refine wpOp_mono (fun a' w' h' => ?_) (wpOp_then hw)
        rw [upTo_set]
        exact ih (i + 1) a' w' (by rw [hdr]; exact hB') (by rw [hdr]; exact h') hK'
      · rw [Bool.and_eq_true] at hB
        obtain ⟨hm, hf⟩ := hB
        obtain ⟨v, hy⟩ := move_yields (P := P) (ops := l.toArray) hm a
        have hfree : Region.free md l.toArray (upTo l.length k) k = true := by
          simp only [Region.free, h0, List.all_eq_true, List.mem_range, Bool.or_eq_true, beq_iff_eq]
          intro j hj
          have hjl : j < l.length := by simpa using hj
          rcases Nat.lt_trichotomy j k with h1 | h1 | h1
          · exact .inl (.inr (by rw [upTo_at, if_pos hjl]; simpa using h1))
          · exact .inl (.inl h1)
          · right
            cases ho : l.toArray[j]? with
            | none => rfl
            | some oj => simpa using List.all_eq_true.1 hf oj (tail_at hd h1 ho)
        refine wpAny_take h0 hsel hfree (by simpa using hrk) (fun c a w hq => hQ c o.dst v a w hq) hy ?_
        rw [upTo_set]
        exact ih (k + 1) _ w (by rw [hdr]; exact hB') (by rw [hdr]; exact wpList_move hy hm h) hK'
/-- No operation behind s comes up before all of k up to s came. -/
def segB (md : Region.Mode) (ops : Array Oper) (k s : Nat) : Bool :=
  ((List.range s).all fun i => decide (i < k) || (List.range (s + 1)).any fun j => decide (i < j) && Region.waitsFor md ops j i) &&
  ((List.range ops.size).all fun t => decide (t ≤ s) || (List.range t).any fun u => decide (s ≤ u) && Region.waitsFor md ops t u)
structure SegInv (md : Region.Mode) (ops : Array Oper) (k s : Nat) (listed : Array Bool) : Prop where
  size : listed.size = ops.size
  closed : ∀ j oj, ops[j]? = some oj → listed.getD j false = true → ∀ e ∈ oj.after, Region.binds md e = true → listed.getD e.on false = true
  low : ∀ i, i < k → listed.getD i false = true
  high : ∀ t, s ≤ t → t < ops.size → listed.getD t true = false
def segInvB (md : Region.Mode) (ops : Array Oper) (k s : Nat) (listed : Array Bool) : Bool :=
  decide (listed.size = ops.size) && ((List.range ops.size).all fun j => !listed.getD j false || ((ops[j]?).map fun o => o.after.all fun e => !Region.binds md e || listed.getD e.on false).getD true) &&
    ((List.range k).all fun i => listed.getD i false) && ((List.range ops.size).all fun t => decide (t < s) || !listed.getD t true)
theorem SegInv.of {k s : Nat} {listed : Array Bool} (h : segInvB md ops k s listed = true) : SegInv md ops k s listed := by
  simp only [segInvB, Bool.and_eq_true, decide_eq_true_eq, List.all_eq_true, List.mem_range, Bool.or_eq_true, Bool.not_eq_true'] at h
  obtain ⟨⟨⟨h1, h2⟩, h3⟩, h4⟩ := h
  refine ⟨h1, fun j oj ho hl e he hb => ?_, h3, fun t ht hts => ?_⟩
  · have hj : j < ops.size := (Array.getElem?_eq_some_iff.1 ho).1
    rcases h2 j hj with h | h
    · rw [h] at hl; cases hl
    · rw [ho] at h
      simp only [Option.map_some, Option.getD_some, Array.all_eq_true_iff_forall_mem, Bool.or_eq_true, Bool.not_eq_true'] at h
      rcases h e he with h | h
      · rw [h] at hb; cases hb
      · exact h
  · rcases h4 t hts with h | h
    · omega
    · exact h
theorem getD_up {listed : Array Bool} {i : Nat} (h : listed.getD i true = false) : listed.getD i false = false := by
  by_cases hi : i < listed.size
  · simp [hi] at h ⊢; exact h
  · simp [Array.getElem?_eq_none (Nat.le_of_not_lt hi)] at h
theorem getD_dn {listed : Array Bool} {i : Nat} (hi : i < listed.size) (h : listed.getD i false = false) : listed.getD i true = false := by
  simp [hi] at h ⊢; exact h
theorem SegInv.set {k s i : Nat} {listed : Array Bool} (inv : SegInv md ops k s listed) (hi : i ∈ Region.ready md ops listed) (his : i < s) : SegInv md ops k s (listed.setIfInBounds i true) := by
  obtain ⟨_, oi, hoi, hall⟩ := mem_ready.1 hi
  refine ⟨by simp [inv.size], fun j oj hj hl e he hb => ?_, fun j hj => getD_set_true (inv.low j hj), fun t ht ht' => by rw [getD_set_ne true (by omega)]; exact inv.high t ht ht'⟩
  by_cases hij : i = j
  · subst hij
    obtain rfl : oj = oi := Option.some.inj (hj.symm.trans hoi)
    exact getD_set_true (hall e he hb)
  · rw [getD_set_ne false hij] at hl
    exact getD_set_true (inv.closed j oj hj hl e he hb)
theorem waits_listed {t u : Nat} {listed : Array Bool} (hw : Region.waitsFor md ops t u = true) (h : t ∈ Region.ready md ops listed) : listed.getD u false = true := by
  obtain ⟨ot, hot, e, he, hb, rfl⟩ := Region.waitsFor_spec hw
  obtain ⟨_, o', ho', hall⟩ := mem_ready.1 h
  obtain rfl : ot = o' := Option.some.inj (hot.symm.trans ho')
  exact hall e he hb
/-- While one of k up to s has not come, none from s on comes up. -/
theorem seg_waits {k s : Nat} {listed : Array Bool} (hB : segB md ops k s = true) (hs : s < ops.size) (inv : SegInv md ops k s listed) :
    ∀ (d i : Nat), s - i = d → k ≤ i → i < s → listed.getD i true = false → ∀ t, s ≤ t → t ∉ Region.ready md ops listed := by
  simp only [segB, Bool.and_eq_true, List.all_eq_true, List.mem_range, Bool.or_eq_true, decide_eq_true_eq, List.any_eq_true] at hB
  obtain ⟨h1, h2⟩ := hB
  intro d
  induction d using Nat.strongRecOn with
  | _ d ih =>
    intro i hd hk hi hun t ht hr
    have htl : t < ops.size := by obtain ⟨_, o, ho, _⟩ := mem_ready.1 hr; exact (Array.getElem?_eq_some_iff.1 ho).1
    by_cases hts : t = s
    · subst hts
      obtain ⟨j, hj, hij, hw⟩ := (h1 i hi).resolve_left (by omega)
      by_cases hjt : j = t
      · subst hjt
        have := waits_listed hw hr
        rw [getD_up hun] at this
        cases this
      · cases hl : listed.getD j false with
        | true =>
          obtain ⟨oj, hoj, e, he, hb, rfl⟩ := Region.waitsFor_spec hw
          have := inv.closed j oj hoj hl e he hb
          rw [getD_up hun] at this
          cases this
        | false => exact ih (t - j) (by omega) j rfl (by omega) (by omega) (getD_dn (by rw [inv.size]; omega) hl) t (Nat.le_refl _) hr
    · obtain ⟨u, hu, hsu, hw⟩ := (h2 t htl).resolve_left (by omega)
      have := waits_listed hw hr
      rw [getD_up (inv.high u hsu (by omega))] at this
      cases this
variable {w : World}
/-- What yields may be taken first, in a piece that is still. -/
theorem seg_first {k s i : Nat} {oi : Oper} {v : Value} {L : Array Bool → Act → Prop} (hi : ops[i]? = some oi) (hsel : Region.noSelect ops = true) (hB : segB md ops k s = true) (hs : s < ops.size) (hki : k ≤ i) (his : i < s)
    (hdone : ∀ listed a, L listed a → ∀ j ∈ Region.ready md ops listed, s ≤ j) :
    ∀ (f : Nat) (listed : Array Bool) (a : Act), SegInv md ops k s listed →
      (∀ j oj, ops[j]? = some oj → j ≠ i → listed.getD j true = false → (∀ e ∈ oj.after, Region.binds md e = true → e.on ≠ i) → oi.apart ops oj = true) →
      i ∈ Region.ready md ops listed → YieldsAt P ops w oi v a →
      wpAnyL P md ops w s L f (listed.setIfInBounds i true) (a.put oi.dst v) → wpAnyL P md ops w s L (f + 1) listed a := by
  intro f
  induction f with
  | zero =>
    intro listed a inv _ hr hy H
    refine ⟨fun h => (by rw [h] at hr; cases hr), fun j hj => ?_⟩
    have hjs : j < s := Nat.lt_of_not_le fun h => seg_waits hB hs inv _ i rfl hki his (mem_ready.1 hr).1 j h hj
    by_cases hji : j = i
    · subst hji; exact ⟨his, hy.stOp hi H⟩
    · have := hdone _ _ H j (ready_mono hj hji)
      omega
  | succ f ih =>
    intro listed a inv hfree hr hy H
    refine ⟨fun h => (by rw [h] at hr; cases hr), fun j hj => ?_⟩
    have hjs : j < s := Nat.lt_of_not_le fun h => seg_waits hB hs inv _ i rfl hki his (mem_ready.1 hr).1 j h hj
    refine ⟨hjs, ?_⟩
    by_cases hji : j = i
    · subst hji; exact hy.stOp hi H
    · obtain ⟨hun, oj, hoj, hall⟩ := mem_ready.1 hj
      have hun0 := (mem_ready.1 hr).1
      have hno : ∀ e ∈ oj.after, Region.binds md e = true → e.on ≠ i := fun e he hb heq => by
        have := hall e he hb
        rw [heq, getD_up hun0] at this
        cases this
      have h1 := (H.2 j (ready_mono hj hji)).2
      have h2 := stOp_put hoj (hfree j oj hoj hji hun hno) (fun cs b => Region.noSelect_spec hsel i oi cs b hi) (fun cs b => Region.noSelect_spec hsel j oj cs b hoj) hy h1
      refine stOp_mono (fun a' h3 => ih _ a' (inv.set hj hjs) (fun m om hm hmi hmu hmo => hfree m om hm hmi ?_ hmo) (ready_mono hr (Ne.symm hji)) h3.1 ?_) h2
      · by_cases hjm : j = m
        · subst hjm; exact hun
        · rw [getD_set_ne true hjm] at hmu; exact hmu
      · rw [Array.setIfInBounds_comm _ _ hji]
        exact h3.2
def segLex (md : Region.Mode) (ops : Array Oper) (s : Nat) : Nat → Nat → Array Bool → Bool
  | 0, _, listed => (Region.ready md ops listed).all fun j => decide (s ≤ j)
  | f + 1, k, listed => (Region.ready md ops listed).contains k && Region.free md ops listed k && segLex md ops s f (k + 1) (listed.setIfInBounds k true)
theorem segLex_end {s : Nat} : ∀ (f k : Nat) (listed : Array Bool), segLex md ops s f k listed = true → ∀ j ∈ Region.ready md ops (listTo f k listed), s ≤ j
  | 0, k, listed, h => by simpa [segLex, listTo] using h
  | f + 1, k, listed, h => by
    simp only [segLex, Bool.and_eq_true] at h
    exact segLex_end f (k + 1) _ h.2
theorem wpAnyL_seg {k0 s : Nat} {Lq : Act → Prop} (hsel : Region.noSelect ops = true) (hB : segB md ops k0 s = true) (hs : s < ops.size) (lend : Array Bool) (hend : ∀ j ∈ Region.ready md ops lend, s ≤ j) :
    ∀ (l : List Oper) (k : Nat) (listed : Array Bool) (a : Act), (∀ j, j < l.length → l[j]? = ops[k + j]?) → k + l.length = s → k0 ≤ k → SegInv md ops k0 s listed → listTo l.length k listed = lend →
    segLex md ops s l.length k listed = true → wpStill P ops w Lq l a → wpAnyL P md ops w s (fun listed' a' => listed' = lend ∧ Lq a') l.length listed a
  | [], k, listed, a, _, hk, _, _, hle, _, h => ⟨hle, h⟩
  | o :: l, k, listed, a, hl, hk, hk0, inv, hle, hx, h => by
    have h0 : ops[k]? = some o := by have := hl 0 (by simp); simpa using this.symm
    simp only [List.length_cons, segLex, Bool.and_eq_true] at hx
    obtain ⟨⟨hr, hf⟩, hx'⟩ := hx
    have hks : k < s := by simp only [List.length_cons] at hk; omega
    have hr' : k ∈ Region.ready md ops listed := by simpa using hr
    have hst : stOp P ops w k (wpStill P ops w Lq l) a := by unfold stOp; simp only [h0]; exact h
    obtain ⟨v, hy, hK⟩ := yieldsAt_of_stOp h0 hst
    exact seg_first h0 hsel hB hs hk0 hks (fun listed' a' hL => by rw [hL.1]; exact hend) l.length listed a inv (Region.free_spec h0 hf) hr' hy
      (wpAnyL_seg hsel hB hs lend hend l (k + 1) _ _ (fun j hj => by have := hl (j + 1) (by simpa using hj); simpa [Nat.add_assoc, Nat.add_comm 1 j] using this) (by simp only [List.length_cons] at hk; omega) (by omega) (inv.set hr' hks) hle hx' hK)
theorem wpAny_seg {Q : Exit → Act → World → Prop} {g k s : Nat} (hsel : Region.noSelect ops = true) (l : List Oper) (listed : Array Bool) (a : Act) (hl : ∀ j, j < l.length → l[j]? = ops[k + j]?) (hk : k + l.length = s) (hs : s < ops.size)
    (hB : segB md ops k s = true) (hI : segInvB md ops k s listed = true) (hx : segLex md ops s l.length k listed = true) (h : wpStill P ops w (fun a' => wpAny P md ops Q g (listTo l.length k listed) a' w) l a) : wpAny P md ops Q (l.length + g) listed a w :=
  wpAny_of_head (n := s) (L := fun listed' a' => listed' = listTo l.length k listed ∧ wpAny P md ops Q g (listTo l.length k listed) a' w) (fun listed' a' hL => by rw [hL.1]; exact hL.2) l.length listed a
    (wpAnyL_seg hsel hB hs _ (segLex_end _ _ _ hx) l k listed a hl hk (Nat.le_refl _) (SegInv.of hI) rfl hx h)
end
section
variable {P : Program} {md : Region.Mode} {l : List Oper} {Q : Exit → Act → World → Prop} {listed : Array Bool} {a : Act} {w : World} {fuel : Nat}
theorem take_at (l : List Oper) (k m : Nat) (j : Nat) (hj : j < ((l.drop k).take m).length) : ((l.drop k).take m)[j]? = l.toArray[k + j]? := by
  rw [List.getElem?_take]
  rw [List.length_take] at hj
  rw [if_pos (by omega)]
  simp
/-- A piece in the text's order (behind 'go_plan_seq n, k, m, g' type 'intro K hK' and walk: the walk itself goes on to the next piece). -/
theorem plan_seq (n k m g : Nat) (hn : n = l.length) (hf : fuel = m + g) (hsel : Region.noSelect l.toArray = true) (hQ : ∀ c d v a w, Q (.panic c) (Act.put a d v) w → Q (.panic c) a w) (hB : seqK md l.toArray m k (l.drop k) = true)
    (h : ∀ K : Act → World → Prop, (∀ a w, wpAny P md l.toArray Q g (upTo n (k + m)) a w → K a w) → wpList P l.toArray (Exit.then K Q) ((l.drop k).take m) a w) : wpAny P md l.toArray Q fuel (upTo n k) a w := by
  subst hf hn
  exact wpAny_seq (K := fun a w => wpAny P md l.toArray Q g (upTo l.length (k + m)) a w) hsel hQ m k a w hB (h _ fun _ _ h => h) fun _ _ h => h
theorem plan_begin {id : Nat} (hm : P.follows .mixedOrders = true) (n : Nat) (hn : n = l.toArray.size) (h : wpAny P .any l.toArray Q n (upTo n 0) a w.drew) : (Code.region id l.toArray true).wp P Q a w := by
  subst hn
  exact wp_region_any hm (by rw [upTo_zero]; exact h)
theorem plan_end (n : Nat) (hn : n = l.length) (h : Q .normal a w) : wpAny P md l.toArray Q 0 (upTo n n) a w := by
  subst hn
  refine ⟨?_, h⟩
  refine List.eq_nil_iff_forall_not_mem.2 fun j hj => ?_
  obtain ⟨hun, o, ho, -⟩ := mem_ready.1 hj
  have hlt : j < l.length := by simpa using (Array.getElem?_eq_some_iff.1 ho).1
  rw [upTo_at, if_pos hlt] at hun
  have : l.length ≤ j := by simpa using hun
  omega
/-- A piece of reads, behind which nothing comes up before all came. -/
theorem plan_still (n k m g : Nat) (hf : fuel = m + g) (hsel : Region.noSelect l.toArray = true) (hm : ((l.drop k).take m).length = m) (hs : decide (k + m < l.toArray.size) = true) (hB : segB md l.toArray k (k + m) = true) (hI : segInvB md l.toArray k (k + m) (upTo n k) = true) (hx : segLex md l.toArray (k + m) m k (upTo n k) = true)
    (h : ∀ K : Act → Prop, (∀ a, wpAny P md l.toArray Q g (upTo n (k + m)) a w → K a) → wpStill P l.toArray w K ((l.drop k).take m) a) : wpAny P md l.toArray Q fuel (upTo n k) a w := by
  subst hf
  have := wpAny_seg (P := P) (md := md) (Q := Q) (g := g) (w := w) (k := k) (s := k + m) hsel ((l.drop k).take m) (upTo n k) a (take_at l k m) (by rw [hm]) (of_decide_eq_true hs) hB hI (by rw [hm]; exact hx) (by rw [hm, listTo_up]; exact h _ fun _ h => h)
  rwa [hm] at this
end
section
variable {P : Program} {md : Region.Mode} {l : List Oper} {Q : Exit → Act → World → Prop} {listed : Array Bool} {a : Act} {w : World} {fuel : Nat}
theorem wpOp_list {i : Nat} {o : Oper} {K : Act → World → Prop} (hi : l.toArray[i]? = some o) (h : wpList P l.toArray (Exit.then K Q) [o] a w) : wpOp P l.toArray Q i K a w := by
  refine wpOp_then (K' := K) ?_
  unfold wpOp
  simp only [hi]
  exact h
/-- One may come up. -/
theorem plan_one (i : Nat) {o : Oper} (hr : Region.ready md l.toArray listed = [i]) (hi : l.toArray[i]? = some o) (h : ∀ K : Act → World → Prop, (∀ a w, wpAny P md l.toArray Q fuel (listed.setIfInBounds i true) a w → K a w) → wpList P l.toArray (Exit.then K Q) [o] a w) :
    wpAny P md l.toArray Q (fuel + 1) listed a w := by
  refine ⟨fun h0 => (by rw [hr] at h0; cases h0), fun j hj => ?_⟩
  rw [hr] at hj
  obtain rfl : j = i := by simpa using hj
  exact wpOp_list hi (h _ fun _ _ h => h)
/-- One of two may come up. -/
theorem plan_two (i j : Nat) {o o' : Oper} (hr : Region.ready md l.toArray listed = [i, j]) (hi : l.toArray[i]? = some o) (hj : l.toArray[j]? = some o')
    (h : ∀ K : Act → World → Prop, (∀ a w, wpAny P md l.toArray Q fuel (listed.setIfInBounds i true) a w → K a w) → wpList P l.toArray (Exit.then K Q) [o] a w)
    (h' : ∀ K : Act → World → Prop, (∀ a w, wpAny P md l.toArray Q fuel (listed.setIfInBounds j true) a w → K a w) → wpList P l.toArray (Exit.then K Q) [o'] a w) :
    wpAny P md l.toArray Q (fuel + 1) listed a w := by
  refine ⟨fun h0 => (by rw [hr] at h0; cases h0), fun m hm => ?_⟩
  rw [hr] at hm
  rcases (by simpa using hm : m = i ∨ m = j) with rfl | rfl
  · exact wpOp_list hi (h _ fun _ _ h => h)
  · exact wpOp_list hj (h' _ fun _ _ h => h)
/-- A move is taken first. -/
theorem plan_move (i : Nat) {o : Oper} (hi : l.toArray[i]? = some o) (hm : isMove o = true) (hsel : Region.noSelect l.toArray = true) (hQ : ∀ c d v a w, Q (.panic c) (Act.put a d v) w → Q (.panic c) a w) (hf : Region.free md l.toArray listed i = true) (hr : (Region.ready md l.toArray listed).contains i = true)
    (h : ∀ K : Act → World → Prop, (∀ a w, wpAny P md l.toArray Q fuel (listed.setIfInBounds i true) a w → K a w) → wpList P l.toArray (Exit.then K Q) [o] a w) :
    wpAny P md l.toArray Q (fuel + 1) listed a w := by
  obtain ⟨v, hy⟩ := move_yields (P := P) (ops := l.toArray) hm a
  exact wpAny_take hi hsel hf hr (fun c a w hq => hQ c o.dst v a w hq) hy (wpList_move hy hm (h (wpAny P md l.toArray Q fuel (listed.setIfInBounds i true)) fun _ _ h => h))
/-- All have come. -/
theorem plan_done (hr : Region.ready md l.toArray listed = []) (h : Q .normal a w) : wpAny P md l.toArray Q 0 listed a w := ⟨hr, h⟩
end
end Go.Proofs.Ytnibllkcacalhaa
namespace Go.Proofs.Ytnibllkcacalhaa
set_option maxRecDepth 100000
open Go.RowKit
theorem infoCe : (Try.prog.info? 49).map (fun i => (i.zero, i.size)) = some (some (.agg #[.int .u8 0, .int .i64 0, .int .u32 0]), 3) := by kernel_rfl
theorem bytesCe : (Try.prog.info? 49).map (fun i => i.bytes) = some 24 := by kernel_rfl
theorem infoCe' : ∃ i, Try.prog.info? 49 = some i ∧ i.zero = some (.agg #[.int .u8 0, .int .i64 0, .int .u32 0]) ∧ i.size = 3 ∧ i.bytes = 24 := by
  have h := infoCe
  have h' := bytesCe
  cases hh : Try.prog.info? 49 with
  | none => rw [hh] at h; cases h
  | some i => rw [hh] at h h'; simp at h h'; exact ⟨i, rfl, h.1, h.2, h'⟩
set_option maxHeartbeats 1000000 in
theorem clone_e (K : Nat → Prop) (v : Value) (xs : List Value) (n : Nat) (w : World) (h : SlZ w K 3 v xs) (hl : xs.length = n * 3) (hK : ∀ k, K k → k < w.heap.size) (h1 : ∀ u ∈ xs, u.oneCell' = true) (hn : n ≤ 1000000) :
    Calls Try.prog 54 #[v] w fun e w' => ∃ v', e = .returned v' ∧ w'.ownsRow w.heap.size 49 3 v' n xs ∧ Frm (fun _ => False) w w' := by
  obtain ⟨A, n', c, rfl, hn', hc, hcm, hx⟩ := id h
  have hnn : n' = n := by omega
  subst hnn
  obtain ⟨i0, hi, hz0, hz1, hz2⟩ := infoCe'
  cases A with
  | none =>
    have h0 : n' = 0 := hx.elim id fun ⟨_, _, h, _⟩ => by cases h
    have hxs : xs = [] := List.eq_nil_of_length_eq_zero (by simp [hl, h0])
    have he : ∀ w, (binOp .eql 43 (.slice none n' c) (.slice none 0 0)).run Try.prog w = .ok (.bool true) w := fun _ => rfl
    have H := Lib.hid (And.intro h0 hxs)
    clear h hx h0 hxs hl hn'
    go_enter Try.func54, Try.ntmps54
    go_wp2_with fail
    go_ret
    obtain ⟨h0, hxs⟩ := H.out
    subst h0 hxs
    exact ⟨_, rfl, World.ownsRow_nil _ _ _ _, Frm.refl _ _⟩
  | some a =>
    have he : ∀ w, (binOp .eql 43 (.slice (some a) n' c) (.slice none 0 0)).run Try.prog w = .ok (.bool false) w := fun _ => rfl
    have H := Lib.hid (And.intro h (And.intro hK (And.intro h1 hl)))
    clear h hx hl hn' hK h1
    have hfr : ∀ w2, (w.alloc (Obj.cells #[] 49)).grownBy w2 (Value.slice (some ⟨w.heap.size, 0, none⟩) 0 0).ownBlock → Frm (fun _ => False) w w2 := fun w2 hg => ((Frm.refl _ w).alloc _).grown hg (fun k hk => Or.inr (by have h : some w.heap.size = some k := hk; injection h; omega))
    have Hfr := Lib.hid hfr
    clear hfr
    go_enter Try.func54, Try.ntmps54
    go_wp2_with (at_builtin; refine wpList_append_slz (by rfl) _ _ 43 (by rfl) w.heap.size 49 i0 (.agg #[.int .u8 0, .int .i64 0, .int .u32 0]) 3 24 Try.underlying43 hi hz0 hz1 hz2 (by rfl) (by decide) _ 0 [] (by rfl) (World.ownsRow_made _ _ _ (Nat.le_refl _) (Nat.zero_le _) rfl) (fun k => k < w.heap.size) _ n' xs (by rfl) (by exact H.out.1.keptTo fun k hk => ⟨Below.heap_alloc _ _ _ (H.out.2.1 k hk), H.out.2.1 k hk⟩) H.out.2.2.2 H.out.2.2.1 (by unfold maxLen; omega) (by omega) (by simp) ?_; intro A2 N2 c2 w2 HN2 hNc2 hc2 hown2 hg2 hat2; have Hg2 := Lib.hid (And.intro hown2 (Hfr.out w2 hg2)); clear hg2 hat2 hown2)
    go_ret
    have hN : N2 = n' := by have := HN2.out; omega
    subst hN
    exact ⟨_, rfl, by simpa using Hg2.out.1, Hg2.out.2⟩
end Go.Proofs.Ytnibllkcacalhaa
namespace Go.Proofs.Ytnibllkcacalhaa
set_option maxRecDepth 100000
open Go.RowKit
theorem infoCu : (Try.prog.info? 44).map (fun i => (i.zero, i.size)) = some (some (.int .u32 0), 1) := by kernel_rfl
theorem bytesCu : (Try.prog.info? 44).map (fun i => i.bytes) = some 4 := by kernel_rfl
theorem infoCu' : ∃ i, Try.prog.info? 44 = some i ∧ i.zero = some (.int .u32 0) ∧ i.size = 1 ∧ i.bytes = 4 := by
  have h := infoCu
  have h' := bytesCu
  cases hh : Try.prog.info? 44 with
  | none => rw [hh] at h; cases h
  | some i => rw [hh] at h h'; simp at h h'; exact ⟨i, rfl, h.1, h.2, h'⟩
set_option maxHeartbeats 1000000 in
theorem clone_u (K : Nat → Prop) (v : Value) (xs : List Value) (n : Nat) (w : World) (h : SlZ w K 1 v xs) (hl : xs.length = n * 1) (hK : ∀ k, K k → k < w.heap.size) (h1 : ∀ u ∈ xs, u.oneCell' = true) (hn : n ≤ 1000000) :
    Calls Try.prog 53 #[v] w fun e w' => ∃ v', e = .returned v' ∧ w'.ownsRow w.heap.size 44 1 v' n xs ∧ Frm (fun _ => False) w w' := by
  obtain ⟨A, n', c, rfl, hn', hc, hcm, hx⟩ := id h
  have hnn : n' = n := by omega
  subst hnn
  obtain ⟨i0, hi, hz0, hz1, hz2⟩ := infoCu'
  cases A with
  | none =>
    have h0 : n' = 0 := hx.elim id fun ⟨_, _, h, _⟩ => by cases h
    have hxs : xs = [] := List.eq_nil_of_length_eq_zero (by simp [hl, h0])
    have he : ∀ w, (binOp .eql 50 (.slice none n' c) (.slice none 0 0)).run Try.prog w = .ok (.bool true) w := fun _ => rfl
    have H := Lib.hid (And.intro h0 hxs)
    clear h hx h0 hxs hl hn'
    go_enter Try.func53, Try.ntmps53
    go_wp2_with fail
    go_ret
    obtain ⟨h0, hxs⟩ := H.out
    subst h0 hxs
    exact ⟨_, rfl, World.ownsRow_nil _ _ _ _, Frm.refl _ _⟩
  | some a =>
    have he : ∀ w, (binOp .eql 50 (.slice (some a) n' c) (.slice none 0 0)).run Try.prog w = .ok (.bool false) w := fun _ => rfl
    have H := Lib.hid (And.intro h (And.intro hK (And.intro h1 hl)))
    clear h hx hl hn' hK h1
    have hfr : ∀ w2, (w.alloc (Obj.cells #[] 44)).grownBy w2 (Value.slice (some ⟨w.heap.size, 0, none⟩) 0 0).ownBlock → Frm (fun _ => False) w w2 := fun w2 hg => ((Frm.refl _ w).alloc _).grown hg (fun k hk => Or.inr (by have h : some w.heap.size = some k := hk; injection h; omega))
    have Hfr := Lib.hid hfr
    clear hfr
    go_enter Try.func53, Try.ntmps53
    go_wp2_with (at_builtin; refine wpList_append_slz (by rfl) _ _ 50 (by rfl) w.heap.size 44 i0 (.int .u32 0) 1 4 Try.underlying50 hi hz0 hz1 hz2 (by rfl) (by decide) _ 0 [] (by rfl) (World.ownsRow_made _ _ _ (Nat.le_refl _) (Nat.zero_le _) rfl) (fun k => k < w.heap.size) _ n' xs (by rfl) (by exact H.out.1.keptTo fun k hk => ⟨Below.heap_alloc _ _ _ (H.out.2.1 k hk), H.out.2.1 k hk⟩) H.out.2.2.2 H.out.2.2.1 (by unfold maxLen; omega) (by omega) (by simp) ?_; intro A2 N2 c2 w2 HN2 hNc2 hc2 hown2 hg2 hat2; have Hg2 := Lib.hid (And.intro hown2 (Hfr.out w2 hg2)); clear hg2 hat2 hown2)
    go_ret
    have hN : N2 = n' := by have := HN2.out; omega
    subst hN
    exact ⟨_, rfl, by simpa using Hg2.out.1, Hg2.out.2⟩
end Go.Proofs.Ytnibllkcacalhaa
namespace Go.Proofs.Ytnibllkcacalhaa
set_option maxRecDepth 100000
open Go.RowKit
theorem canB_at (d : Int) (k : Nat) (n : Int) (l : List Pi) (p : Pi) (hd : d = 1 ∨ d = 2) (hp : l[k]? = some p) : canB ⟨d, k, n⟩ l = canP d p := by
  unfold canB
  rw [if_pos hd]
  simp [hp]
set_option maxHeartbeats 1600000 in
theorem can_any (d q n : Int) (A : Option Addr) (n1 c1 : Nat) (ps : List Pk) (w : World) (h : PAt w (fun q => q < w.heap.size) (.slice A n1 c1) ps) (hq : d = 1 ∨ d = 2 → 0 ≤ q ∧ q < (n1 : Int)) :
    Calls Try.prog 71 #[.agg #[.int .u8 d, .int .i64 q, .int .u32 n], .slice A n1 c1] w fun e w' => e = .returned (.bool (canB ⟨d, q, n⟩ (ps.map (·.p)))) ∧ Frm (fun _ => False) w w' := by
  obtain ⟨hps, hnc, hcm, hcs⟩ := h.cells
  by_cases hd : d = 1 ∨ d = 2
  · obtain ⟨k, rfl⟩ : ∃ k : Nat, q = k := ⟨q.toNat, by have := hq hd; omega⟩
    have hk : k < n1 := by have := hq hd; omega
    have hkx : k < ps.length := by omega
    obtain ⟨g, o, rfl, hg, d0, d1, d2⟩ := hcs k hkx
    obtain ⟨a2, n2, c2, hv, hn2, -⟩ := h.2 ps[k] (List.getElem_mem hkx)
    rw [uv_length] at hn2
    rw [hv] at d1
    rw [canB_at d k n (ps.map (·.p)) ps[k].p hd (by rw [List.getElem?_map, List.getElem?_eq_getElem hkx]; rfl)]
    have Hc : Hid (canP d ps[k].p = if d = 1 then ps[k].p.closed || decide ((n2 : Int) < ps[k].p.room) else ps[k].p.closed || decide (0 < n2)) := Lib.hid (by unfold canP; rw [hn2])
    clear h hps hcs hv hn2 hq
    generalize ps[k].p.room = r at *
    generalize ps[k].p.closed = cl at *
    generalize canP d ps[k].p = B at *
    have hF0 : Frm (fun _ => False) w (w.alloc (.cells #[.int .u8 d, .int .i64 k, .int .u32 n] 49)) := (Frm.refl _ w).alloc _
    have e0 := hF0.cell d0 id
    have e1 := hF0.cell d1 id
    have e2 := hF0.cell d2 id
    have hrm : decide ((n2 : Int) < r) = true ∨ decide ((n2 : Int) < r) = false := by by_cases h : (n2 : Int) < r <;> simp [h]
    clear d0 d1 d2
    rcases hd with rfl | rfl
    · cases cl <;> rcases hrm with hrm | hrm
      all_goals
        go_enter Try.func71, Try.ntmps71
        go_wp2_with fail
        go_ret
        exact ⟨by rw [Hc.out]; simp [hrm], ((Frm.refl _ w).alloc _).alloc _⟩
    · rcases Nat.eq_zero_or_pos n2 with rfl | hn2
      · cases cl
        all_goals
          go_enter Try.func71, Try.ntmps71
          go_wp2_with fail
          go_ret
          exact ⟨by rw [Hc.out]; simp, ((Frm.refl _ w).alloc _).alloc _⟩
      · have g1 : decide ((0 : Int) < n2) = true := by simp; omega
        have g2 : decide (0 < n2) = true := by simp; omega
        go_enter Try.func71, Try.ntmps71
        go_wp2_with fail
        go_ret
        exact ⟨by rw [Hc.out]; simp [g2], ((Frm.refl _ w).alloc _).alloc _⟩
  · have e1 : (d == 1) = false := by simp; omega
    have e2 : (d == 2) = false := by simp; omega
    have hB : canB ⟨d, q, n⟩ (ps.map (·.p)) = true := by unfold canB; rw [if_neg hd]
    rw [hB]
    clear h hps hcs hq hd hB
    go_enter Try.func71, Try.ntmps71
    go_wp2_with fail
    go_ret
    exact ⟨rfl, (Frm.refl _ w).alloc _⟩
end Go.Proofs.Ytnibllkcacalhaa
namespace Go.Proofs.Ytnibllkcacalhaa
set_option maxRecDepth 100000
open Go.RowKit
theorem over_any (A : Option Addr) (n c : Nat) (a s r : Int) (w : World) : Calls Try.prog 63 #[.agg #[.slice A n c, .int .i64 a, .int .u32 s, .int .i64 r]] w fun e w' => e = .returned (.bool (decide (a = (n : Int)))) ∧ Frm (fun _ => False) w w' := by
  have hb : (a == (n : Int)) = decide (a = (n : Int)) := by by_cases h : a = (n : Int) <;> simp [h]
  generalize decide (a = (n : Int)) = b at *
  go_enter Try.func63, Try.ntmps63
  go_wp2_with fail
  go_ret
  exact ⟨rfl, (Frm.refl _ w).alloc _⟩
theorem rover_any (A : Option Addr) (n c : Nat) (a s r : Int) (w : World) : Calls Try.prog 31 #[.agg #[.slice A n c, .int .i64 a, .int .u32 s, .int .i64 r]] w fun e w' => e = .returned (.bool (decide (a = (n : Int)))) ∧ Frm (fun _ => False) w w' := by
  have hb : (a == (n : Int)) = decide (a = (n : Int)) := by by_cases h : a = (n : Int) <;> simp [h]
  generalize decide (a = (n : Int)) = b at *
  go_enter Try.func31, Try.ntmps31
  go_wp2_with fail
  go_ret
  exact ⟨rfl, (Frm.refl _ w).alloc _⟩
def greatB (row : Nat) (ps : List Pk) : Prop := row ≤ 80 ∧ ps.length ≤ 12 ∧ ∀ p ∈ ps, p.p.ins.length ≤ 30
def GreatPost (row : Nat) (ps : List Pk) (w : World) (e : Ending) (w' : World) : Prop := ∃ g : Bool, e = .returned (.bool g) ∧ Frm (fun _ => False) w w' ∧ (g = false → greatB row ps)
set_option maxHeartbeats 1600000 in
theorem great_any (A : Option Addr) (n c : Nat) (a s r : Int) (A1 : Option Addr) (n1 c1 : Nat) (ps : List Pk) (w : World) (h : PAt w (fun q => q < w.heap.size) (.slice A1 n1 c1) ps) :
    Calls Try.prog 33 #[.agg #[.slice A n c, .int .i64 a, .int .u32 s, .int .i64 r], .slice A1 n1 c1] w (GreatPost n ps w) := by
  obtain ⟨hps, hnc, hcm, hcs⟩ := h.cells
  have H := Lib.hid (And.intro hps (And.intro hcs h.2))
  clear h hps hcs
  go_enter Try.func33, Try.ntmps33
  go_wp2_with fail
  have hF0 : Frm (fun _ => False) w (w.alloc (.cells #[.slice A n c, .int .i64 a, .int .u32 s, .int .i64 r] 46)) := (Frm.refl _ w).alloc _
  have hk0 := Blk.new w 46 #[.slice A n c, .int .i64 a, .int .u32 s, .int .i64 r]
  obtain ⟨gc, hgc⟩ : ∃ g, g = w.heap.size := ⟨_, rfl⟩
  rw [← hgc] at hk0 ⊢
  generalize w.alloc (.cells #[.slice A n c, .int .i64 a, .int .u32 s, .int .i64 r] 46) = W0 at *
  have c0 : W0.cell? ⟨gc, 0, none⟩ = some (.slice A n c) := hk0.cell 0
  have H0 := Lib.hid hF0
  clear hF0 hk0 hgc
  go_loopw [5] (fun i wr => ∃ k : Nat, k ≤ n1 ∧ k ≤ 20 ∧ i = .int .i64 k ∧ wr = W0 ∧ ∀ p ∈ ps.take k, p.p.ins.length ≤ 30) (fun i _ => n1 - (intOf i).toNat)
  case atStart => exact ⟨0, Nat.zero_le _, by omega, rfl, rfl, by simp⟩
  case round =>
    obtain ⟨k, hk, hk20, rfl, rfl, hno⟩ := hrel
    have Hno := Lib.hid hno
    clear hno
    by_cases hlt : k < n1
    · by_cases h20 : k < 20
      · obtain ⟨hps, hcs, hsl⟩ := H.out
        have hkx : k < ps.length := by omega
        obtain ⟨g, o, rfl, hg, -, d1, -⟩ := hcs k hkx
        replace d1 := H0.out.cell d1 id
        obtain ⟨a2, n2, c2, hv, hn2, -⟩ := hsl ps[k] (List.getElem_mem hkx)
        rw [uv_length] at hn2
        rw [hv] at d1
        have hts : ps.take (k + 1) = ps.take k ++ [ps[k]] := List.take_succ_eq_append_getElem hkx
        have HS := Lib.hid (And.intro hn2 hts)
        clear hps hcs hsl hv hn2 hts hg
        by_cases h30 : (30 : Int) < n2
        · go_wp2_with fail
          go_ret
          exact ⟨true, rfl, H0.out, fun h => by cases h⟩
        · go_wp2_with fail
          go_roundw
          case rel => exact ⟨k + 1, by omega, by omega, by go_num, trivial, by
            rw [HS.out.2]
            intro p hp
            rcases List.mem_append.1 hp with h | h
            · exact Hno.out p h
            · simp at h; subst h; have := HS.out.1; omega⟩
          case measure => simp [intOf]; omega
      · have g1 : decide ((12 : Int) < n1) = true := by simp; omega
        have g2 : decide ((k : Int) < 20) = false := by simp; omega
        by_cases h80 : (80 : Int) < n
        · go_wp2_with fail
          go_ret
          exact ⟨true, rfl, H0.out, fun h => by cases h⟩
        · go_wp2_with fail
          go_ret
          exact ⟨true, rfl, H0.out, fun h => by cases h⟩
    · obtain rfl : k = n1 := by omega
      by_cases h80 : (80 : Int) < n
      · go_wp2_with fail
        go_ret
        exact ⟨true, rfl, H0.out, fun h => by cases h⟩
      · by_cases h12 : (12 : Int) < k
        · go_wp2_with fail
          go_ret
          exact ⟨true, rfl, H0.out, fun h => by cases h⟩
        · go_wp2_with fail
          go_ret
          have hps := H.out.1
          exact ⟨false, by simp, H0.out, fun _ => ⟨by omega, by omega, fun p hp => Hno.out p (by rw [List.take_of_length_le (by omega)]; exact hp)⟩⟩
end Go.Proofs.Ytnibllkcacalhaa
namespace Go.Proofs.Ytnibllkcacalhaa
set_option maxRecDepth 100000
open Go.RowKit
set_option maxHeartbeats 1600000 in
theorem rpipes_any (A : Option Addr) (n c : Nat) (ps : List Pk) (w : World) (h : PAt w (fun q => q < w.heap.size) (.slice A n c) ps) (hn : n ≤ 1000000) : Calls Try.prog 43 #[.slice A n c] w (PipesPost ps w) := by
  obtain ⟨hps, hnc, hcm, hcs⟩ := h.cells
  have H := Lib.hid (And.intro hps (And.intro hcs h.2))
  clear h hps hcs
  go_enter Try.func43, Try.ntmps43
  go_wp2_with fail
  go_loopw [3] (fun i wr => ∃ k : Nat, k ≤ n ∧ i = .int .i64 k ∧ Hid (Frm (fun _ => False) w wr ∧ (ps.take k).all pipeH = true)) (fun i _ => n - (intOf i).toNat)
  case atStart => exact ⟨0, Nat.zero_le _, rfl, Lib.hid ⟨Frm.refl _ _, rfl⟩⟩
  case round =>
    obtain ⟨k, hk, rfl, hT⟩ := hrel
    by_cases hlt : k < n
    · obtain ⟨hps, hcs, hsl⟩ := H.out
      have hkx : k < ps.length := by omega
      obtain ⟨g, o, rfl, hg, d0, d1, -⟩ := hcs k hkx
      replace d0 := hT.out.1.cell d0 id
      replace d1 := hT.out.1.cell d1 id
      obtain ⟨a2, n2, c2, hv, hn2, -⟩ := hsl ps[k] (List.getElem_mem hkx)
      rw [uv_length] at hn2
      rw [hv] at d1
      have hpc := pipeH_cases ps[k] n2 hn2
      have hts : ps.take (k + 1) = ps.take k ++ [ps[k]] := List.take_succ_eq_append_getElem hkx
      have hno : pipeH ps[k] = false → pipesB (ps.map (·.p)) = false := fun hp => by
        unfold pipesB
        rw [List.all_map]
        have : ps.all (pipeB ∘ fun x => x.p) = false := by
          rw [List.all_eq_false]
          exact ⟨_, List.getElem_mem hkx, by have h : pipeB ps[k].p = false := hp; simp [h]⟩
        rw [this, Bool.false_and]
      have HS := Lib.hid (And.intro hts (And.intro hno (rfl : pipeH ps[k] = pipeH ps[k])))
      clear hps hcs hsl hv hn2 hts hg hno
      generalize ps[k].p.room = r at *
      generalize hB : pipeH ps[k] = B at hpc HS
      have hB' := Lib.hid hB
      clear hB
      rcases hpc with ⟨rfl, h1, h2, h3⟩ | ⟨rfl, h1 | ⟨h1, h2⟩ | ⟨h1, h2, h3⟩⟩
      · go_wp2_with fail
        go_quiet (fail)
        go_wp2_with fail
        go_roundw
        case rel => exact ⟨k + 1, by omega, by go_num, Lib.hid ⟨hT.out.1.trans ((Frm.refl (fun _ => False) wr).drewN _) fun _ h => h.elim, by rw [HS.out.1, List.all_append, hT.out.2]; simp [hB'.out]⟩⟩
        case measure => simp [intOf]; omega
      all_goals
        have Hr := Lib.hid (HS.out.2.1 rfl)
        go_wp2_with fail
        go_quiet (fail)
        go_wp2_with fail
        go_ret
        exact ⟨by rw [Hr.out]; rfl, hT.out.1.trans ((Frm.refl (fun _ => False) wr).drewN _) fun _ h => h.elim⟩
    · obtain rfl : k = n := by omega
      have hp : pipesB (ps.map (·.p)) = decide ((k : Int) ≤ 8) := by
        have hps := H.out.1
        unfold pipesB
        rw [List.all_map, List.length_map]
        have h2 := hT.out.2
        rw [List.take_of_length_le (by omega)] at h2
        have : ps.all (pipeB ∘ fun x => x.p) = true := h2
        rw [this, Bool.true_and]
        by_cases h : k ≤ 8
        · rw [decide_eq_true (by omega), decide_eq_true (by omega)]
        · rw [decide_eq_false (by omega), decide_eq_false (by omega)]
      have Hp := Lib.hid hp
      clear hp
      go_wp2_with fail
      go_ret
      exact ⟨by rw [Hp.out]; rfl, hT.out.1⟩
end Go.Proofs.Ytnibllkcacalhaa
namespace Go.Proofs.Ytnibllkcacalhaa
set_option maxRecDepth 100000
open Go.RowKit
def EqPost {α : Type} [DecidableEq α] (xs ys : List α) (w : World) (e : Ending) (w' : World) : Prop := e = .returned (.bool (decide (xs = ys))) ∧ ∃ k, w' = w.drewN k
set_option maxHeartbeats 1000000 in
theorem equal_e (K K' : Nat → Prop) (v u : Value) (xs ys : List Er) (w : World) (h : RAt w K v xs) (h' : RAt w K' u ys) :
    Calls Try.prog 70 #[v, u] w (EqPost xs ys w) := by
  obtain ⟨A, n, c, rfl, -⟩ := id h
  obtain ⟨B, m, d, rfl, -⟩ := id h'
  obtain ⟨hn, hc, hm, hx⟩ := h.cells
  obtain ⟨hn', hc', hm', hx'⟩ := h'.cells
  clear h h'
  by_cases hnm : n = m
  · subst hnm
    have hd : decide (n = n) = true := by simp
    have H := Lib.hid (And.intro hn (And.intro hn' (And.intro hx hx')))
    clear hn hn' hx hx'
    go_enter Try.func70, Try.ntmps70
    go_wp2_with fail
    go_loopw [13] (fun i wr => ∃ k q : Nat, k ≤ n ∧ i = .int .i64 k ∧ xs.take k = ys.take k ∧ wr = w.drewN q) (fun i _ => n - (intOf i).toNat)
    case atStart => exact ⟨0, 0, Nat.zero_le _, rfl, by simp, rfl⟩
    case round =>
      obtain ⟨k, q, hk, rfl, ht, rfl⟩ := hrel
      by_cases hlt : k < n
      · obtain ⟨hn, hn', hx, hx'⟩ := H.out
        have hkx : k < xs.length := by omega
        have hky : k < ys.length := by omega
        obtain ⟨g, o, rfl, _, c1, c2, c3⟩ := hx k hkx
        obtain ⟨g', o', rfl, _, b1, b2, b3⟩ := hx' k hky
        have e1 : xs.take (k + 1) = xs.take k ++ [xs[k]] := List.take_succ_eq_append_getElem hkx
        have e2 : ys.take (k + 1) = ys.take k ++ [ys[k]] := List.take_succ_eq_append_getElem hky
        have hne : xs[k] ≠ ys[k] → xs ≠ ys := fun h1 h2 => by subst h2; exact h1 rfl
        have H2 := Lib.hid (And.intro ht (And.intro e1 (And.intro e2 hne)))
        clear hx hx' hn hn' ht e1 e2 hne
        generalize xs[k] = x at *
        generalize ys[k] = y at *
        obtain ⟨x1, x2, x3⟩ := x
        obtain ⟨y1, y2, y3⟩ := y
        dsimp only at c1 c2 c3 b1 b2 b3
        have fin : (⟨x1, x2, x3⟩ : Er) ≠ ⟨y1, y2, y3⟩ → decide (xs = ys) = false := fun h => by simpa using H2.out.2.2.2 h
        have H3 := Lib.hid fin
        clear fin
        cases h1 : (x1 == y1)
        · have Hf := Lib.hid (H3.out (by intro h; injection h with h h'; subst h; simp at h1))
          go_wp2_with fail
          go_quiet (fail)
          rename_i nq
          go_wp2_with fail
          go_ret
          exact ⟨by rw [Hf.out]; rfl, q + nq, by rw [World.drewN_drewN]⟩
        · cases h2 : (x2 == y2)
          · have Hf := Lib.hid (H3.out (by intro h; injection h with h h'; subst h'; simp at h2))
            go_wp2_with fail
            go_quiet (fail)
            rename_i nq
            go_wp2_with fail
            go_ret
            exact ⟨by rw [Hf.out]; rfl, q + nq, by rw [World.drewN_drewN]⟩
          · cases h3 : (x3 == y3)
            · have Hf := Lib.hid (H3.out (by intro h; injection h with h h' h''; subst h''; simp at h3))
              go_wp2_with fail
              go_quiet (fail)
              rename_i nq
              go_wp2_with fail
              go_ret
              exact ⟨by rw [Hf.out]; rfl, q + nq, by rw [World.drewN_drewN]⟩
            · have Hxy : Hid (x1 = y1 ∧ x2 = y2 ∧ x3 = y3) := Lib.hid ⟨by simpa using h1, by simpa using h2, by simpa using h3⟩
              go_wp2_with fail
              go_quiet (fail)
              rename_i nq
              go_wp2_with fail
              go_roundw
              case rel => exact ⟨k + 1, q + nq, by omega, by go_num, by rw [H2.out.2.1, H2.out.2.2.1, H2.out.1, Hxy.out.1, Hxy.out.2.1, Hxy.out.2.2], rfl⟩
              case measure => simp [intOf]; omega
      · obtain rfl : k = n := by omega
        have Hf : Hid (decide (xs = ys) = true) := Lib.hid (by
          obtain ⟨hn, hn', _⟩ := H.out
          rw [List.take_of_length_le (by omega), List.take_of_length_le (by omega)] at ht
          simpa using ht)
        clear ht
        go_wp2_with fail
        go_ret
        exact ⟨by rw [Hf.out]; rfl, q, rfl⟩
  · have hb : ((n : Int) != (m : Int)) = true := by simp; omega
    have Hf : Hid (decide (xs = ys) = false) := Lib.hid (by
      simp only [decide_eq_false_iff_not]
      intro h; subst h; omega)
    clear hnm hx hx' hn hn'
    go_enter Try.func70, Try.ntmps70
    go_wp2_with fail
    go_ret
    exact ⟨by rw [Hf.out]; rfl, 0, rfl⟩
end Go.Proofs.Ytnibllkcacalhaa
namespace Go.Proofs.Ytnibllkcacalhaa
set_option maxRecDepth 100000
open Go.RowKit
set_option maxHeartbeats 1000000 in
theorem equal_u (K K' : Nat → Prop) (v u : Value) (xs ys : List Int) (w : World) (h : Sl w K v (uv xs)) (h' : Sl w K' u (uv ys)) :
    Calls Try.prog 69 #[v, u] w (EqPost xs ys w) := by
  obtain ⟨A, n, c, rfl, hn, hc, hm, hx⟩ := h
  obtain ⟨B, m, d, rfl, hn', hc', hm', hx'⟩ := h'
  rw [uv_length] at hn hn'
  by_cases hnm : n = m
  · subst hnm
    have hd : decide (n = n) = true := by simp
    have H := Lib.hid (And.intro hn (And.intro hn' (And.intro hx hx')))
    clear hn hn' hx hx'
    go_enter Try.func69, Try.ntmps69
    go_wp2_with fail
    go_loopw [13] (fun i wr => ∃ k q : Nat, k ≤ n ∧ i = .int .i64 k ∧ xs.take k = ys.take k ∧ wr = w.drewN q) (fun i _ => n - (intOf i).toNat)
    case atStart => exact ⟨0, 0, Nat.zero_le _, rfl, by simp, rfl⟩
    case round =>
      obtain ⟨k, q, hk, rfl, ht, rfl⟩ := hrel
      by_cases hlt : k < n
      · obtain ⟨hn, hn', hx, hx'⟩ := H.out
        obtain ⟨g, o, rfl, _, hx⟩ := hx.resolve_left (by omega)
        obtain ⟨g', o', rfl, _, hx'⟩ := hx'.resolve_left (by omega)
        have hkx : k < xs.length := by omega
        have hky : k < ys.length := by omega
        have c1 : w.cell? ⟨g, o + k, none⟩ = some (.int .u32 xs[k]) := by rw [hx k (by rw [uv_length]; exact hkx)]; simp [uv]
        have c2 : w.cell? ⟨g', o' + k, none⟩ = some (.int .u32 ys[k]) := by rw [hx' k (by rw [uv_length]; exact hky)]; simp [uv]
        have e1 : xs.take (k + 1) = xs.take k ++ [xs[k]] := List.take_succ_eq_append_getElem hkx
        have e2 : ys.take (k + 1) = ys.take k ++ [ys[k]] := List.take_succ_eq_append_getElem hky
        have hne : xs[k] ≠ ys[k] → xs ≠ ys := fun h1 h2 => by subst h2; exact h1 rfl
        have H2 := Lib.hid (And.intro ht (And.intro e1 (And.intro e2 hne)))
        clear hx hx' hn hn' ht e1 e2 hne
        generalize xs[k] = x at *
        generalize ys[k] = y at *
        by_cases hxy : x = y
        · subst hxy
          have hb : (x != x) = false := by simp
          go_wp2_with fail
          go_quiet (fail)
          rename_i nq
          go_wp2_with fail
          go_roundw
          case rel => exact ⟨k + 1, q + nq, by omega, by go_num, by rw [H2.out.2.1, H2.out.2.2.1, H2.out.1], rfl⟩
          case measure => simp [intOf]; omega
        · have hb : (x != y) = true := by simpa using hxy
          have Hf : Hid (decide (xs = ys) = false) := Lib.hid (by simpa using H2.out.2.2.2 hxy)
          clear hxy
          go_wp2_with fail
          go_quiet (fail)
          rename_i nq
          go_wp2_with fail
          go_ret
          exact ⟨by rw [Hf.out]; rfl, q + nq, by rw [World.drewN_drewN]⟩
      · obtain rfl : k = n := by omega
        have Hf : Hid (decide (xs = ys) = true) := Lib.hid (by
          obtain ⟨hn, hn', _⟩ := H.out
          rw [List.take_of_length_le (by omega), List.take_of_length_le (by omega)] at ht
          simpa using ht)
        clear ht
        go_wp2_with fail
        go_ret
        exact ⟨by rw [Hf.out]; rfl, q, rfl⟩
  · have hb : ((n : Int) != (m : Int)) = true := by simp; omega
    have Hf : Hid (decide (xs = ys) = false) := Lib.hid (by
      simp only [decide_eq_false_iff_not]
      intro h; subst h; omega)
    clear hnm hx hx' hn hn'
    go_enter Try.func69, Try.ntmps69
    go_wp2_with fail
    go_ret
    exact ⟨by rw [Hf.out]; rfl, 0, rfl⟩
end Go.Proofs.Ytnibllkcacalhaa
namespace Go.Proofs.Ytnibllkcacalhaa
set_option maxRecDepth 100000
open Go.RowKit Go.Shelf
attribute [local go_sem] Oper.semAt_some
theorem infoI : (Try.prog.info? 3).map (fun i => (i.zero, i.size, i.bytes)) = some (some (.int .i64 0), 1, 8) := by kernel_rfl
def CollPost (xs : List Int) (w : World) (e : Ending) (w' : World) : Prop :=
  ∃ v, e = .returned v ∧ w'.ownsRow w.heap.size 3 1 v xs.length (xs.map iv) ∧ (v = .slice none 0 0 ↔ xs = []) ∧ Below w.heap.size w w'
theorem coll_fin {F : Fence} {m D : Nat} {xs : List Int} {w W : World} {t : Array Value} {v : Value} (hv : Boxed W w.heap.size 26 v) (hr : W.ownsRow w.heap.size 3 1 v xs.length (xs.map iv)) (hnil : v = .slice none 0 0 ↔ xs = []) (hB : Below w.heap.size w W)
    (hK : W.heap[D]? = some (.deferred (some []))) (hD : w.heap.size ≤ D) (ht : t.getD 4 undef = v) :
    bodyPostM F m Try.prog Try.f58 (CollPost xs w) Exit.normal { tmps := t, defers := [{ target := .collected D, args := #[] }] } W := by
  refine ⟨by simp, .inl ⟨_, _, rfl, run_takeDeferred hK, ?_⟩⟩
  refine ⟨v, by rw [results_tmp (t := 4) rfl, ht], _, rfl, ownsRow_putObj hr _ hK rfl, hnil, hB.trans (belowK_b (w := w) (Nat.le_refl _) W D _ _ hD hK rfl rfl)⟩
set_option maxRecDepth 100000 in
set_option maxHeartbeats 2000000 in
theorem appendSeq_in (F : Fence) (m : Nat) (h35 : F.fn 58) (hro : F.round = none) (hn : 3 ≤ m) (gf : Nat) (lb : Array Value) (hgf : F.fn gf) (eg : ∀ args w, (callFunc gf args).run Try.prog w = .ok (.enter gf args) w)
    (xs : List Int) (hN : xs.length ≤ 100000000) (w : World) (hseq : SeqStopsK F (m - 1) Try.prog gf lb (fun x : Int => #[iv x]) (Below w.heap.size) (fun ys => ys = xs) (fun pre => pre <+: xs) xs.length w) :
    CallsIn F m Try.prog 58 #[.slice none 0 0, .func (.func gf) #[] lb] w (CollPost xs w) := by
  have h1 : 1 ≤ m := by omega
  obtain ⟨i0, hi, hz0, hz1, hz2⟩ := info_parts infoI
  refine callsIn_of_wp_marks Try.func58 rfl h35 ?_ hro
  simp only [Try.ntmps58, List.size_toArray, List.length_cons, List.length_nil, Nat.reduceAdd, Nat.reduceSub, Array.replicate_succ, Array.replicate_zero, List.push_toArray, List.append_toArray, List.nil_append, List.cons_append]
  have Hseq := Lib.hid hseq
  clear hseq
  gi_wp2
  have hb0 : Below w.heap.size w (w.alloc (.cells #[.slice none 0 0] 26)) := (Below.refl _ _).alloc (Nat.le_refl _) _
  have hbx : Boxed (w.alloc (.cells #[.slice none 0 0] 26)) w.heap.size 26 (.slice none 0 0) := Boxed.new _ _ _
  have hsz : (w.alloc (.cells #[.slice none 0 0] 26)).heap.size = w.heap.size + 1 := by simp
  generalize hW0 : w.alloc (.cells #[.slice none 0 0] 26) = W0 at *
  refine wpIn_rangeFunc_ownF hro h1 (gf := gf) (lb := lb) rfl hgf eg Hseq.out belowK_t (belowK_b (by omega)) hb0 (fun _ => rfl)
    (fun pre W => (∃ v, Boxed W w.heap.size 26 v ∧ W.ownsRow w.heap.size 3 1 v pre.length (pre.map iv) ∧ (v = .slice none 0 0 ↔ pre = [])) ∧ Below w.heap.size w W)
    (fun _ _ _ => False)
    (OwnFrom.and (Own.from (holdsRow_own w.heap.size w.heap.size 26 3 1 List.length (fun pre => pre.map iv) (fun pre v => v = .slice none 0 0 ↔ pre = [])) _) (ownFrom_below (Nat.le_refl _) (by omega)))
    (fun _ _ _ _ _ hs => hs.elim)
    ⟨⟨_, hbx, World.ownsRow_nil _ _ _ _, by simp⟩, hb0⟩
    (fun x => { tmps := #[.slice none 0 0, .func (.func gf) #[] lb, .pointer (some ⟨w.heap.size, 0, none⟩), undef, .slice none 0 0, iv x, .func (.func gf) #[] lb, iv x, undef, undef, undef, undef, undef], defers := [] }) ?assign ?body ?done ?stop
  case assign =>
    intro l x W K hK
    gi_wp2
    exact hK
  case body =>
    rintro l pre x W ⟨⟨v, hv, hr, hnil⟩, hB⟩ hl
    have hc := hv.cell
    have hf := hv.frozen
    have Hl := Lib.hid hl
    have Hn := Lib.hid hnil
    clear hl hnil
    simp only [iv]
    gi_wp2_with (gi_at_builtin; refine wpListIn_append_own _ rfl _ _ 26 rfl w.heap.size 3 i0 (.int .i64 0) 1 8 Try.underlying26 hi hz0 hz1 hz2 rfl (by decide) _ _ _ rfl (hr.alloc _) ⟨W.heap.size, 0, none⟩ 1 1 [iv x] rfl rfl (cell_one_new _ _ _) (by simp [Value.oneCell', iv]) (by unfold maxLen; have := Hl.out; omega) (by have := Hl.out; omega) (by have := hB.size; simp; omega) ?_; intro v' w1 hown' hgrow _; obtain ⟨g', cap', rfl⟩ := ownsRow_succ hown'; obtain ⟨hv1, hv2, hr2, hk2, hb2⟩ := hv.appended (by decide) hr hB.size (Nat.le_refl _) hown' hgrow; have hc1 := hv1.cell; have hf1 := hv1.frozen)
    exact ⟨hk2, hb2, ⟨_, hv2, by simpa [iv] using hr2, by simp⟩, hB.trans hb2⟩
  case done =>
    rintro D ys W hD rfl ⟨⟨v, hv, hr, hnil⟩, hB⟩ hK
    have hc := hv.cell
    have Hn := Lib.hid hnil
    clear hnil
    gi_wp2
    exact coll_fin hv hr Hn.out hB hK (by omega) rfl
  case stop =>
    rintro D c pre W _ _ h _
    exact h.elim
theorem collect_in (F : Fence) (m : Nat) (h30 : F.fn 39) (h35 : F.fn 58) (hro : F.round = none) (hn : 4 ≤ m) (gf : Nat) (lb : Array Value) (hgf : F.fn gf) (eg : ∀ args w, (callFunc gf args).run Try.prog w = .ok (.enter gf args) w)
    (xs : List Int) (hN : xs.length ≤ 100000000) (w : World) (hseq : SeqStopsK F (m - 1 - 1) Try.prog gf lb (fun x : Int => #[iv x]) (Below w.heap.size) (fun ys => ys = xs) (fun pre => pre <+: xs) xs.length w) :
    CallsIn F m Try.prog 39 #[.func (.func gf) #[] lb] w (CollPost xs w) := by
  refine callsIn_of_wp Try.func39 rfl h30 ?_ hro
  simp only [Try.ntmps39, List.size_toArray, List.length_cons, List.length_nil, Nat.reduceAdd, Nat.reduceSub, Array.replicate_succ, Array.replicate_zero, List.push_toArray, List.append_toArray, List.nil_append, List.cons_append]
  have h1 : 1 ≤ m := by omega
  gi_wp2_with (gi_at_call 58; refine (appendSeq_in F (m - 1) h35 hro (by omega) gf lb hgf eg xs hN _ hseq).mono ?_; rintro e w' ⟨v, rfl, hr, hnil, hB⟩)
  go_ret
  exact ⟨v, rfl, hr, hnil, hB⟩
theorem collect_calls (gf : Nat) (lb : Array Value) (eg : ∀ args w, (callFunc gf args).run Try.prog w = .ok (.enter gf args) w)
    (xs : List Int) (hN : xs.length ≤ 100000000) (w : World) (hseq : SeqStopsK Fence.wide 6 Try.prog gf lb (fun x : Int => #[iv x]) (Below w.heap.size) (fun ys => ys = xs) (fun pre => pre <+: xs) xs.length w) :
    Calls Try.prog 39 #[.func (.func gf) #[] lb] w (CollPost xs w) :=
  (callsIn_wide (n := 8)).1 (collect_in Fence.wide 8 trivial trivial rfl (by omega) gf lb trivial eg xs hN w hseq)
end Go.Proofs.Ytnibllkcacalhaa
namespace Go.Proofs.Ytnibllkcacalhaa
set_option maxRecDepth 100000
open Go.RowKit
def IntsPost (xs ys : List Int) (w : World) (e : Ending) (w' : World) : Prop := e = .returned (.bool (decide (xs = ys))) ∧ ∃ k, w' = w.drewN k
set_option maxHeartbeats 400000 in
theorem ints_any (v u : Value) (K K' : Nat → Prop) (xs ys : List Int) (w : World) (h : Sl w K v (xs.map iv)) (h' : Sl w K' u (ys.map iv)) :
    Calls Try.prog 19 #[v, u] w (IntsPost xs ys w) := by
  obtain ⟨A, n, c, rfl, hn, hc, hm, hx⟩ := h
  obtain ⟨B, m, d, rfl, hn', hc', hm', hx'⟩ := h'
  rw [List.length_map] at hn hn'
  by_cases hnm : n = m
  · subst hnm
    have hd : decide (n = n) = true := by simp
    have H := Lib.hid (And.intro hn (And.intro hn' (And.intro hx hx')))
    clear hn hn' hx hx'
    go_enter Try.func19, Try.ntmps19
    go_wp2_with fail
    go_loopw [5] (fun i wr => ∃ k q : Nat, k ≤ n ∧ i = .int .i64 k ∧ xs.take k = ys.take k ∧ wr = w.drewN q) (fun i _ => n - (intOf i).toNat)
    case atStart => exact ⟨0, 0, Nat.zero_le _, rfl, by simp, rfl⟩
    case round =>
      obtain ⟨k, q, hk, rfl, ht, rfl⟩ := hrel
      by_cases hlt : k < n
      · obtain ⟨hn, hn', hx, hx'⟩ := H.out
        obtain ⟨g, o, rfl, _, hx⟩ := hx.resolve_left (by omega)
        obtain ⟨g', o', rfl, _, hx'⟩ := hx'.resolve_left (by omega)
        have hkx : k < xs.length := by omega
        have hky : k < ys.length := by omega
        have c1 : w.cell? ⟨g, o + k, none⟩ = some (.int .i64 xs[k]) := by rw [hx k (by simpa using hkx)]; simp [iv]
        have c2 : w.cell? ⟨g', o' + k, none⟩ = some (.int .i64 ys[k]) := by rw [hx' k (by simpa using hky)]; simp [iv]
        have e1 : xs.take (k + 1) = xs.take k ++ [xs[k]] := List.take_succ_eq_append_getElem hkx
        have e2 : ys.take (k + 1) = ys.take k ++ [ys[k]] := List.take_succ_eq_append_getElem hky
        have hne : xs[k] ≠ ys[k] → xs ≠ ys := fun h1 h2 => by subst h2; exact h1 rfl
        have H2 := Lib.hid (And.intro ht (And.intro e1 (And.intro e2 hne)))
        clear hx hx' hn hn' ht e1 e2 hne
        generalize xs[k] = x at *
        generalize ys[k] = y at *
        by_cases hxy : x = y
        · subst hxy
          have hb : (x != x) = false := by simp
          go_wp2_with fail
          go_quiet (fail)
          rename_i nq
          go_wp2_with fail
          go_roundw
          case rel => exact ⟨k + 1, q + nq, by omega, by go_num, by rw [H2.out.2.1, H2.out.2.2.1, H2.out.1], rfl⟩
          case measure => simp [intOf]; omega
        · have hb : (x != y) = true := by simpa using hxy
          have hf : decide (xs = ys) = false := by simpa using H2.out.2.2.2 hxy
          have Hf := Lib.hid hf
          clear hxy hf
          go_wp2_with fail
          go_quiet (fail)
          rename_i nq
          go_wp2_with fail
          go_ret
          exact ⟨by rw [Hf.out]; rfl, q + nq, by rw [World.drewN_drewN]⟩
      · obtain rfl : k = n := by omega
        have hf : decide (xs = ys) = true := by
          obtain ⟨hn, hn', _⟩ := H.out
          rw [List.take_of_length_le (by omega), List.take_of_length_le (by omega)] at ht
          simpa using ht
        have Hf := Lib.hid hf
        clear ht hf
        go_wp2_with fail
        go_ret
        exact ⟨by rw [Hf.out]; rfl, q, rfl⟩
  · have hb : ((n : Int) != (m : Int)) = true := by simp; omega
    have hf : decide (xs = ys) = false := by
      simp only [decide_eq_false_iff_not]
      intro h; subst h; omega
    have Hf := Lib.hid hf
    clear hnm hf hx hx' hn hn'
    go_enter Try.func19, Try.ntmps19
    go_wp2_with fail
    go_ret
    exact ⟨by rw [Hf.out]; rfl, 0, rfl⟩
end Go.Proofs.Ytnibllkcacalhaa
namespace Go.Proofs.Ytnibllkcacalhaa
open Go.ChangeShapes Go.WideShapes Go.ChangeAt Go.RowKit Go.Deep
section
variable {H : Type} {enc : TypeId × Value → H} {P : Program}
theorem trodAll_below (hl : laidOutB P = true) {W W' : World} (hB : Below W.heap.size W W') : ∀ {ts : List TypeId} {vs : List Value} {ds : List (DataW H)} {ps : List MemPlace}, ts.all (fun t => P.readableRec t && decide (t < P.types.size)) = true →
    DataW.TrodAll enc P W 0 (fun _ => true) true ts vs ds ps → (∀ x ∈ ps, x.block < W.heap.size) → DataW.TrodAll enc P W' 0 (fun b => decide (b < W.heap.size)) true ts vs ds ps
  | [], vs, ds, ps, _, h, _ => by
    obtain ⟨rfl, rfl, rfl⟩ := trodAll_nil h
    exact trodAll_mk0
  | t :: ts, vs, ds, ps, hr, h, hlt => by
    obtain ⟨v, vs', d, ds', p, q, rfl, rfl, rfl, h1, h2⟩ := trodAll_cons h
    simp only [List.all_cons, Bool.and_eq_true, decide_eq_true_eq] at hr
    exact trodAll_cons_mk (Below.trod hl hr.1.1 hr.1.2 h1 hB fun x hx => hlt x (List.mem_append.2 (.inl hx)))
      (trodAll_below hl hB (by simpa using hr.2) h2 fun x hx => hlt x (List.mem_append.2 (.inr hx)))
/-- A law that answers true, and turns nothing of what was there, meets its row. -/
theorem law_post {f : Func} {s : ChangeSpec} {W W' : World} {args : Array Value} {ds gs : List (DataW H)} {before : List MemPlace} {tb : TypeId}
    (hW : DataW.Whole enc P f.params.toList s.vars false W args.toList ds gs before) (hv : s.vars = []) (hl : laidOutB P = true) (hr : f.params.toList.all (fun t => P.readableRec t && decide (t < P.types.size)) = true)
    (hres : f.resultTypes = #[tb]) (hb : P.underlying tb = some .bool) (hfn : s.fn H (ds ++ []) = { results := [.lit (.bool true)], args := ds }) (hB : Below W.heap.size W W') :
    s.post enc P f false true false false W args (.bool true) W' := by
  have hW' := hW
  obtain ⟨p, q, hA, hV, rfl, hfz, hnd⟩ := hW
  rw [hv] at hV
  obtain ⟨rfl, rfl⟩ := trodVars_none hV
  refine ⟨ds, [], _, [], p, [], hW', ?_, ?_, ?_, hB.frame _, fun h => by cases h⟩
  · rw [hfn, hres]
    exact trodAll_cons_mk (shut_bool hb _) trodAll_mk0
  · rw [hfn]
    exact trodAll_below hl hB hr hA fun x hx => hW'.lt x (by simpa using hx)
  · rw [hfn, hv]
    rfl
theorem read_bool {W : World} {base : Nat} {t : TypeId} {v : Value} {d : DataW H} {p : List MemPlace} (ht : P.underlying t = some .bool) (hok : Value.okWide P W .any base t v) (h : DataW.Trod enc P W 0 (fun _ => true) true t v d p) : ∃ b, v = .bool b := by
  obtain ⟨b, rfl, _⟩ := open_bool ht hok h
  exact ⟨b, rfl⟩
theorem read_int {W : World} {base : Nat} {t : TypeId} {k : IntKind} {v : Value} {d : DataW H} {p : List MemPlace} (ht : P.underlying t = some (.int k)) (hok : Value.okWide P W .any base t v) (h : DataW.Trod enc P W 0 (fun _ => true) true t v d p) : ∃ a, v = .int k a ∧ (Lit.int k a).wf = true := by
  obtain ⟨a, rfl, _, _, w⟩ := open_int ht hok h
  exact ⟨a, rfl, w⟩
theorem i64_range {a : Int} (h : (Lit.int .i64 a).wf = true) : -9223372036854775808 ≤ a ∧ a ≤ 9223372036854775807 := by
  simpa [Lit.wf, IntKind.min, IntKind.max, IntKind.signed, IntKind.bits] using h
theorem u8_of {a : Int} (h : (Lit.int .u8 a).wf = true) : a = ((UInt8.ofNat a.toNat).toNat : Int) := by
  have : 0 ≤ a ∧ a ≤ 255 := by simpa [Lit.wf, IntKind.min, IntKind.max, IntKind.signed, IntKind.bits] using h
  simp
  omega
/-- A slice of integers. -/
theorem read_ints {W : World} {base : Nat} {t e : TypeId} {k : IntKind} {v : Value} {d : DataW H} {p : List MemPlace} (ht : P.underlying t = some (.slice e)) (he : P.underlying e = some (.int k)) (hc : P.cellsOf e = 1) (hok : Value.okWide P W .any base t v)
    (h : DataW.Trod enc P W 0 (fun _ => true) true t v d p) : ∃ qs : List Int, Sl W (fun k => k < W.heap.size) v (qs.map (Value.int k)) ∧ ∀ n ∈ qs, (Lit.int k n).wf = true := by
  obtain ⟨a0, len0, cap0, rfl⟩ := okWide_slice ht hok
  obtain ⟨fuel, hf⟩ := h
  rcases open_ints ht he hc hf with ⟨hcs, _⟩ | ⟨a, len, cap, zs, hcs, _, hl, hm, hz, _, hcell, hw⟩
  · simp [Value.cells] at hcs
    obtain ⟨rfl, rfl, rfl⟩ := hcs
    exact ⟨[], ⟨none, 0, 0, rfl, rfl, Nat.le_refl _, by omega, .inl rfl⟩, fun n hn => by cases hn⟩
  · simp [Value.cells] at hcs
    obtain ⟨rfl, rfl, rfl⟩ := hcs
    simp only [if_true] at hz
    refine ⟨zs.take len0, ⟨_, len0, cap0, rfl, by simp; omega, hl, hm, ?_⟩, fun n hn => hw n (List.mem_of_mem_take hn)⟩
    by_cases h0 : len0 = 0
    · exact .inl h0
    · obtain ⟨g, o, sp⟩ := a
      have hsp : sp = none := by simpa [Addr.add] using World.cell?_spot (hcell 0 (by omega))
      subst hsp
      refine .inr ⟨g, o, rfl, World.block_lt_of_cell? _ _ (by have := hcell 0 (by omega); simpa [Addr.add] using this), fun i hi => ?_⟩
      simp at hi
      have := hcell i (by omega)
      have e1 : (⟨g, o, none⟩ : Addr).add i = ⟨g, o + i, none⟩ := by unfold Addr.add; split <;> simp_all
      rw [e1] at this
      rw [this]
      simp [show i < zs.length by omega]
/-- A slice of bytes. -/
theorem read_bytes {W : World} {base : Nat} {t e : TypeId} {v : Value} {d : DataW H} {p : List MemPlace} (ht : P.underlying t = some (.slice e)) (he : P.underlying e = some (.int .u8)) (hc : P.cellsOf e = 1) (hok : Value.okWide P W .any base t v)
    (h : DataW.Trod enc P W 0 (fun _ => true) true t v d p) : ∃ l : List UInt8, Sl W (fun k => k < W.heap.size) v (bv l) := by
  obtain ⟨qs, h1, h2⟩ := read_ints ht he hc hok h
  refine ⟨qs.map fun n => UInt8.ofNat n.toNat, ?_⟩
  have e : qs.map (Value.int .u8) = bv (qs.map fun n => UInt8.ofNat n.toNat) := by
    simp only [bv, List.map_map]
    refine List.map_congr_left fun n hn => ?_
    have := u8_of (h2 n hn)
    simp only [Function.comp]
    rw [← this]
  rw [← e]
  exact h1
/-- A slice of byte slices. -/
theorem read_rows {W : World} {base : Nat} {t e q : TypeId} {v : Value} {d : DataW H} {p : List MemPlace} (ht : P.underlying t = some (.slice e)) (he : P.underlying e = some (.slice q)) (hq : P.underlying q = some (.int .u8)) (ce : P.cellsOf e = 1) (cq : P.cellsOf q = 1)
    (hok : Value.okWide P W .any base t v) (h : DataW.Trod enc P W 0 (fun _ => true) true t v d p) : ∃ vs L, Sl W (fun k => k < W.heap.size) v vs ∧ Each W (fun k => k < W.heap.size) vs L := by
  obtain ⟨a0, len0, cap0, rfl⟩ := okWide_slice ht hok
  obtain ⟨fuel, hf⟩ := h
  rcases open_int_rows ht he hq ce cq hf with ⟨hcs, _⟩ | ⟨a, len, cap, A, L, C, Z, hcs, _, hl, hm, _, hrow⟩
  · simp [Value.cells] at hcs
    obtain ⟨rfl, rfl, rfl⟩ := hcs
    exact ⟨[], [], ⟨none, 0, 0, rfl, rfl, Nat.le_refl _, by omega, .inl rfl⟩, rfl, fun i v l hv => by simp at hv⟩
  · simp [Value.cells] at hcs
    obtain ⟨rfl, rfl, rfl⟩ := hcs
    refine ⟨(List.range len0).map fun r => .slice (A r) (L r) (C r), (List.range len0).map fun r => ((Z r).take (L r)).map fun n => UInt8.ofNat n.toNat, ⟨_, len0, cap0, rfl, by simp, hl, hm, ?_⟩, by simp, fun i v l hv hl' => ?_⟩
    · by_cases h0 : len0 = 0
      · exact .inl h0
      · obtain ⟨g, o, sp⟩ := a
        have hsp : sp = none := by simpa [Addr.add] using World.cell?_spot (hrow 0 (by omega)).1
        subst hsp
        refine .inr ⟨g, o, rfl, World.block_lt_of_cell? _ _ (by have := (hrow 0 (by omega)).1; simpa [Addr.add] using this), fun i hi => ?_⟩
        simp at hi
        have := (hrow i (by omega)).1
        have e1 : (⟨g, o, none⟩ : Addr).add i = ⟨g, o + i, none⟩ := by unfold Addr.add; split <;> simp_all
        rw [e1] at this
        rw [this]
        simp
    · obtain ⟨hi, rfl⟩ := List.getElem?_eq_some_iff.1 hv
      obtain ⟨hi', rfl⟩ := List.getElem?_eq_some_iff.1 hl'
      simp at hi
      simp only [List.getElem_map, List.getElem_range]
      obtain ⟨_, r1, r2, r3, r4, r5, r6⟩ := hrow i (by omega)
      refine ⟨_, _, _, rfl, by simp; omega, r1, r2, ?_⟩
      by_cases h0 : L i = 0
      · exact .inl h0
      · right
        cases hA : A i with
        | none => exact absurd (r5 hA) (by omega)
        | some a' =>
          obtain ⟨_, hc⟩ := r6 a' hA
          obtain ⟨g, o, sp⟩ := a'
          have hsp : sp = none := by simpa [Addr.add] using World.cell?_spot (hc 0 (by omega))
          subst hsp
          refine ⟨g, o, rfl, World.block_lt_of_cell? _ _ (by have := hc 0 (by omega); simpa [Addr.add] using this), fun j hj => ?_⟩
          simp at hj
          have := hc j (by omega)
          have e1 : (⟨g, o, none⟩ : Addr).add j = ⟨g, o + j, none⟩ := by unfold Addr.add; split <;> simp_all
          rw [e1] at this
          rw [this]
          have hw := r4 ((Z i)[j]'(by omega)) (List.getElem_mem _)
          simp [bv, show j < (Z i).length by omega]
          have := u8_of hw
          simpa using this
end
end Go.Proofs.Ytnibllkcacalhaa
namespace Go.Proofs.Ytnibllkcacalhaa
set_option maxRecDepth 100000
open Go.RowKit Go.ChangeShapes Go.WideShapes Go.Deep
section
variable {H : Type} {enc : TypeId × Value → H} {P : Program} {W : World}
def w_cell (w : World) (g o : Nat) : Option Value := w.cell? ⟨g, o, none⟩
/-- What is read at type t takes sz cells, of which Rel tells a datum. -/
def Rdr (enc : TypeId × Value → H) (P : Program) (W : World) (t : TypeId) (sz : Nat) {α : Type} (Rel : List Value → α → Prop) : Prop :=
  P.cellsOf t = sz ∧ ∀ fuel cs x, DataW.trod enc P W 0 (fun _ => true) true fuel t cs = some x → cs.length = sz ∧ ∃ y, Rel cs y
def RInt (k : IntKind) (cs : List Value) (n : Int) : Prop := cs = [.int k n] ∧ (Lit.int k n).wf = true
def RBool (cs : List Value) (b : Bool) : Prop := cs = [.bool b]
def RStr (cs : List Value) (s : ByteArray) : Prop := cs = [.string s] ∧ s.size ≤ maxLen
def RSl (W : World) (sz : Nat) {α : Type} (Rel : List Value → α → Prop) (cs : List Value) (p : Value × List (List Value × α)) : Prop :=
  cs = [p.1] ∧ SlZ W (fun k => k < W.heap.size) sz p.1 (p.2.flatMap (·.1)) ∧ ∀ y ∈ p.2, y.1.length = sz ∧ Rel y.1 y.2
def RNil (cs : List Value) (_ : Unit) : Prop := cs = []
def RCons {α β : Type} (R : List Value → α → Prop) (R' : List Value → β → Prop) (cs : List Value) (y : α × β) : Prop := ∃ c0 c1, cs = c0 ++ c1 ∧ R c0 y.1 ∧ R' c1 y.2
theorem rdr_int {t : TypeId} {k : IntKind} (ht : P.underlying t = some (.int k)) (hc : P.cellsOf t = 1) : Rdr enc P W t 1 (RInt k) :=
  ⟨hc, fun fuel cs x h => by obtain ⟨n, rfl, _, hw⟩ := DataW.trod_int ht h; exact ⟨rfl, n, rfl, hw⟩⟩
theorem rdr_bool {t : TypeId} (ht : P.underlying t = some .bool) (hc : P.cellsOf t = 1) : Rdr enc P W t 1 RBool :=
  ⟨hc, fun fuel cs x h => by obtain ⟨n, rfl, _⟩ := DataW.trod_bool ht h; exact ⟨rfl, n, rfl⟩⟩
theorem rdr_str {t : TypeId} (ht : P.underlying t = some .string) (hc : P.cellsOf t = 1) : Rdr enc P W t 1 RStr :=
  ⟨hc, fun fuel cs x h => by obtain ⟨n, rfl, _, hs⟩ := DataW.trod_string ht h; exact ⟨rfl, n, rfl, hs⟩⟩
theorem addr_add (a : Addr) (i j : Nat) : (a.add i).add j = a.add (i + j) := by
  unfold Addr.add
  by_cases hi : i = 0
  · subst hi; simp
  · by_cases hj : j = 0
    · subst hj; simp
    · simp [hi, hj, Nat.add_assoc]
theorem flatMap_len {α : Type} {sz : Nat} (ys : List (List Value × α)) (h : ∀ y ∈ ys, y.1.length = sz) : (ys.flatMap (·.1)).length = ys.length * sz := by
  induction ys with
  | nil => simp
  | cons y ys ih => rw [List.flatMap_cons, List.length_append, ih fun e he => h e (by simp [he]), h y (by simp), List.length_cons, Nat.add_mul]; omega
theorem flatMap_at {α : Type} {sz : Nat} (ys : List (List Value × α)) (h : ∀ y ∈ ys, y.1.length = sz) (k j : Nat) (hk : k < ys.length) (hj : j < sz) : (ys.flatMap (·.1))[k * sz + j]? = (ys[k].1)[j]? := by
  induction ys generalizing k with
  | nil => simp at hk
  | cons y ys ih =>
    have hy := h y (by simp)
    rw [List.flatMap_cons]
    cases k with
    | zero => rw [List.getElem?_append_left (by omega)]; simp
    | succ k =>
      rw [List.getElem?_append_right (by rw [hy, Nat.add_mul]; omega), hy]
      rw [show (k + 1) * sz + j - sz = k * sz + j from by rw [Nat.add_mul]; omega]
      simpa using ih (fun e he => h e (by simp [he])) k (by simpa using hk)
theorem rdr_slice {α : Type} {sz : Nat} {Rel : List Value → α → Prop} {t e : TypeId} (ht : P.underlying t = some (.slice e)) (hc : P.cellsOf t = 1) (hpos : 0 < sz) (he : Rdr enc P W e sz Rel) : Rdr enc P W t 1 (RSl W sz Rel) := by
  refine ⟨hc, fun fuel cs x h => ?_⟩
  rcases open_slice ht h with ⟨rfl, _⟩ | ⟨a, len, cap, m, n, D, Pl, rfl, _, hl, hm, hmm, _, hrow⟩
  · exact ⟨rfl, (.slice none 0 0, []), rfl, SlZ.nil _ _ _, by simp⟩
  · simp only [if_true] at hmm
    rw [he.1] at hrow
    have hel : ∀ i, i < len → ∃ q : List Value × α, q.1.length = sz ∧ Rel q.1 q.2 ∧ ∀ j, j < sz → W.cell? (a.add (i * sz + j)) = q.1[j]? := fun i hi => by
      obtain ⟨cs, hcs, htr⟩ := hrow i (by omega)
      obtain ⟨h1, y, hy⟩ := he.2 _ _ _ htr
      refine ⟨(cs, y), h1, hy, fun j hj => ?_⟩
      have := (World.cells?_some hcs).2.2 j hj
      rw [← this, addr_add]
    obtain ⟨ys, hys, hat⟩ : ∃ ys : List (List Value × α), ys.length = len ∧ ∀ i (hi : i < ys.length), (ys[i]).1.length = sz ∧ Rel (ys[i]).1 (ys[i]).2 ∧ ∀ j, j < sz → W.cell? (a.add (i * sz + j)) = (ys[i]).1[j]? := by
      refine ⟨(List.range len).attach.map fun i => (hel i.1 (List.mem_range.1 i.2)).choose, by simp, fun i hi => ?_⟩
      have := (hel i (by simpa using hi)).choose_spec
      simpa using this
    have hall : ∀ y ∈ ys, y.1.length = sz ∧ Rel y.1 y.2 := fun y hy => by
      obtain ⟨i, hi, rfl⟩ := List.getElem_of_mem hy
      exact ⟨(hat i hi).1, (hat i hi).2.1⟩
    have hlen := flatMap_len ys fun y hy => (hall y hy).1
    refine ⟨rfl, (.slice (some a) len cap, ys), rfl, ⟨_, len, cap, rfl, by rw [hlen, hys], hl, hm, ?_⟩, hall⟩
    by_cases h0 : len = 0
    · exact .inl h0
    · obtain ⟨g, o, sp⟩ := a
      have hc0 := (hat 0 (by omega)).2.2 0 hpos
      have h00 := (hat 0 (by omega)).1
      rw [List.getElem?_eq_getElem (by rw [h00]; exact hpos)] at hc0
      have hsp : sp = none := by simpa [Addr.add] using World.cell?_spot hc0
      subst hsp
      have e1 : ∀ i, (⟨g, o, none⟩ : Addr).add i = ⟨g, o + i, none⟩ := fun i => by unfold Addr.add; split <;> simp_all
      refine .inr ⟨g, o, rfl, World.block_lt_of_cell? _ _ (by rw [e1] at hc0; exact hc0), fun i hi => ?_⟩
      rw [hlen, hys] at hi
      have hdm := Nat.div_add_mod i sz
      have hd1 : i / sz < len := Nat.div_lt_of_lt_mul (by rw [Nat.mul_comm]; exact hi)
      have hd2 : i % sz < sz := Nat.mod_lt _ hpos
      have hcx := (hat (i / sz) (by omega)).2.2 _ hd2
      have hdm' : i / sz * sz + i % sz = i := by rw [Nat.mul_comm]; exact hdm
      rw [hdm', e1] at hcx
      have hf := flatMap_at ys (fun y hy => (hall y hy).1) (i / sz) (i % sz) (by omega) hd2
      rw [hdm'] at hf
      show W.cell? ⟨g, o + i, none⟩ = _
      rw [hcx, ← hf]
      exact List.getElem?_eq_getElem _
/-- The fields of a struct from the i-th on, which begins at the cell o. -/
def RF (enc : TypeId × Value → H) (P : Program) (W : World) (fs : Array Field) (i o sz : Nat) {α : Type} (Rel : List Value → α → Prop) : Prop :=
  ∀ (n : Nat) (cs : List Value), (∀ (j : Nat) (f : Field), fs[j]? = some f → ∃ x, DataW.trod enc P W 0 (fun _ => true) true n f.type ((cs.drop f.offset).take (P.cellsOf f.type)) = some x) → o + sz ≤ cs.length → ∃ y, Rel ((cs.drop o).take sz) y
theorem rf_nil {fs : Array Field} {i o : Nat} : RF enc P W fs i o 0 RNil := fun n cs _ _ => ⟨(), by simp [RNil]⟩
theorem rf_cons {α β : Type} {fs : Array Field} {i o s sz : Nat} {f : Field} {R : List Value → α → Prop} {R' : List Value → β → Prop} (hf : fs[i]? = some f) (ho : f.offset = o) (h : Rdr enc P W f.type s R) (h' : RF enc P W fs (i + 1) (o + s) sz R') : RF enc P W fs i o (s + sz) (RCons R R') := fun n cs ht hl => by
  obtain ⟨x, hx⟩ := ht i f hf
  rw [h.1, ho] at hx
  obtain ⟨_, y, hy⟩ := h.2 _ _ _ hx
  obtain ⟨z, hz⟩ := h' n cs ht (by omega)
  refine ⟨(y, z), _, _, ?_, hy, hz⟩
  rw [List.take_add, List.drop_drop]
theorem rdr_struct {α : Type} {t : TypeId} {fs : Array Field} {sz : Nat} {Rel : List Value → α → Prop} (ht : P.underlying t = some (.struct fs)) (hc : P.cellsOf t = sz) (h : RF enc P W fs 0 0 sz Rel) : Rdr enc P W t sz Rel := by
  refine ⟨hc, fun fuel cs x hx => ?_⟩
  obtain ⟨ys, n, _, _, hl, hlen, hq⟩ := DataW.trod_struct ht hx
  rw [hc] at hl
  refine ⟨hl, ?_⟩
  have := h n cs (fun j f hf => by
    have hj : j < ys.length := by rw [hlen]; exact (Array.getElem?_eq_some_iff.1 hf).1
    exact ⟨_, (hq j f hf).trans (List.getElem?_eq_getElem hj)⟩) (by omega)
  simpa [← hl] using this
theorem rdr_arg {α : Type} {t : TypeId} {sz : Nat} {Rel : List Value → α → Prop} {v : Value} {d : DataW H} {p : List MemPlace} (h : Rdr enc P W t sz Rel) (hT : DataW.Trod enc P W 0 (fun _ => true) true t v d p) : ∃ y, Rel v.cells.toList y := by
  obtain ⟨fuel, hf⟩ := hT
  exact (h.2 _ _ _ hf).2
/-- A slice as an argument. -/
theorem rdr_slice_arg {α : Type} {sz base : Nat} {Rel : List Value → α → Prop} {t e : TypeId} {v : Value} {d : DataW H} {p : List MemPlace} (ht : P.underlying t = some (.slice e)) (h : Rdr enc P W t 1 (RSl W sz Rel)) (hok : Value.okWide P W .any base t v) (hT : DataW.Trod enc P W 0 (fun _ => true) true t v d p) :
    ∃ ys : List (List Value × α), SlZ W (fun k => k < W.heap.size) sz v (ys.flatMap (·.1)) ∧ ∀ y ∈ ys, y.1.length = sz ∧ Rel y.1 y.2 := by
  obtain ⟨a0, len0, cap0, rfl⟩ := okWide_slice ht hok
  obtain ⟨⟨v', ys⟩, h1, h2, h3⟩ := rdr_arg h hT
  simp [Value.cells] at h1
  subst h1
  exact ⟨ys, h2, h3⟩
theorem SlZ.one {K : Nat → Prop} {v : Value} {xs : List Value} (h : SlZ W K 1 v xs) : Sl W K v xs := by
  obtain ⟨A, n, c, rfl, hn, hc, hm, hx⟩ := h
  exact ⟨A, n, c, rfl, by omega, hc, hm, hx⟩
theorem flat_ints {k : IntKind} (ys : List (List Value × Int)) (h : ∀ y ∈ ys, y.1.length = 1 ∧ RInt k y.1 y.2) : ys.flatMap (·.1) = (ys.map (·.2)).map (.int k) := by
  induction ys with
  | nil => rfl
  | cons y ys ih => rw [List.flatMap_cons, ih fun e he => h e (by simp [he]), (h y (by simp)).2.1]; rfl
theorem flat_strs (ys : List (List Value × ByteArray)) (h : ∀ y ∈ ys, y.1.length = 1 ∧ RStr y.1 y.2) : ys.flatMap (·.1) = (ys.map (·.2)).map .string := by
  induction ys with
  | nil => rfl
  | cons y ys ih => rw [List.flatMap_cons, ih fun e he => h e (by simp [he]), (h y (by simp)).2.1]; rfl
/-- A slice of integers, told by the general reader. -/
theorem sl_ints {k : IntKind} {v : Value} {ys : List (List Value × Int)} (h1 : SlZ W (fun k => k < W.heap.size) 1 v (ys.flatMap (·.1))) (h2 : ∀ y ∈ ys, y.1.length = 1 ∧ RInt k y.1 y.2) : Sl W (fun k => k < W.heap.size) v ((ys.map (·.2)).map (.int k)) ∧ ∀ n ∈ ys.map (·.2), (Lit.int k n).wf = true := by
  rw [flat_ints ys h2] at h1
  refine ⟨h1.one, fun n hn => ?_⟩
  obtain ⟨y, hy, rfl⟩ := List.mem_map.1 hn
  exact (h2 y hy).2.2
theorem sl_bytes {v : Value} {ys : List (List Value × Int)} (h1 : SlZ W (fun k => k < W.heap.size) 1 v (ys.flatMap (·.1))) (h2 : ∀ y ∈ ys, y.1.length = 1 ∧ RInt .u8 y.1 y.2) : Sl W (fun k => k < W.heap.size) v (bv (ys.map fun y => UInt8.ofNat y.2.toNat)) := by
  obtain ⟨h3, h4⟩ := sl_ints h1 h2
  have e : (ys.map (·.2)).map (.int .u8) = bv (ys.map fun y => UInt8.ofNat y.2.toNat) := by
    simp only [bv, List.map_map]
    refine List.map_congr_left fun y hy => ?_
    have := u8_of (h4 y.2 (List.mem_map.2 ⟨y, hy, rfl⟩))
    simp only [Function.comp]
    rw [← this]
  rw [← e]
  exact h3
end
end Go.Proofs.Ytnibllkcacalhaa
namespace Go.Proofs.Ytnibllkcacalhaa
set_option maxRecDepth 100000
open Go.RowKit Go.ChangeShapes Go.WideShapes Go.Deep
theorem flat_rel {α β : Type} (ys : List (List Value × α)) (f : α → β) (g : β → List Value) (h : ∀ y ∈ ys, y.1 = g (f y.2)) : ys.flatMap (·.1) = (ys.map fun y => f y.2).flatMap g := by
  induction ys with
  | nil => rfl
  | cons y ys ih =>
    rw [List.flatMap_cons, List.map_cons, List.flatMap_cons, h y (by simp), ih fun z hz => h z (by simp [hz])]
section
variable {H : Type} {enc : TypeId × Value → H} {W : World}
def RelEr : List Value → Int × Int × Int × Unit → Prop := RCons (RInt .u8) (RCons (RInt .i64) (RCons (RInt .u32) RNil))
def RelCh (W : World) : List Value → (Value × List (List Value × (Int × Int × Int × Unit))) × Int × Int × Int × Unit → Prop := RCons (RSl W 3 RelEr) (RCons (RInt .i64) (RCons (RInt .u32) (RCons (RInt .i64) RNil)))
def RelPi (W : World) : List Value → Int × (Value × List (List Value × Int)) × Bool × Unit → Prop := RCons (RInt .i64) (RCons (RSl W 1 (RInt .u32)) (RCons RBool RNil))
theorem rdr_er : Rdr enc Try.prog W 49 3 RelEr :=
  rdr_struct Try.underlying49 (by kernel_rfl) (rf_cons (s := 1) (sz := 2) rfl rfl (rdr_int Try.underlying5 (by kernel_rfl)) (rf_cons (s := 1) (sz := 1) rfl rfl (rdr_int Try.underlying3 (by kernel_rfl)) (rf_cons (s := 1) (sz := 0) rfl rfl (rdr_int Try.underlying44 (by kernel_rfl)) rf_nil)))
theorem rdr_ch : Rdr enc Try.prog W 46 4 (RelCh W) :=
  rdr_struct Try.underlying46 (by kernel_rfl) (rf_cons (s := 1) (sz := 3) rfl rfl (rdr_slice Try.underlying43 (by kernel_rfl) (by omega) rdr_er) (rf_cons (s := 1) (sz := 2) rfl rfl (rdr_int Try.underlying3 (by kernel_rfl)) (rf_cons (s := 1) (sz := 1) rfl rfl (rdr_int Try.underlying44 (by kernel_rfl)) (rf_cons (s := 1) (sz := 0) rfl rfl (rdr_int Try.underlying3 (by kernel_rfl)) rf_nil))))
theorem rdr_pi : Rdr enc Try.prog W 52 3 (RelPi W) :=
  rdr_struct Try.underlying52 (by kernel_rfl) (rf_cons (s := 1) (sz := 2) rfl rfl (rdr_int Try.underlying3 (by kernel_rfl)) (rf_cons (s := 1) (sz := 1) rfl rfl (rdr_slice Try.underlying50 (by kernel_rfl) (by omega) (rdr_int Try.underlying44 (by kernel_rfl))) (rf_cons (s := 1) (sz := 0) rfl rfl (rdr_bool Try.underlying4 (by kernel_rfl)) rf_nil)))
def toEr (y : Int × Int × Int × Unit) : Er := ⟨y.1, y.2.1, y.2.2.1⟩
theorem relEr {cs : List Value} {y : Int × Int × Int × Unit} (h : RelEr cs y) : cs = eCells (toEr y) := by
  obtain ⟨d, q, n, u⟩ := y
  obtain ⟨c0, c1, rfl, ⟨rfl, -⟩, c2, c3, rfl, ⟨rfl, -⟩, c4, c5, rfl, ⟨rfl, -⟩, h⟩ := h
  have h' : c5 = [] := h
  subst h'
  rfl
theorem rat_of {v : Value} {ys : List (List Value × (Int × Int × Int × Unit))} (h1 : SlZ W (fun k => k < W.heap.size) 3 v (ys.flatMap (·.1))) (h2 : ∀ y ∈ ys, y.1.length = 3 ∧ RelEr y.1 y.2) : RAt W (fun q => q < W.heap.size) v (ys.map fun y => toEr y.2) := by
  rw [flat_rel ys toEr eCells fun y hy => relEr (h2 y hy).2] at h1
  exact h1
/-- What a chore's cells tell. -/
theorem relCh {cs : List Value} {y : (Value × List (List Value × (Int × Int × Int × Unit))) × Int × Int × Int × Unit} (h : RelCh W cs y) : cs = [y.1.1, .int .i64 y.2.1, .int .u32 y.2.2.1, .int .i64 y.2.2.2.1] ∧ RAt W (fun q => q < W.heap.size) y.1.1 (y.1.2.map fun y => toEr y.2) := by
  obtain ⟨⟨v, zs⟩, a, s, r, u⟩ := y
  obtain ⟨c0, c1, rfl, ⟨rfl, h1, h2⟩, c2, c3, rfl, ⟨rfl, -⟩, c4, c5, rfl, ⟨rfl, -⟩, c6, c7, rfl, ⟨rfl, -⟩, h⟩ := h
  have h' : c7 = [] := h
  subst h'
  exact ⟨rfl, rat_of h1 h2⟩
def toPk (y : Int × (Value × List (List Value × Int)) × Bool × Unit) : Pk := ⟨y.2.1.1, ⟨y.1, y.2.1.2.map (·.2), y.2.2.1⟩⟩
theorem relPi {cs : List Value} {y : Int × (Value × List (List Value × Int)) × Bool × Unit} (h : RelPi W cs y) : cs = pCells (toPk y) ∧ Sl W (fun q => q < W.heap.size) (toPk y).v (uv (toPk y).p.ins) := by
  obtain ⟨r, ⟨v, zs⟩, b, u⟩ := y
  obtain ⟨c0, c1, rfl, ⟨rfl, -⟩, c2, c3, rfl, ⟨rfl, h1, h2⟩, c4, c5, rfl, hb, h⟩ := h
  have h' : c5 = [] := h
  have hb' : c4 = [.bool b] := hb
  subst h' hb'
  exact ⟨rfl, (sl_ints h1 h2).1⟩
theorem pat_of {v : Value} {ys : List (List Value × (Int × (Value × List (List Value × Int)) × Bool × Unit))} (h1 : SlZ W (fun k => k < W.heap.size) 3 v (ys.flatMap (·.1))) (h2 : ∀ y ∈ ys, y.1.length = 3 ∧ RelPi W y.1 y.2) : PAt W (fun q => q < W.heap.size) v (ys.map fun y => toPk y.2) := by
  rw [flat_rel ys toPk pCells fun y hy => (relPi (h2 y hy).2).1] at h1
  refine ⟨h1, fun p hp => ?_⟩
  obtain ⟨y, hy, rfl⟩ := List.mem_map.1 hp
  exact (relPi (h2 y hy).2).2
theorem read_chore {base : Nat} {v : Value} {d : DataW H} {p : List MemPlace} (hok : Value.okWide Try.prog W .any base 46 v) (h : DataW.Trod enc Try.prog W 0 (fun _ => true) true 46 v d p) :
    ∃ A n c a s r es, v = .agg #[.slice A n c, .int .i64 a, .int .u32 s, .int .i64 r] ∧ RAt W (fun q => q < W.heap.size) (.slice A n c) es := by
  obtain ⟨cs, rfl, -⟩ := okWide_struct Try.underlying46 hok
  obtain ⟨y, hy⟩ := rdr_arg (rdr_ch (enc := enc) (W := W)) h
  obtain ⟨e1, e2⟩ := relCh hy
  obtain ⟨A, n, c, e3, -⟩ := id e2
  rw [e3] at e2
  refine ⟨A, n, c, y.2.1, y.2.2.1, y.2.2.2.1, _, ?_, e2⟩
  rw [← Array.toArray_toList (xs := cs)]
  have e : cs.toList = _ := e1
  rw [e, e3]
theorem read_pipes {base : Nat} {v : Value} {d : DataW H} {p : List MemPlace} (hok : Value.okWide Try.prog W .any base 22 v) (h : DataW.Trod enc Try.prog W 0 (fun _ => true) true 22 v d p) :
    ∃ A n c ps, v = .slice A n c ∧ PAt W (fun q => q < W.heap.size) (.slice A n c) ps := by
  obtain ⟨ys, h1, h2⟩ := rdr_slice_arg Try.underlying22 (rdr_slice (W := W) (enc := enc) Try.underlying22 (by kernel_rfl) (by omega) rdr_pi) hok h
  have h3 := pat_of h1 h2
  obtain ⟨A, n, c, rfl, -⟩ := id h3.1
  exact ⟨A, n, c, _, rfl, h3⟩
end
end Go.Proofs.Ytnibllkcacalhaa
