/- Words for memory that all texts of this seat share: frames, slices that read as lists. -/
import Derived.Test.YtpcdbkaeijhmfaaDoorRows
import Derived.WalkKit
import Derived.WalkSpells
import Derived.WalkLawsBesides
import Derived.Lib.Hide
import Derived.Deep.RegionHeld3
import Derived.Deep.AppendLies
import Derived.Deep.QuietTactic
import Derived.BigQuiet
import Derived.Deep.RegionLaw
import Derived.Maps.AppendAt
namespace Go.Proofs.YtpcdbkaeijhmfaaDoor
set_option maxRecDepth 100000
set_option linter.unusedVariables false
set_option linter.unusedSimpArgs false
open Go.RowKit

theorem args1 {a : Act} {x : Operand} {v : Value} (h : a.eval x = v) : #[] ++ (#[x] : Array Operand).map a.eval ++ #[] = #[v] := by simp [h]
theorem args2 {a : Act} {x y : Operand} {v u : Value} (h : a.eval x = v) (h' : a.eval y = u) : #[] ++ (#[x, y] : Array Operand).map a.eval ++ #[] = #[v, u] := by simp [h, h']
theorem args3 {a : Act} {x y z : Operand} {v u t : Value} (h : a.eval x = v) (h' : a.eval y = u) (h2 : a.eval z = t) : #[] ++ (#[x, y, z] : Array Operand).map a.eval ++ #[] = #[v, u, t] := by simp [h, h', h2]
/-- A CALL OF A Go FUNCTION AS ONE STEP OF A REGION THAT DRAWS: for 'go_region_law': its contract R. -/
theorem step_call {P : Program} {ops : Array Oper} {o : Oper} {a : Act} {w : World} {K : Act → World → Prop} {Q : Exit → Act → World → Prop} {E : Prop} (hgd : o.guard = none) {f : FuncId} {vs : Array Value} {R : Ending → World → Prop} (hc : Calls P f vs w R)
    (xs : Array Operand) (ats : Array TypeId) (ho : o.op = .call { callee := .value (.func f), args := xs, argTypes := ats }) (hv : #[] ++ xs.map a.eval ++ #[] = vs) (hen : (callFunc f vs).run P w = .ok (.enter f vs) w)
    (h : ∀ e w', R e w' → ∃ v, e = .returned v ∧ K (a.put o.dst v) w') :
    if Region.wanted o (yielded ops a.tmps) = true then Oper.wp P o a w K Q else E := by
  have hw : Region.wanted o (yielded ops a.tmps) = true := by simp [Region.wanted, hgd]
  rw [if_pos hw]
  obtain ⟨dst, op, ty, pos, after, guard⟩ := o
  dsimp only at ho h
  subst ho
  unfold Oper.wp
  rw [execOp_call_go, hv]
  rw [hen, Oper.upon_enter]
  refine hc.mono fun e w' hr => ?_
  obtain ⟨v, rfl, hK⟩ := h e w' hr
  exact hK

/-- A contract that ends in a later draw of the same world, met in a quiet region behind a draws. -/
theorem quiet_up {P : Program} {f : FuncId} {args : Array Value} {w : World} {a n : Nat} {v : Value} {R : Ending → World → Prop} (h : Calls P f args (w.drewN (a + n)) R)
    (hR : ∀ e w', R e w' → e = .returned v ∧ ∃ m, w' = w.drewN (a + m)) : Calls P f args (w.drewN (a + n)) fun e w'' => e = .returned v ∧ ∃ m, w'' = w.drewN (a + m) := h.mono hR
theorem quiet_add {P : Program} {f : FuncId} {args : Array Value} {w : World} {a n : Nat} {v : Value}
    (h : Calls P f args (w.drewN (a + n)) fun e w' => e = .returned v ∧ ∃ m, w' = (w.drewN (a + n)).drewN m) : Calls P f args (w.drewN (a + n)) fun e w'' => e = .returned v ∧ ∃ m, w'' = w.drewN (a + m) :=
  quiet_up h (by rintro e w' ⟨rfl, m, rfl⟩; exact ⟨rfl, n + m, by rw [World.drewN_drewN, Nat.add_assoc]⟩)
theorem quiet_add_left {P : Program} {f : FuncId} {args : Array Value} {w : World} {a n : Nat} {v : Value}
    (h : Calls P f args (w.drewN (a + n)) fun e w' => e = .returned v ∧ w.drewN (a + n) = w') : Calls P f args (w.drewN (a + n)) fun e w'' => e = .returned v ∧ ∃ m, w'' = w.drewN (a + m) :=
  quiet_up h (by rintro e w' ⟨rfl, rfl⟩; exact ⟨rfl, n, rfl⟩)
theorem quiet_left {P : Program} {f : FuncId} {args : Array Value} {w : World} {n : Nat} {v : Value}
    (h : Calls P f args (w.drewN n) fun e w' => e = .returned v ∧ w.drewN n = w') : Calls P f args (w.drewN n) fun e w'' => e = .returned v ∧ ∃ m, w'' = w.drewN m :=
  Calls.quiet_of_same (h.mono (by rintro e w' ⟨rfl, rfl⟩; exact ⟨rfl, rfl⟩))
/-- A call as one step of a region that draws, guarded or not. -/
theorem step_call_g {P : Program} {ops : Array Oper} {o : Oper} {a : Act} {w : World} {K : Act → World → Prop} {Q : Exit → Act → World → Prop} {E : Prop} (hw : Region.wanted o (yielded ops a.tmps) = true) {f : FuncId} {vs : Array Value} {R : Ending → World → Prop} (hc : Calls P f vs w R)
    (xs : Array Operand) (ats : Array TypeId) (ho : o.op = .call { callee := .value (.func f), args := xs, argTypes := ats }) (hv : #[] ++ xs.map a.eval ++ #[] = vs) (hen : (callFunc f vs).run P w = .ok (.enter f vs) w)
    (h : ∀ e w', R e w' → ∃ v, e = .returned v ∧ K (a.put o.dst v) w') :
    if Region.wanted o (yielded ops a.tmps) = true then Oper.wp P o a w K Q else E := by
  rw [if_pos hw]
  obtain ⟨dst, op, ty, pos, after, guard⟩ := o
  dsimp only at ho h
  subst ho
  unfold Oper.wp
  rw [execOp_call_go, hv, hen, Oper.upon_enter]
  refine hc.mono fun e w' hr => ?_
  obtain ⟨v, rfl, hK⟩ := h e w' hr
  exact hK
/-- Outside the blocks of K all is as it was. -/
structure Frm (K : Nat → Prop) (w w' : World) : Prop where
  os : w'.os = w.os
  tape : w'.tape = w.tape
  output : w'.output = w.output
  size : w.heap.size ≤ w'.heap.size
  block : ∀ k, k < w.heap.size → ¬ K k → w'.heap[k]? = w.heap[k]?
section
variable {K K' : Nat → Prop} {w w1 w2 : World}
theorem Frm.refl (K : Nat → Prop) (w : World) : Frm K w w := ⟨rfl, rfl, rfl, Nat.le_refl _, fun _ _ _ => rfl⟩
theorem Frm.trans (h : Frm K w w1) (h' : Frm K' w1 w2) (hk : ∀ k, K' k → K k ∨ w.heap.size ≤ k) : Frm K w w2 :=
  ⟨h'.os.trans h.os, h'.tape.trans h.tape, h'.output.trans h.output, Nat.le_trans h.size h'.size, fun k hl hn =>
    (h'.block k (Nat.lt_of_lt_of_le hl h.size) (fun hk' => (hk k hk').elim hn (fun hh => absurd hl (by omega)))).trans (h.block k hl hn)⟩
theorem Frm.trans' (h : Frm K w w1) (h' : Frm K w1 w2) : Frm K w w2 := h.trans h' (fun _ hk => Or.inl hk)
theorem Frm.mono (h : Frm K w w1) (hk : ∀ k, K k → K' k ∨ w.heap.size ≤ k) : Frm K' w w1 :=
  ⟨h.os, h.tape, h.output, h.size, fun k hl hn => h.block k hl (fun h' => (hk k h').elim hn (fun hh => absurd hl (by omega)))⟩
theorem Frm.drew (h : Frm K w w1) : Frm K w w1.drew := ⟨h.os, h.tape, h.output, h.size, h.block⟩
theorem Frm.drewN (h : Frm K w w1) (n : Nat) : Frm K w (w1.drewN n) := ⟨h.os, h.tape, h.output, h.size, h.block⟩
theorem Frm.alloc (h : Frm K w w1) (o : Obj) : Frm K w (w1.alloc o) :=
  ⟨h.os, h.tape, h.output, Nat.le_trans h.size (by simp), fun k hl hn => (Below.heap_alloc _ _ _ (Nat.lt_of_lt_of_le hl h.size)).trans (h.block k hl hn)⟩
theorem Frm.setCell (h : Frm K w w1) (p : Addr) (hp : K p.block ∨ w.heap.size ≤ p.block) (u : Value) : Frm K w (w1.setCell p u) :=
  ⟨h.os, h.tape, h.output, by simpa using h.size, fun k hl hn => (Below.heap_setCell _ _ _ _ (by rintro rfl; exact hp.elim hn (fun hh => absurd hl (by omega)))).trans (h.block k hl hn)⟩
theorem Frm.grown (h : Frm K w w1) {row : Option Nat} (hg : w1.grownBy w2 row) (hr : ∀ k, row = some k → K k ∨ w.heap.size ≤ k) : Frm K w w2 :=
  h.trans (K' := fun k => row = some k) ⟨hg.os, hg.tape, hg.output, hg.size, fun k hl hn => hg.block k hl (fun e => hn e.symm)⟩ hr
theorem Frm.of_grown {row : Option Nat} (hg : w1.grownBy w2 row) : Frm (fun k => row = some k) w1 w2 :=
  ⟨hg.os, hg.tape, hg.output, hg.size, fun k hl hn => hg.block k hl (fun e => hn e.symm)⟩
theorem Frm.cell (h : Frm K w w1) {a : Addr} {v : Value} (hc : w.cell? a = some v) (hk : ¬ K a.block) : w1.cell? a = some v :=
  (World.cell?_of_block (w := w) (h.block a.block (World.block_lt_of_cell? _ _ hc) hk)).trans hc
theorem Frm.frozen (h : Frm K w w1) {a : Addr} (hc : a.block < w.heap.size) (hk : ¬ K a.block) : w1.frozen? a = w.frozen? a :=
  World.frozen?_of_block (w := w) (h.block a.block hc hk)
theorem Frm.own {base n size : Nat} {e : TypeId} {v : Value} {xs : List Value} (h : Frm K w w1) (ho : w.ownsRow base e size v n xs) (hk : ∀ g, v.ownBlock = some g → ¬ K g) : w1.ownsRow base e size v n xs := by
  refine ⟨ho.1, ?_⟩
  rcases ho.2 with hn | ⟨g, cap, cur, rfl, hb, hgg, rest⟩
  · exact .inl hn
  · exact .inr ⟨g, cap, cur, rfl, hb, (h.block g (Array.getElem?_eq_some_iff.1 hgg).1 (hk g rfl)).trans hgg, rest⟩
theorem Frm.below {B : Nat} (h : Frm K w w1) (hB : B ≤ w.heap.size) (hk : ∀ k, K k → B ≤ k) : Below B w w1 :=
  ⟨h.os, h.tape, h.output, h.size, fun k hl => h.block k (by omega) (fun h' => by have := hk k h'; omega)⟩
end

theorem Frm.of_below {w w' : World} (h : Below w.heap.size w w') : Frm (fun _ => False) w w' := ⟨h.os, h.tape, h.output, h.size, fun k hk _ => h.block k hk⟩
/-- A store of what the cell holds changes nothing. -/
theorem setCell_same {w : World} {b i : Nat} {v : Value} (h : w.cell? ⟨b, i, none⟩ = some v) : w.setCell ⟨b, i, none⟩ v = w := by
  have key : w.heap.modify b (fun
      | .cells c elem frozen => .cells (if (none : Option Nat).isSome then c else c.setIfInBounds i v) elem frozen
      | o => o) = w.heap := by
    apply Array.ext
    · simp
    · intro k h1 h2
      rw [Array.getElem_modify]
      split
      · rename_i hk
        subst hk
        unfold World.cell? at h
        rw [Array.getElem?_eq_getElem h2] at h
        cases hc : w.heap[b] with
        | cells c t fr =>
          rw [hc] at h
          simp at h ⊢
          apply Array.ext
          · simp
          · intro j h3 h4
            rw [Array.getElem_setIfInBounds]
            split
            · rename_i hj; subst hj; rw [Array.getElem?_eq_getElem h4] at h; exact (Option.some.inj h).symm
            · rfl
        | _ => simp [hc] at h
      · rfl
  show ({ w with heap := _ } : World) = w
  have e : (w.setCell ⟨b, i, none⟩ v).heap = w.heap := key
  cases w
  simp only [World.setCell] at e ⊢
  congr 1

/-- Block g is just the cells cs, none frozen. -/
def Blk (w : World) (g : Nat) (t : TypeId) (cs : Array Value) : Prop := w.heap[g]? = some (.cells cs t (0, 0))
section
variable {w w' : World} {g : Nat} {t : TypeId} {cs : Array Value} {K : Nat → Prop}
theorem Blk.lt (h : Blk w g t cs) : g < w.heap.size := by
  rcases Nat.lt_or_ge g w.heap.size with hlt | hge
  · exact hlt
  · unfold Blk at h; rw [Array.getElem?_eq_none hge] at h; cases h
theorem Blk.cell (h : Blk w g t cs) (i : Nat) : w.cell? ⟨g, i, none⟩ = cs[i]? := cell_of_row w g i cs t (0, 0) h
theorem Blk.frozen (h : Blk w g t cs) (i : Nat) : w.frozen? ⟨g, i, none⟩ = false := by
  unfold Blk at h
  simp [World.frozen?, h]
theorem Blk.new (w : World) (t : TypeId) (cs : Array Value) : Blk (w.alloc (.cells cs t)) w.heap.size t cs := heap_alloc_new w _
theorem Blk.drew (h : Blk w g t cs) : Blk w.drew g t cs := h
theorem Blk.alloc (h : Blk w g t cs) (o : Obj) : Blk (w.alloc o) g t cs := (Below.heap_alloc w o g h.lt).trans h
theorem Blk.set_ (h : Blk w g t cs) (i : Nat) (u : Value) : Blk (w.setCell ⟨g, i, none⟩ u) g t (cs.setIfInBounds i u) := by
  unfold Blk at h ⊢
  simp [World.setCell, Array.getElem?_modify, h]
theorem Blk.far (h : Blk w g t cs) {p : Addr} (hp : g ≠ p.block) (u : Value) : Blk (w.setCell p u) g t cs := (Below.heap_setCell w p u g hp).trans h
theorem lt_heap {o : Obj} (h : w.heap[g]? = some o) : g < w.heap.size := by
  rcases Nat.lt_or_ge g w.heap.size with hlt | hge
  · exact hlt
  · rw [Array.getElem?_eq_none hge] at h; cases h
theorem Blk.kept (h : Blk w g t cs) (hf : Frm K w w') (hg : ¬ K g) : Blk w' g t cs := (hf.block g h.lt hg).trans h
theorem Blk.ne_ {g' : Nat} {t' : TypeId} {cs' : Array Value} (h : Blk w g t cs) (h' : Blk w g' t' cs') (hne : t ≠ t') : g ≠ g' := by
  rintro rfl
  unfold Blk at h h'
  rw [h] at h'
  injection h' with h'
  injection h' with _ ht
  exact hne ht
end

/-- A slice value reads as the list xs (of one-cell elements), in blocks of K. -/
def Sl (w : World) (K : Nat → Prop) (v : Value) (xs : List Value) : Prop :=
  ∃ A n c, v = .slice A n c ∧ n = xs.length ∧ n ≤ c ∧ c ≤ 9223372036854775807 ∧
    (n = 0 ∨ ∃ g o, A = some ⟨g, o, none⟩ ∧ K g ∧ ∀ i (h : i < xs.length), w.cell? ⟨g, o + i, none⟩ = some xs[i])
def iv (x : Int) : Value := .int .i64 x
def sv (x : ByteArray) : Value := .string x
def bv (l : List UInt8) : List Value := l.map fun c => .int .u8 c.toNat
@[simp] theorem bv_length (l : List UInt8) : (bv l).length = l.length := by simp [bv]
theorem bv_one (l : List UInt8) : ∀ u ∈ bv l, u.oneCell' = true := by
  intro u hu; simp [bv] at hu; obtain ⟨c, _, rfl⟩ := hu; rfl
section
variable {w w' : World} {K K' : Nat → Prop} {v : Value} {xs : List Value}
theorem Sl.kept (h : Sl w K v xs) (hf : ∀ k, K k → w'.heap[k]? = w.heap[k]?) : Sl w' K v xs := by
  obtain ⟨A, n, c, rfl, hn, hc, hm, hx⟩ := h
  refine ⟨A, n, c, rfl, hn, hc, hm, hx.imp id ?_⟩
  rintro ⟨g, o, rfl, hK, hx⟩
  exact ⟨g, o, rfl, hK, fun i hi => (World.cell?_of_block (w := w) (hf g hK)).trans (hx i hi)⟩
/-- A new block of one cell. -/
theorem Sl.blk1 (w : World) (x : Value) (t : TypeId) : Sl (w.alloc (.cells #[x] t)) (fun k => k = w.heap.size) (.slice (some ⟨w.heap.size, 0, none⟩) 1 1) [x] :=
  ⟨_, _, _, rfl, rfl, Nat.le_refl _, by omega, .inr ⟨_, 0, rfl, rfl, fun i hi => by
    obtain rfl : i = 0 := by simp at hi; omega
    exact cell_of_row _ _ _ _ t (0, 0) (heap_alloc_new w _)⟩⟩
theorem Sl.nil_ (w : World) (K : Nat → Prop) : Sl w K (.slice none 0 0) [] := ⟨none, 0, 0, rfl, rfl, Nat.le_refl _, by omega, .inl rfl⟩
theorem Sl.blk (w : World) (cs : Array Value) (t : TypeId) {n : Nat} {xs : List Value} (hx : cs.toList = xs) (hn : n = xs.length ∧ n ≤ 1000000) : Sl (w.alloc (.cells cs t)) (fun k => k = w.heap.size) (.slice (some ⟨w.heap.size, 0, none⟩) n n) xs :=
  ⟨_, _, _, rfl, hn.1, Nat.le_refl _, by omega, .inr ⟨_, 0, rfl, rfl, fun i hi => by
    rw [cell_of_row _ _ _ cs t (0, 0) (heap_alloc_new w _), Nat.zero_add, ← Array.getElem?_toList, hx]
    exact List.getElem?_eq_getElem hi⟩⟩
/-- What a call handed back lies apart from K, and stays so. -/
def Apart (w : World) (K : Nat → Prop) (g : Nat) : Prop := ¬ K g ∧ g < w.heap.size
theorem Sl.next {K : Nat → Prop} {w w' : World} {v : Value} {xs : List Value} (h : Sl w (Apart w K) v xs) (hf : Frm K w w') : Sl w' (Apart w' K) v xs := by
  obtain ⟨A, n, c, rfl, hn, hc, hm, hx⟩ := h
  refine ⟨A, n, c, rfl, hn, hc, hm, hx.imp id ?_⟩
  rintro ⟨g, o, rfl, hK, hx⟩
  exact ⟨g, o, rfl, ⟨hK.1, Nat.lt_of_lt_of_le hK.2 hf.size⟩, fun i hi => (World.cell?_of_block (w := w) (hf.block g hK.2 hK.1)).trans (hx i hi)⟩
theorem Sl.mono (h : Sl w K v xs) (hk : ∀ k, K k → K' k) : Sl w K' v xs := by
  obtain ⟨A, n, c, rfl, hn, hc, hm, hx⟩ := h
  refine ⟨A, n, c, rfl, hn, hc, hm, hx.imp id ?_⟩
  rintro ⟨g, o, rfl, hK, hx⟩
  exact ⟨g, o, rfl, hk g hK, hx⟩

theorem own_ne {base n size g : Nat} {e t : TypeId} {cs : Array Value} {fr : Nat × Nat} (h : w.ownsRow base e size v n xs) (hg : w.heap[g]? = some (.cells cs t fr)) (hne : e ≠ t) : v.ownBlock ≠ some g := by
  rcases h.2 with ⟨rfl, _⟩ | ⟨g', cap, cur, rfl, _, hh, _⟩
  · simp [Value.ownBlock]
  · intro he
    have : g' = g := by simpa [Value.ownBlock] using he
    subst this
    rw [hh] at hg
    injection hg with hg
    injection hg with _ ht
    exact hne ht
theorem own_blk_ne {base n size g : Nat} {e t : TypeId} {cs : Array Value} (h : w.ownsRow base e size v n xs) (hg : Blk w g t cs) (hne : e ≠ t) : v.ownBlock ≠ some g := own_ne h hg hne
theorem Sl.keptTo (h : Sl w K v xs) (hf : ∀ k, K k → w'.heap[k]? = w.heap[k]? ∧ K' k) : Sl w' K' v xs := by
  obtain ⟨A, n, c, rfl, hn, hc, hm, hx⟩ := h
  refine ⟨A, n, c, rfl, hn, hc, hm, hx.imp id ?_⟩
  rintro ⟨g, o, rfl, hK, hx⟩
  exact ⟨g, o, rfl, (hf g hK).2, fun i hi => (World.cell?_of_block (w := w) (hf g hK).1).trans (hx i hi)⟩

/-- Blocks of K that are rows of element type t. -/
def TK (w : World) (K : Nat → Prop) (t : TypeId) (g : Nat) : Prop := K g ∧ ∃ cs fr, w.heap[g]? = some (.cells cs t fr)
theorem TK.kept {t : TypeId} {g : Nat} (h : TK w K t g) (hf : w'.heap[g]? = w.heap[g]?) (hK : K g → K' g) : TK w' K' t g :=
  ⟨hK h.1, by rw [hf]; exact h.2⟩
theorem TK.lt {t : TypeId} {g : Nat} (h : TK w K t g) : g < w.heap.size := by
  obtain ⟨_, cs, fr, hh⟩ := h
  exact lt_heap hh
theorem TK.ne_ {t t' : TypeId} {g g' : Nat} {cs : Array Value} (h : TK w K t g) (h' : Blk w g' t' cs) (hne : t ≠ t') : g ≠ g' := by
  rintro rfl
  obtain ⟨_, cs, fr, hh⟩ := h
  unfold Blk at h'
  rw [hh] at h'
  injection h' with h'
  injection h' with _ ht
  exact hne ht

/-- A slice of the call's own, that may be written: its row's block is known whole. -/
def OSl (w : World) (K : Nat → Prop) (e : TypeId) (v : Value) (xs : List Value) : Prop :=
  ∃ A n c, v = .slice A n c ∧ n = xs.length ∧ n ≤ c ∧ c ≤ 9223372036854775807 ∧
    ((A = none ∧ c = 0) ∨ ∃ g o cur, A = some ⟨g, o, none⟩ ∧ K g ∧ Blk w g e cur ∧ o + c ≤ cur.size ∧ ∀ i (h : i < xs.length), cur[o + i]? = some xs[i])
variable {e : TypeId}
theorem OSl.of_own {base n : Nat} (h : w.ownsRow base e 1 v n xs) (hK : ∀ g, v.ownBlock = some g → K g) : OSl w K e v xs := by
  obtain ⟨h1, h2⟩ := h
  rcases h2 with ⟨rfl, rfl⟩ | ⟨g, cap, cur, rfl, hb, hh, hn, hm, hs, ht⟩
  · exact ⟨none, 0, 0, rfl, by omega, Nat.le_refl _, by omega, Or.inl ⟨rfl, rfl⟩⟩
  · refine ⟨_, n, cap, rfl, by omega, hn, hm, Or.inr ⟨g, 0, cur, rfl, hK g rfl, hh, by omega, fun i hi => ?_⟩⟩
    subst ht
    simp at hi ⊢
theorem OSl.kept (h : OSl w K e v xs) (hf : ∀ k, K k → w'.heap[k]? = w.heap[k]? ∧ K' k) : OSl w' K' e v xs := by
  obtain ⟨A, n, c, rfl, hn, hc, hm, hx⟩ := h
  refine ⟨A, n, c, rfl, hn, hc, hm, hx.imp id ?_⟩
  rintro ⟨g, o, cur, rfl, hK, hg, hx⟩
  exact ⟨g, o, cur, rfl, (hf g hK).2, (hf g hK).1.trans hg, hx⟩
theorem OSl.kept' {b : Nat} {t : TypeId} {cs : Array Value} (h : OSl w K e v xs) (hb : Blk w b t cs) (hne : e ≠ t) (i : Nat) (u : Value) : OSl (w.setCell ⟨b, i, none⟩ u) K e v xs := by
  obtain ⟨A, n, c, rfl, hn, hc, hm, hx⟩ := h
  refine ⟨A, n, c, rfl, hn, hc, hm, hx.imp id ?_⟩
  rintro ⟨g, o, cur, rfl, hK, hg, hx⟩
  exact ⟨g, o, cur, rfl, hK, hg.far (hg.ne_ hb hne) u, hx⟩
theorem OSl.apart {K2 : Nat → Prop} (h : OSl w K e v xs) (hk : ∀ k, K k → ¬ K2 k) : Sl w (Apart w K2) v xs := by
  obtain ⟨A, n, c, rfl, hn, hc, hm, hx⟩ := h
  refine ⟨A, n, c, rfl, hn, hc, hm, ?_⟩
  rcases hx with ⟨rfl, rfl⟩ | ⟨g, o, cur, rfl, hK, hg, hs, hx⟩
  · exact Or.inl (by omega)
  · exact Or.inr ⟨g, o, rfl, ⟨hk g hK, hg.lt⟩, fun i hi => (hg.cell _).trans (hx i hi)⟩
theorem OSl.sl (h : OSl w K e v xs) : Sl w (TK w K e) v xs := by
  obtain ⟨A, n, c, rfl, hn, hc, hm, hx⟩ := h
  refine ⟨A, n, c, rfl, hn, hc, hm, ?_⟩
  rcases hx with ⟨rfl, rfl⟩ | ⟨g, o, cur, rfl, hK, hg, hs, hx⟩
  · exact Or.inl (by omega)
  · exact Or.inr ⟨g, o, rfl, ⟨hK, _, _, hg⟩, fun i hi => (hg.cell _).trans (hx i hi)⟩
end

theorem own_form {w : World} {base n size : Nat} {e : TypeId} {v : Value} {xs : List Value} (h : w.ownsRow base e size v n xs) : ∃ A c, v = .slice A n c ∧ n ≤ c ∧ c ≤ 9223372036854775807 := by
  rcases h.2 with ⟨rfl, rfl⟩ | ⟨g, cap, cur, rfl, _, _, hn, hc, _⟩
  · exact ⟨none, 0, rfl, Nat.le_refl _, by omega⟩
  · exact ⟨_, cap, rfl, hn, hc⟩
/-- 's[:h]', 's[l:]' of any slice whose elements take sz cells: to be laid ahead of a walk. -/
theorem run_take {P : Program} {t e sz : Nat} (ht : P.underlying t = some (.slice e)) (hz : ∀ w, (sizeOf e).run P w = .ok sz w) (A : Option Addr) (len cap : Nat) (h : Int) (h0 : 0 ≤ h) (h1 : h ≤ cap) (w : World) :
    (Instr.slice t (.slice A len cap) none (some (.int .i64 h)) none).run P w = .ok (.slice A h.toNat cap) w := by
  have he : P.elem t = e := by simp [Program.elem, ht]
  rw [run_slice_h w t A len cap (by rw [he]; exact ht) .i64 h h0 h1, he, hz]
  cases A <;> simp [Result.andThen, sliced, Addr.add]
theorem run_drop {P : Program} {t e sz : Nat} (ht : P.underlying t = some (.slice e)) (hz : ∀ w, (sizeOf e).run P w = .ok sz w) (A : Option Addr) (len cap : Nat) (l : Int) (h0 : 0 ≤ l) (h1 : l ≤ len) (w : World) :
    (Instr.slice t (.slice A len cap) (some (.int .i64 l)) none none).run P w = .ok (.slice (if cap = l.toNat then A else A.map (·.add (l.toNat * sz))) (len - l.toNat) (cap - l.toNat)) w := by
  have he : P.elem t = e := by simp [Program.elem, ht]
  rw [run_slice_l w t A len cap (by rw [he]; exact ht) .i64 l h0 h1, he, hz]
  simp [Result.andThen, sliced]
/-- The first k elements of a row of the call's own: 's[:k]'. -/
theorem own_take {w : World} {base n sz k c : Nat} {e : TypeId} {A : Option Addr} {xs : List Value} (h : w.ownsRow base e sz (.slice A n c) n xs) (hk : k ≤ n) : w.ownsRow base e sz (.slice A k c) k (xs.take (k * sz)) := by
  obtain ⟨h1, h2⟩ := h
  refine ⟨by rw [List.length_take, h1]; exact Nat.min_eq_left (Nat.mul_le_mul_right _ hk), ?_⟩
  rcases h2 with ⟨he, h0⟩ | ⟨g, cap, cur, he, hb, hh, hn, hm, hs, ht⟩
  · obtain ⟨rfl, rfl, rfl⟩ := he
    obtain rfl : k = 0 := by omega
    exact .inl ⟨rfl, rfl⟩
  · injection he with e1 e2 e3
    subst e1 e3
    exact .inr ⟨g, c, cur, rfl, hb, hh, by omega, hm, hs, by rw [← ht, List.take_take, Nat.min_eq_left (Nat.mul_le_mul_right _ hk)]⟩
theorem own_at {w : World} {base n sz c : Nat} {e : TypeId} {A : Option Addr} {xs : List Value} (h : w.ownsRow base e sz (.slice A n c) n xs) (i : Nat) (hi : i < xs.length) : ∃ g, A = some ⟨g, 0, none⟩ ∧ w.cell? ⟨g, i, none⟩ = some xs[i] := by
  rcases h.2 with ⟨he, h0⟩ | ⟨g, cap, cur, he, hb, hh, hn, hm, hs, ht⟩
  · have := h.1; subst h0; simp at this; subst this; simp at hi
  · injection he with e1 e2 e3
    refine ⟨g, e1, ?_⟩
    rw [cell_of_row w g _ cur e (0, 0) hh, ← Array.getElem?_toList]
    have h3 : (cur.toList.take (n * sz))[i]? = some xs[i] := by rw [ht]; exact List.getElem?_eq_getElem hi
    rw [List.getElem?_take] at h3
    split at h3
    · exact h3
    · cases h3
theorem own_blk {w : World} {base n sz : Nat} {e : TypeId} {v : Value} {xs : List Value} (h : w.ownsRow base e sz v n xs) (g : Nat) (hg : v.ownBlock = some g) : ∃ cs, Blk w g e cs := by
  rcases h.2 with ⟨rfl, h0⟩ | ⟨g', cap, cur, rfl, hb, hh, _⟩
  · cases hg
  · cases hg; exact ⟨cur, hh⟩
theorem own_new0 {w : World} {base g : Nat} {e : TypeId} (hg : w.heap.size = g) (hb : base ≤ w.heap.size) : (w.alloc (.cells #[] e)).ownsRow base e 1 (.slice (some ⟨g, 0, none⟩) 0 0) 0 [] := by
  subst hg
  exact World.ownsRow_made _ _ _ hb (Nat.zero_le _) rfl
theorem Sl.drop {w : World} {K : Nat → Prop} {A : Option Addr} {n c : Nat} {xs : List Value} (h : Sl w K (.slice A n c) xs) (q : Nat) (hq : q ≤ n) : Sl w K (.slice (if c = q then A else A.map (·.add q)) (n - q) (c - q)) (xs.drop q) := by
  obtain ⟨A', n', c', he, hn, hc, hm, hx⟩ := h
  cases he
  refine ⟨_, _, _, rfl, by simp; omega, by omega, by omega, ?_⟩
  by_cases h0 : n - q = 0
  · exact .inl h0
  · obtain ⟨g, o, rfl, hK, hx⟩ := hx.resolve_left (by omega)
    refine .inr ⟨g, o + q, ?_, hK, fun i hi => ?_⟩
    · rw [if_neg (by omega)]
      show some ((⟨g, o, none⟩ : Addr).add q) = _
      unfold Addr.add; split
      · subst_vars; rfl
      · rfl
    · simp at hi
      have := hx (q + i) (by omega)
      rw [Nat.add_assoc, this]; simp
theorem own_new1 {w : World} {base g : Nat} {e : TypeId} {x : Value} (hg : w.heap.size = g) (hb : base ≤ w.heap.size) : (w.alloc (.cells #[x] e)).ownsRow base e 1 (.slice (some ⟨g, 0, none⟩) 1 1) 1 [x] := by
  subst hg
  exact ⟨rfl, .inr ⟨_, 1, #[x], rfl, hb, heap_alloc_new w _, Nat.le_refl _, by unfold maxLen; omega, rfl, rfl⟩⟩
/-- append onto a row of the call's own of whatever a slice holds, nil or not. -/
theorem wp_append_sl {P : Program} {w : World} {o : Oper} {a : Act} {C : Act → World → Prop} {Q : Exit → Act → World → Prop} (s x : Operand) (t : TypeId)
    (ho : o.op = .call { callee := .builtin .append, args := #[s, x], argTypes := #[t, t] })
    (base : Nat) (e : TypeId) (i : TypeInfo) (z : Value) (bytes : Nat) (ht : P.underlying t = some (.slice e)) (hi : P.info? e = some i) (hz : i.zero = some z)
    (hsize : i.size = 1) (hby : i.bytes = bytes) (hzs : z.cells.size = 1)
    (v : Value) (n : Nat) (xs : List Value) (hs : a.eval s = v) (hown : w.ownsRow base e 1 v n xs) (K : Nat → Prop) (u : Value) (news : List Value) (hx : a.eval x = u) (hsl : Sl w K u news) (h1 : ∀ u ∈ news, u.oneCell' = true)
    (h63 : n + news.length ≤ maxLen) (hbytes : (n + news.length) * bytes ≤ 140737488355328) (hbase : base ≤ w.heap.size)
    (h : ∀ A' N c' w', Hid (N = n + news.length) → N ≤ c' → c' ≤ 9223372036854775807 → w'.ownsRow base e 1 (.slice A' N c') N (xs ++ news) → w.grownBy w' v.ownBlock → ((Value.slice A' N c').ownBlock = v.ownBlock ∨ (Value.slice A' N c').ownBlock = some w.heap.size) → C (a.put o.dst (.slice A' N c')) w') : o.wp P a w C Q := by
  obtain ⟨A, m, c, rfl, hm, hc, hcm, hxs⟩ := hsl
  cases A with
  | none =>
    have hm0 : m = 0 := hxs.elim id fun ⟨_, _, h, _⟩ => by cases h
    have hnews : news = [] := List.eq_nil_of_length_eq_zero (by omega)
    subst hm0; subst hnews
    have hr : (Builtin.append_ #[t, t] o.type #[v, .slice none 0 c]).run P w = .ok v w := by
      rcases hown.2 with ⟨rfl, rfl⟩ | ⟨g, cap, cur, rfl, hb, hg, hn, hcap, hcs, htk⟩
      · simp [Builtin.append_, run_underlying ht, sizeOf, typeInfo, hi, Builtin.lenOf, Builtin.firstCells]
      · simp [Builtin.append_, run_underlying ht, sizeOf, typeInfo, hi, Builtin.lenOf, Builtin.firstCells, storeCells, hn]
    obtain ⟨A1, c1, rfl, hc1, hc2⟩ := own_form hown
    have hfin := h A1 n c1 w (Lib.hid (by simp)) hc1 hc2 (by simpa using hown) ⟨rfl, rfl, rfl, Nat.le_refl _, fun _ _ _ => rfl⟩ (.inl rfl)
    unfold Oper.wp execOp
    simp only [ho, resolve, invoke, builtin, Sem.run_bind, Sem.run_pure, Result.andThen_ok, List.map_toArray, List.map_cons, List.map_nil, hs, hx, hr]
    exact hfin
  | some ad =>
    have hnews : ∀ (j : Nat) (u : Value), news[j]? = some u → w.cell? (ad.add j) = some u := by
      intro j u hu
      obtain ⟨hj, rfl⟩ := List.getElem?_eq_some_iff.1 hu
      rcases hxs with h0 | ⟨g, o, h, _, h2⟩
      · omega
      · cases h
        rw [← h2 j hj]
        unfold Addr.add; split
        · subst_vars; rfl
        · rfl
    subst hm
    obtain ⟨v', w', hr, h2, h3, _, h5⟩ := run_append_own_at (P := P) w base t o.type e i z 1 bytes ht hi hz hsize hby hzs (by decide) v n xs hown ad news.length c news (by simp) hnews h1 h63 hbytes hbase
    unfold Oper.wp execOp
    simp only [ho, resolve, invoke, builtin, Sem.run_bind, Sem.run_pure, Result.andThen_ok, List.map_toArray, List.map_cons, List.map_nil, hs, hx, hr]
    obtain ⟨A1, c1, rfl, hc1, hc2⟩ := own_form h2
    exact h A1 _ c1 w' (Lib.hid rfl) hc1 hc2 h2 h3 h5
theorem wpList_append_sl {P : Program} {w : World} {ops : Array Oper} {rest : List Oper} {o : Oper} {a : Act} {Q : Exit → Act → World → Prop} (hgd : o.guard = none) (s x : Operand) (t : TypeId)
    (ho : o.op = .call { callee := .builtin .append, args := #[s, x], argTypes := #[t, t] })
    (base : Nat) (e : TypeId) (i : TypeInfo) (z : Value) (bytes : Nat) (ht : P.underlying t = some (.slice e)) (hi : P.info? e = some i) (hz : i.zero = some z)
    (hsize : i.size = 1) (hby : i.bytes = bytes) (hzs : z.cells.size = 1)
    (v : Value) (n : Nat) (xs : List Value) (hs : a.eval s = v) (hown : w.ownsRow base e 1 v n xs) (K : Nat → Prop) (u : Value) (news : List Value) (hx : a.eval x = u) (hsl : Sl w K u news) (h1 : ∀ u ∈ news, u.oneCell' = true)
    (h63 : n + news.length ≤ maxLen) (hbytes : (n + news.length) * bytes ≤ 140737488355328) (hbase : base ≤ w.heap.size)
    (h : ∀ A' N c' w', Hid (N = n + news.length) → N ≤ c' → c' ≤ 9223372036854775807 → w'.ownsRow base e 1 (.slice A' N c') N (xs ++ news) → w.grownBy w' v.ownBlock → ((Value.slice A' N c').ownBlock = v.ownBlock ∨ (Value.slice A' N c').ownBlock = some w.heap.size) → wpList P ops Q rest (a.put o.dst (.slice A' N c')) w') : wpList P ops Q (o :: rest) a w :=
  wpList_plain hgd fun _ hK => wp_append_sl s x t ho base e i z bytes ht hi hz hsize hby hzs v n xs hs hown K u news hx hsl h1 h63 hbytes hbase fun A' N c' w' e1 e2 e3 h2 h3 h4 => hK _ _ (h A' N c' w' e1 e2 e3 h2 h3 h4)
theorem step_append_sl {P : Program} {w : World} {ops : Array Oper} {o : Oper} {a : Act} {C : Act → World → Prop} {Q : Exit → Act → World → Prop} {E : Prop} (hgd : o.guard = none) (s x : Operand) (t : TypeId)
    (ho : o.op = .call { callee := .builtin .append, args := #[s, x], argTypes := #[t, t] })
    (base : Nat) (e : TypeId) (i : TypeInfo) (z : Value) (bytes : Nat) (ht : P.underlying t = some (.slice e)) (hi : P.info? e = some i) (hz : i.zero = some z)
    (hsize : i.size = 1) (hby : i.bytes = bytes) (hzs : z.cells.size = 1)
    (v : Value) (n : Nat) (xs : List Value) (hs : a.eval s = v) (hown : w.ownsRow base e 1 v n xs) (K : Nat → Prop) (u : Value) (news : List Value) (hx : a.eval x = u) (hsl : Sl w K u news) (h1 : ∀ u ∈ news, u.oneCell' = true)
    (h63 : n + news.length ≤ maxLen) (hbytes : (n + news.length) * bytes ≤ 140737488355328) (hbase : base ≤ w.heap.size)
    (h : ∀ A' N c' w', Hid (N = n + news.length) → N ≤ c' → c' ≤ 9223372036854775807 → w'.ownsRow base e 1 (.slice A' N c') N (xs ++ news) → w.grownBy w' v.ownBlock → ((Value.slice A' N c').ownBlock = v.ownBlock ∨ (Value.slice A' N c').ownBlock = some w.heap.size) → C (a.put o.dst (.slice A' N c')) w') :
    if Region.wanted o (yielded ops a.tmps) = true then Oper.wp P o a w C Q else E := by
  have hw : Region.wanted o (yielded ops a.tmps) = true := by simp [Region.wanted, hgd]
  rw [if_pos hw]
  exact wp_append_sl s x t ho base e i z bytes ht hi hz hsize hby hzs v n xs hs hown K u news hx hsl h1 h63 hbytes hbase h

/-- A slice value whose elements take sz cells each reads as the cells xs, in blocks of K. -/
def SlZ (w : World) (K : Nat → Prop) (sz : Nat) (v : Value) (xs : List Value) : Prop :=
  ∃ A n c, v = .slice A n c ∧ xs.length = n * sz ∧ n ≤ c ∧ c ≤ 9223372036854775807 ∧
    (n = 0 ∨ ∃ g o, A = some ⟨g, o, none⟩ ∧ K g ∧ ∀ i (h : i < xs.length), w.cell? ⟨g, o + i, none⟩ = some xs[i])
theorem SlZ.nil (w : World) (K : Nat → Prop) (sz : Nat) : SlZ w K sz (.slice none 0 0) [] := ⟨none, 0, 0, rfl, by simp, Nat.le_refl _, by omega, .inl rfl⟩
theorem SlZ.keptTo {w w' : World} {K K' : Nat → Prop} {sz : Nat} {v : Value} {xs : List Value} (h : SlZ w K sz v xs) (hf : ∀ k, K k → w'.heap[k]? = w.heap[k]? ∧ K' k) : SlZ w' K' sz v xs := by
  obtain ⟨A, n, c, rfl, hn, hc, hm, hx⟩ := h
  refine ⟨A, n, c, rfl, hn, hc, hm, hx.imp id ?_⟩
  rintro ⟨g, o, rfl, hK, hx⟩
  exact ⟨g, o, rfl, (hf g hK).2, fun i hi => (World.cell?_of_block (w := w) (hf g hK).1).trans (hx i hi)⟩
theorem SlZ.of_own {w : World} {base n sz : Nat} {e : TypeId} {v : Value} {xs : List Value} {K : Nat → Prop} (h : w.ownsRow base e sz v n xs) (hK : ∀ g, v.ownBlock = some g → K g) : SlZ w K sz v xs := by
  obtain ⟨h1, h2⟩ := h
  rcases h2 with ⟨rfl, rfl⟩ | ⟨g, cap, cur, rfl, hb, hh, hn, hm, hs, ht⟩
  · exact ⟨none, 0, 0, rfl, by simpa using h1, Nat.le_refl _, by omega, Or.inl rfl⟩
  · refine ⟨_, n, cap, rfl, h1, hn, hm, Or.inr ⟨g, 0, rfl, hK g rfl, fun i hi => ?_⟩⟩
    rw [cell_of_row w g _ cur e (0, 0) hh, ← Array.getElem?_toList, Nat.zero_add]
    have h3 : (cur.toList.take (n * sz))[i]? = some xs[i] := by rw [ht]; exact List.getElem?_eq_getElem hi
    rw [List.getElem?_take] at h3
    split at h3
    · exact h3
    · cases h3
theorem wp_append_slz {P : Program} {w : World} {o : Oper} {a : Act} {C : Act → World → Prop} {Q : Exit → Act → World → Prop} (s x : Operand) (t : TypeId)
    (ho : o.op = .call { callee := .builtin .append, args := #[s, x], argTypes := #[t, t] })
    (base : Nat) (e : TypeId) (i : TypeInfo) (z : Value) (sz bytes : Nat) (ht : P.underlying t = some (.slice e)) (hi : P.info? e = some i) (hz : i.zero = some z)
    (hsize : i.size = sz) (hby : i.bytes = bytes) (hzs : z.cells.size = sz) (hsz : 0 < sz)
    (v : Value) (n : Nat) (xs : List Value) (hs : a.eval s = v) (hown : w.ownsRow base e sz v n xs) (K : Nat → Prop) (u : Value) (m : Nat) (news : List Value) (hx : a.eval x = u) (hsl : SlZ w K sz u news) (hl : news.length = m * sz) (h1 : ∀ u ∈ news, u.oneCell' = true)
    (h63 : n + m ≤ maxLen) (hbytes : (n + m) * bytes ≤ 140737488355328) (hbase : base ≤ w.heap.size)
    (h : ∀ A' N c' w', Hid (N = n + m) → N ≤ c' → c' ≤ 9223372036854775807 → w'.ownsRow base e sz (.slice A' N c') N (xs ++ news) → w.grownBy w' v.ownBlock → ((Value.slice A' N c').ownBlock = v.ownBlock ∨ (Value.slice A' N c').ownBlock = some w.heap.size) → C (a.put o.dst (.slice A' N c')) w') : o.wp P a w C Q := by
  obtain ⟨A, m', c, rfl, hm, hc, hcm, hxs⟩ := hsl
  have hmm : m' = m := Nat.eq_of_mul_eq_mul_right hsz (by omega)
  subst hmm
  cases A with
  | none =>
    have hm0 : m' = 0 := hxs.elim id fun ⟨_, _, h, _⟩ => by cases h
    have hnews : news = [] := List.eq_nil_of_length_eq_zero (by rw [hl, hm0]; simp)
    subst hm0; subst hnews
    have hr : (Builtin.append_ #[t, t] o.type #[v, .slice none 0 c]).run P w = .ok v w := by
      rcases hown.2 with ⟨rfl, rfl⟩ | ⟨g, cap, cur, rfl, hb, hg, hn, hcap, hcs, htk⟩
      · simp [Builtin.append_, run_underlying ht, sizeOf, typeInfo, hi, Builtin.lenOf, Builtin.firstCells]
      · simp [Builtin.append_, run_underlying ht, sizeOf, typeInfo, hi, Builtin.lenOf, Builtin.firstCells, storeCells, hn]
    obtain ⟨A1, c1, rfl, hc1, hc2⟩ := own_form hown
    have hfin := h A1 n c1 w (Lib.hid (by simp)) hc1 hc2 (by simpa using hown) ⟨rfl, rfl, rfl, Nat.le_refl _, fun _ _ _ => rfl⟩ (.inl rfl)
    unfold Oper.wp execOp
    simp only [ho, resolve, invoke, builtin, Sem.run_bind, Sem.run_pure, Result.andThen_ok, List.map_toArray, List.map_cons, List.map_nil, hs, hx, hr]
    exact hfin
  | some ad =>
    have hnews : ∀ (j : Nat) (u : Value), news[j]? = some u → w.cell? (ad.add j) = some u := by
      intro j u hu
      obtain ⟨hj, rfl⟩ := List.getElem?_eq_some_iff.1 hu
      rcases hxs with h0 | ⟨g, o, h, _, h2⟩
      · rw [hl, h0] at hj; omega
      · cases h
        rw [← h2 j hj]
        unfold Addr.add; split
        · subst_vars; rfl
        · rfl
    obtain ⟨v', w', hr, h2, h3, _, h5⟩ := run_append_own_at (P := P) w base t o.type e i z sz bytes ht hi hz hsize hby hzs hsz v n xs hown ad m' c news hl hnews h1 h63 hbytes hbase
    unfold Oper.wp execOp
    simp only [ho, resolve, invoke, builtin, Sem.run_bind, Sem.run_pure, Result.andThen_ok, List.map_toArray, List.map_cons, List.map_nil, hs, hx, hr]
    obtain ⟨A1, c1, rfl, hc1, hc2⟩ := own_form h2
    exact h A1 _ c1 w' (Lib.hid rfl) hc1 hc2 h2 h3 h5
theorem wpList_append_slz {P : Program} {w : World} {ops : Array Oper} {rest : List Oper} {o : Oper} {a : Act} {Q : Exit → Act → World → Prop} (hgd : o.guard = none) (s x : Operand) (t : TypeId)
    (ho : o.op = .call { callee := .builtin .append, args := #[s, x], argTypes := #[t, t] })
    (base : Nat) (e : TypeId) (i : TypeInfo) (z : Value) (sz bytes : Nat) (ht : P.underlying t = some (.slice e)) (hi : P.info? e = some i) (hz : i.zero = some z)
    (hsize : i.size = sz) (hby : i.bytes = bytes) (hzs : z.cells.size = sz) (hsz : 0 < sz)
    (v : Value) (n : Nat) (xs : List Value) (hs : a.eval s = v) (hown : w.ownsRow base e sz v n xs) (K : Nat → Prop) (u : Value) (m : Nat) (news : List Value) (hx : a.eval x = u) (hsl : SlZ w K sz u news) (hl : news.length = m * sz) (h1 : ∀ u ∈ news, u.oneCell' = true)
    (h63 : n + m ≤ maxLen) (hbytes : (n + m) * bytes ≤ 140737488355328) (hbase : base ≤ w.heap.size)
    (h : ∀ A' N c' w', Hid (N = n + m) → N ≤ c' → c' ≤ 9223372036854775807 → w'.ownsRow base e sz (.slice A' N c') N (xs ++ news) → w.grownBy w' v.ownBlock → ((Value.slice A' N c').ownBlock = v.ownBlock ∨ (Value.slice A' N c').ownBlock = some w.heap.size) → wpList P ops Q rest (a.put o.dst (.slice A' N c')) w') : wpList P ops Q (o :: rest) a w :=
  wpList_plain hgd fun _ hK => wp_append_slz s x t ho base e i z sz bytes ht hi hz hsize hby hzs hsz v n xs hs hown K u m news hx hsl hl h1 h63 hbytes hbase fun A' N c' w' e1 e2 e3 h2 h3 h4 => hK _ _ (h A' N c' w' e1 e2 e3 h2 h3 h4)

theorem step_append_slz {P : Program} {w : World} {ops : Array Oper} {o : Oper} {a : Act} {C : Act → World → Prop} {Q : Exit → Act → World → Prop} {E : Prop} (hw : Region.wanted o (yielded ops a.tmps) = true) (s x : Operand) (t : TypeId)
    (ho : o.op = .call { callee := .builtin .append, args := #[s, x], argTypes := #[t, t] })
    (base : Nat) (e : TypeId) (i : TypeInfo) (z : Value) (sz bytes : Nat) (ht : P.underlying t = some (.slice e)) (hi : P.info? e = some i) (hz : i.zero = some z)
    (hsize : i.size = sz) (hby : i.bytes = bytes) (hzs : z.cells.size = sz) (hsz : 0 < sz)
    (v : Value) (n : Nat) (xs : List Value) (hs : a.eval s = v) (hown : w.ownsRow base e sz v n xs) (K : Nat → Prop) (u : Value) (m : Nat) (news : List Value) (hx : a.eval x = u) (hsl : SlZ w K sz u news) (hl : news.length = m * sz) (h1 : ∀ u ∈ news, u.oneCell' = true)
    (h63 : n + m ≤ maxLen) (hbytes : (n + m) * bytes ≤ 140737488355328) (hbase : base ≤ w.heap.size)
    (h : ∀ A' N c' w', Hid (N = n + m) → N ≤ c' → c' ≤ 9223372036854775807 → w'.ownsRow base e sz (.slice A' N c') N (xs ++ news) → w.grownBy w' v.ownBlock → ((Value.slice A' N c').ownBlock = v.ownBlock ∨ (Value.slice A' N c').ownBlock = some w.heap.size) → C (a.put o.dst (.slice A' N c')) w') :
    if Region.wanted o (yielded ops a.tmps) = true then Oper.wp P o a w C Q else E := by
  rw [if_pos hw]
  exact wp_append_slz s x t ho base e i z sz bytes ht hi hz hsize hby hzs hsz v n xs hs hown K u m news hx hsl hl h1 h63 hbytes hbase h
theorem SlZ.blk2 (w : World) (x y : Value) (t : TypeId) : SlZ (w.alloc (.cells #[x, y] t)) (fun k => k = w.heap.size) 2 (.slice (some ⟨w.heap.size, 0, none⟩) 1 1) [x, y] :=
  ⟨_, _, _, rfl, rfl, Nat.le_refl _, by omega, .inr ⟨_, 0, rfl, rfl, fun i hi => by
    have hc := fun i => cell_of_row _ w.heap.size i _ t (0, 0) (heap_alloc_new w (.cells #[x, y] t))
    rw [Nat.zero_add, hc i]
    simp⟩⟩
theorem heap_setRow (w : World) (g k : Nat) (cs : Array Value) (h : k ≠ g) : (w.setRow g cs).heap[k]? = w.heap[k]? := by
  simp only [World.setRow, Array.getElem?_modify]
  rw [if_neg (fun e => h e.symm)]
theorem Blk.setRow {w : World} {g : Nat} {t : TypeId} {cs : Array Value} (h : Blk w g t cs) (cs' : Array Value) : Blk (w.setRow g cs') g t cs' := setRow_heap w g cs cs' t (0, 0) h
theorem Frm.setRow {K : Nat → Prop} {w w1 : World} (h : Frm K w w1) {g : Nat} (hg : K g ∨ w.heap.size ≤ g) (cs : Array Value) : Frm K w (w1.setRow g cs) :=
  ⟨h.os, h.tape, h.output, by simpa [World.setRow] using h.size, fun k hl hn => (heap_setRow _ _ _ _ (by rintro rfl; exact hg.elim hn (fun hh => absurd hl (by omega)))).trans (h.block k hl hn)⟩
/-- 'clear' of a row that is the whole of its block. -/
theorem run_clear_row {P : Program} (w : World) (t e ty : TypeId) (z : Value) (ht : P.underlying t = some (.slice e)) (hv : ∀ w, (zeroValue e).run P w = .ok z w) (g n c : Nat) (et : TypeId) (cur : Array Value) (hg : Blk w g et cur) (hn : 0 < n) (hs : n * z.cells.size = cur.size) (h1 : ∀ v ∈ z.cells.toList, v.oneCell' = true) :
    (Builtin.clear_ #[t] ty #[.slice (some ⟨g, 0, none⟩) n c]).run P w = .ok (.tuple #[]) (w.setRow g (Builtin.zeroCells z.cells n)) := by
  have hsz : (Builtin.zeroCells z.cells n).toList.length = cur.size := by simp [Builtin.zeroCells, hs]
  have hst := run_storeCells_at (P := P) g 0 et (Builtin.zeroCells z.cells n).toList 0 cur w hg (by omega) (fun v hv' => by
    simp only [Builtin.zeroCells, Array.toList_map, List.mem_map] at hv'
    obtain ⟨i, hi, rfl⟩ := hv'
    have hi' : i < n * z.cells.size := by simpa using hi
    have hp : 0 < z.cells.size := by
      rcases Nat.eq_zero_or_pos z.cells.size with h0 | h0
      · rw [h0] at hi'; omega
      · exact h0
    have hlt : i % z.cells.size < z.cells.size := Nat.mod_lt _ hp
    rw [getElem!_pos z.cells _ hlt]
    exact h1 _ (by simp))
  rw [show (0 + 0 + (Builtin.zeroCells z.cells n).toList.length) = cur.toList.length from by rw [hsz]; simp, List.drop_length] at hst
  simp only [Nat.add_zero, List.take_zero, List.nil_append, List.append_nil, Array.toArray_toList] at hst
  obtain ⟨m, rfl⟩ : ∃ m, n = m + 1 := ⟨n - 1, by omega⟩
  simp [Builtin.clear_, run_underlying ht, hv, hst]
/-- 'string(b)'. -/
theorem run_conv {P : Program} {src e dst : TypeId} (hs : P.underlying src = some (.slice e)) (he : P.underlying e = some (.int .u8)) (hd : P.underlying dst = some .string) {w : World} {K : Nat → Prop} {v : Value} {l : List UInt8} (h : Sl w K v (bv l)) :
    (convert src dst v).run P w = .ok (.string ⟨l.toArray⟩) w := by
  obtain ⟨A, n, c, rfl, hn, hc, hm, hx⟩ := h
  rw [bv_length] at hn
  cases A with
  | none =>
    have h0 : n = 0 := hx.elim id fun ⟨_, _, h, _⟩ => by cases h
    have hl : l = [] := List.eq_nil_of_length_eq_zero (by omega)
    subst hl
    exact run_convert_bytes_nil w src e hs he n c dst hd
  | some a =>
    have hl : (loadCells a n).run P w = .ok ((l.map fun c => ((c.toNat : Nat) : Int)).map (Value.int .u8)).toArray w := by
      rcases hx with h0 | ⟨g, o, h, _, hcs⟩
      · subst h0
        have hl : l = [] := List.eq_nil_of_length_eq_zero (by omega)
        subst hl
        simp [loadCells, loadCellsFrom]
      · cases h
        have := run_loadCells_list (P := P) w ⟨g, o, none⟩ (bv l) (fun j v hj => by
          obtain ⟨hj1, rfl⟩ := List.getElem?_eq_some_iff.1 hj
          rw [← hcs j hj1]
          unfold Addr.add; split
          · subst_vars; rfl
          · rfl)
        rw [bv_length, ← hn] at this
        rw [this]
        simp [bv]
    rw [run_convert_bytes_string w src dst e _ n c hs he hd, run_bytesToString w _ n c _ hl, foldl_push_bytes]
    have e1 : (l.map fun c => ((c.toNat : Nat) : Int)).map (fun n : Int => UInt8.ofNat n.toNat) = l := by
      rw [List.map_map]
      conv => rhs; rw [← List.map_id l]
      exact List.map_congr_left fun c _ => by simp
    rw [e1]
    simp [ByteArray.empty, ByteArray.emptyWithCapacity]
    rfl

theorem run_convN {P : Program} {src e dst : TypeId} (hs : P.underlying src = some (.slice e)) (he : P.underlying e = some (.int .u8)) (hd : P.underlying dst = some .string) {w : World} {K : Nat → Prop} {v : Value} {l : List UInt8} (h : Sl w K v (bv l)) (n : Nat) :
    (convert src dst v).run P (w.drewN n) = .ok (.string ⟨l.toArray⟩) (w.drewN n) := run_conv hs he hd (K := K) (w := w.drewN n) h
/-- A slice of byte slices reads as L: the row in blocks of K, the bytes in blocks of K'. -/
def Each (w : World) (K' : Nat → Prop) (vs : List Value) (L : List (List UInt8)) : Prop :=
  vs.length = L.length ∧ ∀ (i : Nat) (v : Value) (l : List UInt8), vs[i]? = some v → L[i]? = some l → Sl w K' v (bv l)
def tot (L : List (List UInt8)) : Nat := (L.map List.length).sum
@[simp] theorem tot_nil : tot [] = 0 := rfl
@[simp] theorem tot_cons (l : List UInt8) (L : List (List UInt8)) : tot (l :: L) = l.length + tot L := by simp [tot]
section
variable {w w' : World} {K K' : Nat → Prop} {vs : List Value} {L : List (List UInt8)}
theorem Each.kept (h : Each w K vs L) (hf : ∀ k, K k → w'.heap[k]? = w.heap[k]? ∧ K' k) : Each w' K' vs L :=
  ⟨h.1, fun i v l hv hl => (h.2 i v l hv hl).keptTo hf⟩
theorem Each.tail {v : Value} {l : List UInt8} (h : Each w K (v :: vs) (l :: L)) : Each w K vs L :=
  ⟨by simpa using h.1, fun i v' l' hv hl => h.2 (i + 1) v' l' (by simpa using hv) (by simpa using hl)⟩
theorem Each.cons {v : Value} {l : List UInt8} (h : Each w K vs L) (hv : Sl w K v (bv l)) : Each w K (v :: vs) (l :: L) :=
  ⟨by simpa using h.1, fun i v' l' hv' hl => by
    cases i with
    | zero => simp at hv' hl; subst hv' hl; exact hv
    | succ i => exact h.2 i v' l' (by simpa using hv') (by simpa using hl)⟩
theorem Each.snoc {v : Value} {l : List UInt8} (h : Each w K vs L) (hv : Sl w K v (bv l)) : Each w K (vs ++ [v]) (L ++ [l]) :=
  ⟨by simpa using h.1, fun i v' l' hv' hl => by
    rcases Nat.lt_trichotomy i vs.length with hi | hi | hi
    · rw [List.getElem?_append_left hi] at hv'
      rw [List.getElem?_append_left (by rw [← h.1]; exact hi)] at hl
      exact h.2 i v' l' hv' hl
    · rw [List.getElem?_append_right (by omega), hi] at hv'
      rw [List.getElem?_append_right (by rw [← h.1]; omega), hi, h.1] at hl
      simp at hv' hl
      subst hv' hl
      exact hv
    · rw [List.getElem?_append_right (by omega)] at hv'
      rw [List.getElem?_eq_none (by simp; omega)] at hv'
      cases hv'⟩
theorem Each.head {v : Value} {l : List UInt8} (h : Each w K (v :: vs) (l :: L)) : Sl w K v (bv l) := h.2 0 v l rfl rfl
end
end Go.Proofs.YtpcdbkaeijhmfaaDoor
