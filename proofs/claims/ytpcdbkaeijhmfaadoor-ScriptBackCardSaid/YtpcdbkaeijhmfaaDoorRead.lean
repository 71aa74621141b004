/- Arguments of any shape, read as data. -/
import Derived.Test.YtpcdbkaeijhmfaaDoorLaw
import Derived.Deep.Slices
import Derived.Deep.Fields
import Derived.ChangeSame
namespace Go.Proofs.YtpcdbkaeijhmfaaDoor
set_option maxRecDepth 100000
set_option linter.unusedVariables false
set_option linter.unusedSimpArgs false
open Go.RowKit Go.ChangeShapes Go.WideShapes Go.Deep
section
variable {H : Type} {enc : TypeId × Value → H} {P : Program} {W : World}
def w_cell (w : World) (g o : Nat) : Option Value := w.cell? ⟨g, o, none⟩
/-- What is read at type t takes sz cells, of which Rel tells a datum. -/
def Rdr (enc : TypeId × Value → H) (P : Program) (W : World) (t : TypeId) (sz : Nat) {α : Type} (Rel : List Value → α → Prop) : Prop :=
  P.cellsOf t = sz ∧ ∀ fuel cs x, DataW.trod enc P W 0 (fun _ => true) true fuel t cs = some x → cs.length = sz ∧ ∃ y, Rel cs y
def RInt (k : IntKind) (cs : List Value) (n : Int) : Prop := cs = [.int k n] ∧ (Lit.int k n).wf = true
def RBool (cs : List Value) (b : Bool) : Prop := cs = [.bool b]
def RStr (cs : List Value) (s : ByteArray) : Prop := cs = [.string s] ∧ s.size ≤ maxLen
def RSl (W : World) (sz : Nat) {α : Type} (Rel : List Value → α → Prop) (cs : List Value) (p : Value × List (List Value × α)) : Prop :=
  cs = [p.1] ∧ SlZ W (fun k => k < W.heap.size) sz p.1 (p.2.flatMap (·.1)) ∧ ∀ y ∈ p.2, y.1.length = sz ∧ Rel y.1 y.2
def RNil (cs : List Value) (_ : Unit) : Prop := cs = []
def RCons {α β : Type} (R : List Value → α → Prop) (R' : List Value → β → Prop) (cs : List Value) (y : α × β) : Prop := ∃ c0 c1, cs = c0 ++ c1 ∧ R c0 y.1 ∧ R' c1 y.2
theorem rdr_int {t : TypeId} {k : IntKind} (ht : P.underlying t = some (.int k)) (hc : P.cellsOf t = 1) : Rdr enc P W t 1 (RInt k) :=
  ⟨hc, fun fuel cs x h => by obtain ⟨n, rfl, _, hw⟩ := DataW.trod_int ht h; exact ⟨rfl, n, rfl, hw⟩⟩
theorem rdr_bool {t : TypeId} (ht : P.underlying t = some .bool) (hc : P.cellsOf t = 1) : Rdr enc P W t 1 RBool :=
  ⟨hc, fun fuel cs x h => by obtain ⟨n, rfl, _⟩ := DataW.trod_bool ht h; exact ⟨rfl, n, rfl⟩⟩
theorem rdr_str {t : TypeId} (ht : P.underlying t = some .string) (hc : P.cellsOf t = 1) : Rdr enc P W t 1 RStr :=
  ⟨hc, fun fuel cs x h => by obtain ⟨n, rfl, _, hs⟩ := DataW.trod_string ht h; exact ⟨rfl, n, rfl, hs⟩⟩
theorem addr_add (a : Addr) (i j : Nat) : (a.add i).add j = a.add (i + j) := by
  unfold Addr.add
  by_cases hi : i = 0
  · subst hi; simp
  · by_cases hj : j = 0
    · subst hj; simp
    · simp [hi, hj, Nat.add_assoc]
theorem flatMap_len {α : Type} {sz : Nat} (ys : List (List Value × α)) (h : ∀ y ∈ ys, y.1.length = sz) : (ys.flatMap (·.1)).length = ys.length * sz := by
  induction ys with
  | nil => simp
  | cons y ys ih => rw [List.flatMap_cons, List.length_append, ih fun e he => h e (by simp [he]), h y (by simp), List.length_cons, Nat.add_mul]; omega
theorem flatMap_at {α : Type} {sz : Nat} (ys : List (List Value × α)) (h : ∀ y ∈ ys, y.1.length = sz) (k j : Nat) (hk : k < ys.length) (hj : j < sz) : (ys.flatMap (·.1))[k * sz + j]? = (ys[k].1)[j]? := by
  induction ys generalizing k with
  | nil => simp at hk
  | cons y ys ih =>
    have hy := h y (by simp)
    rw [List.flatMap_cons]
    cases k with
    | zero => rw [List.getElem?_append_left (by omega)]; simp
    | succ k =>
      rw [List.getElem?_append_right (by rw [hy, Nat.add_mul]; omega), hy]
      rw [show (k + 1) * sz + j - sz = k * sz + j from by rw [Nat.add_mul]; omega]
      simpa using ih (fun e he => h e (by simp [he])) k (by simpa using hk)
theorem rdr_slice {α : Type} {sz : Nat} {Rel : List Value → α → Prop} {t e : TypeId} (ht : P.underlying t = some (.slice e)) (hc : P.cellsOf t = 1) (hpos : 0 < sz) (he : Rdr enc P W e sz Rel) : Rdr enc P W t 1 (RSl W sz Rel) := by
  refine ⟨hc, fun fuel cs x h => ?_⟩
  rcases open_slice ht h with ⟨rfl, _⟩ | ⟨a, len, cap, m, n, D, Pl, rfl, _, hl, hm, hmm, _, hrow⟩
  · exact ⟨rfl, (.slice none 0 0, []), rfl, SlZ.nil _ _ _, by simp⟩
  · simp only [if_true] at hmm
    rw [he.1] at hrow
    have hel : ∀ i, i < len → ∃ q : List Value × α, q.1.length = sz ∧ Rel q.1 q.2 ∧ ∀ j, j < sz → W.cell? (a.add (i * sz + j)) = q.1[j]? := fun i hi => by
      obtain ⟨cs, hcs, htr⟩ := hrow i (by omega)
      obtain ⟨h1, y, hy⟩ := he.2 _ _ _ htr
      refine ⟨(cs, y), h1, hy, fun j hj => ?_⟩
      have := (World.cells?_some hcs).2.2 j hj
      rw [← this, addr_add]
    obtain ⟨ys, hys, hat⟩ : ∃ ys : List (List Value × α), ys.length = len ∧ ∀ i (hi : i < ys.length), (ys[i]).1.length = sz ∧ Rel (ys[i]).1 (ys[i]).2 ∧ ∀ j, j < sz → W.cell? (a.add (i * sz + j)) = (ys[i]).1[j]? := by
      refine ⟨(List.range len).attach.map fun i => (hel i.1 (List.mem_range.1 i.2)).choose, by simp, fun i hi => ?_⟩
      have := (hel i (by simpa using hi)).choose_spec
      simpa using this
    have hall : ∀ y ∈ ys, y.1.length = sz ∧ Rel y.1 y.2 := fun y hy => by
      obtain ⟨i, hi, rfl⟩ := List.getElem_of_mem hy
      exact ⟨(hat i hi).1, (hat i hi).2.1⟩
    have hlen := flatMap_len ys fun y hy => (hall y hy).1
    refine ⟨rfl, (.slice (some a) len cap, ys), rfl, ⟨_, len, cap, rfl, by rw [hlen, hys], hl, hm, ?_⟩, hall⟩
    by_cases h0 : len = 0
    · exact .inl h0
    · obtain ⟨g, o, sp⟩ := a
      have hc0 := (hat 0 (by omega)).2.2 0 hpos
      have h00 := (hat 0 (by omega)).1
      rw [List.getElem?_eq_getElem (by rw [h00]; exact hpos)] at hc0
      have hsp : sp = none := by simpa [Addr.add] using World.cell?_spot hc0
      subst hsp
      have e1 : ∀ i, (⟨g, o, none⟩ : Addr).add i = ⟨g, o + i, none⟩ := fun i => by unfold Addr.add; split <;> simp_all
      refine .inr ⟨g, o, rfl, World.block_lt_of_cell? _ _ (by rw [e1] at hc0; exact hc0), fun i hi => ?_⟩
      rw [hlen, hys] at hi
      have hdm := Nat.div_add_mod i sz
      have hd1 : i / sz < len := Nat.div_lt_of_lt_mul (by rw [Nat.mul_comm]; exact hi)
      have hd2 : i % sz < sz := Nat.mod_lt _ hpos
      have hcx := (hat (i / sz) (by omega)).2.2 _ hd2
      have hdm' : i / sz * sz + i % sz = i := by rw [Nat.mul_comm]; exact hdm
      rw [hdm', e1] at hcx
      have hf := flatMap_at ys (fun y hy => (hall y hy).1) (i / sz) (i % sz) (by omega) hd2
      rw [hdm'] at hf
      show W.cell? ⟨g, o + i, none⟩ = _
      rw [hcx, ← hf]
      exact List.getElem?_eq_getElem _
/-- The fields of a struct from the i-th on, which begins at the cell o. -/
def RF (enc : TypeId × Value → H) (P : Program) (W : World) (fs : Array Field) (i o sz : Nat) {α : Type} (Rel : List Value → α → Prop) : Prop :=
  ∀ (n : Nat) (cs : List Value), (∀ (j : Nat) (f : Field), fs[j]? = some f → ∃ x, DataW.trod enc P W 0 (fun _ => true) true n f.type ((cs.drop f.offset).take (P.cellsOf f.type)) = some x) → o + sz ≤ cs.length → ∃ y, Rel ((cs.drop o).take sz) y
theorem rf_nil {fs : Array Field} {i o : Nat} : RF enc P W fs i o 0 RNil := fun n cs _ _ => ⟨(), by simp [RNil]⟩
theorem rf_cons {α β : Type} {fs : Array Field} {i o s sz : Nat} {f : Field} {R : List Value → α → Prop} {R' : List Value → β → Prop} (hf : fs[i]? = some f) (ho : f.offset = o) (h : Rdr enc P W f.type s R) (h' : RF enc P W fs (i + 1) (o + s) sz R') : RF enc P W fs i o (s + sz) (RCons R R') := fun n cs ht hl => by
  obtain ⟨x, hx⟩ := ht i f hf
  rw [h.1, ho] at hx
  obtain ⟨_, y, hy⟩ := h.2 _ _ _ hx
  obtain ⟨z, hz⟩ := h' n cs ht (by omega)
  refine ⟨(y, z), _, _, ?_, hy, hz⟩
  rw [List.take_add, List.drop_drop]
theorem rdr_struct {α : Type} {t : TypeId} {fs : Array Field} {sz : Nat} {Rel : List Value → α → Prop} (ht : P.underlying t = some (.struct fs)) (hc : P.cellsOf t = sz) (h : RF enc P W fs 0 0 sz Rel) : Rdr enc P W t sz Rel := by
  refine ⟨hc, fun fuel cs x hx => ?_⟩
  obtain ⟨ys, n, _, _, hl, hlen, hq⟩ := DataW.trod_struct ht hx
  rw [hc] at hl
  refine ⟨hl, ?_⟩
  have := h n cs (fun j f hf => by
    have hj : j < ys.length := by rw [hlen]; exact (Array.getElem?_eq_some_iff.1 hf).1
    exact ⟨_, (hq j f hf).trans (List.getElem?_eq_getElem hj)⟩) (by omega)
  simpa [← hl] using this
theorem rdr_arg {α : Type} {t : TypeId} {sz : Nat} {Rel : List Value → α → Prop} {v : Value} {d : DataW H} {p : List MemPlace} (h : Rdr enc P W t sz Rel) (hT : DataW.Trod enc P W 0 (fun _ => true) true t v d p) : ∃ y, Rel v.cells.toList y := by
  obtain ⟨fuel, hf⟩ := hT
  exact (h.2 _ _ _ hf).2
/-- A slice as an argument. -/
theorem rdr_slice_arg {α : Type} {sz base : Nat} {Rel : List Value → α → Prop} {t e : TypeId} {v : Value} {d : DataW H} {p : List MemPlace} (ht : P.underlying t = some (.slice e)) (h : Rdr enc P W t 1 (RSl W sz Rel)) (hok : Value.okWide P W .any base t v) (hT : DataW.Trod enc P W 0 (fun _ => true) true t v d p) :
    ∃ ys : List (List Value × α), SlZ W (fun k => k < W.heap.size) sz v (ys.flatMap (·.1)) ∧ ∀ y ∈ ys, y.1.length = sz ∧ Rel y.1 y.2 := by
  obtain ⟨a0, len0, cap0, rfl⟩ := okWide_slice ht hok
  obtain ⟨⟨v', ys⟩, h1, h2, h3⟩ := rdr_arg h hT
  simp [Value.cells] at h1
  subst h1
  exact ⟨ys, h2, h3⟩
theorem SlZ.one {K : Nat → Prop} {v : Value} {xs : List Value} (h : SlZ W K 1 v xs) : Sl W K v xs := by
  obtain ⟨A, n, c, rfl, hn, hc, hm, hx⟩ := h
  exact ⟨A, n, c, rfl, by omega, hc, hm, hx⟩
theorem flat_ints {k : IntKind} (ys : List (List Value × Int)) (h : ∀ y ∈ ys, y.1.length = 1 ∧ RInt k y.1 y.2) : ys.flatMap (·.1) = (ys.map (·.2)).map (.int k) := by
  induction ys with
  | nil => rfl
  | cons y ys ih => rw [List.flatMap_cons, ih fun e he => h e (by simp [he]), (h y (by simp)).2.1]; rfl
theorem flat_strs (ys : List (List Value × ByteArray)) (h : ∀ y ∈ ys, y.1.length = 1 ∧ RStr y.1 y.2) : ys.flatMap (·.1) = (ys.map (·.2)).map .string := by
  induction ys with
  | nil => rfl
  | cons y ys ih => rw [List.flatMap_cons, ih fun e he => h e (by simp [he]), (h y (by simp)).2.1]; rfl
/-- A slice of integers, told by the general reader. -/
theorem sl_ints {k : IntKind} {v : Value} {ys : List (List Value × Int)} (h1 : SlZ W (fun k => k < W.heap.size) 1 v (ys.flatMap (·.1))) (h2 : ∀ y ∈ ys, y.1.length = 1 ∧ RInt k y.1 y.2) : Sl W (fun k => k < W.heap.size) v ((ys.map (·.2)).map (.int k)) ∧ ∀ n ∈ ys.map (·.2), (Lit.int k n).wf = true := by
  rw [flat_ints ys h2] at h1
  refine ⟨h1.one, fun n hn => ?_⟩
  obtain ⟨y, hy, rfl⟩ := List.mem_map.1 hn
  exact (h2 y hy).2.2
theorem sl_bytes {v : Value} {ys : List (List Value × Int)} (h1 : SlZ W (fun k => k < W.heap.size) 1 v (ys.flatMap (·.1))) (h2 : ∀ y ∈ ys, y.1.length = 1 ∧ RInt .u8 y.1 y.2) : Sl W (fun k => k < W.heap.size) v (bv (ys.map fun y => UInt8.ofNat y.2.toNat)) := by
  obtain ⟨h3, h4⟩ := sl_ints h1 h2
  have e : (ys.map (·.2)).map (.int .u8) = bv (ys.map fun y => UInt8.ofNat y.2.toNat) := by
    simp only [bv, List.map_map]
    refine List.map_congr_left fun y hy => ?_
    have := u8_of (h4 y.2 (List.mem_map.2 ⟨y, hy, rfl⟩))
    simp only [Function.comp]
    rw [← this]
  rw [← e]
  exact h3
end
end Go.Proofs.YtpcdbkaeijhmfaaDoor
