/- A queue of package fifo at string within a walk: its contracts with the frame. -/
import Derived.Test.YtchhfhldpkaadaaQsc
namespace Go.Proofs.Ytchhfhldpkaadaa
open Go.RowKit Go.Shelf
namespace QS
/-- A queue that was made behind w0; what was there at w0 is as it was. -/
def W (w0 : World) (b g m f : Nat) (xs : List ByteArray) (cl : Bool) (wr : World) : Prop :=
  QAt wr b g m f xs cl ∧ Frm (fun _ => False) w0 wr ∧ w0.heap.size ≤ b ∧ w0.heap.size ≤ g
/-- What a call leaves: its answer, the queue, and all but the queue as it was. -/
def P (v : Value) (w0 : World) (b g m f : Nat) (xs : List ByteArray) (cl : Bool) (wr : World) (e : Ending) (w2 : World) : Prop :=
  e = .returned v ∧ W w0 b g m f xs cl w2 ∧ Frm (fun k => k = b ∨ k = g) wr w2
def P0 (v : Value) (w0 : World) (b g m f : Nat) (xs : List ByteArray) (cl : Bool) (wr : World) (e : Ending) (w2 : World) : Prop :=
  e = .returned v ∧ W w0 b g m f xs cl w2 ∧ Frm (fun _ => False) wr w2
section
variable {w0 wr w2 : World} {b g m f f' : Nat} {xs xs' : List ByteArray} {cl cl' : Bool}
theorem W.same (h : W w0 b g m f xs cl wr) (hF : Frm (fun _ => False) wr w2) : W w0 b g m f xs cl w2 := ⟨h.1.keptF hF, h.2.1.trans hF fun _ h => h.elim, h.2.2⟩
theorem W.step (h : W w0 b g m f xs cl wr) (hQ : QAt w2 b g m f' xs' cl') (hF : Frm (fun k => k = b ∨ k = g) wr w2) : W w0 b g m f' xs' cl' w2 :=
  ⟨hQ, h.2.1.trans hF fun k hk => .inr (by rcases hk with rfl | rfl; exact h.2.2.1; exact h.2.2.2), h.2.2⟩
theorem W.kept {K : Nat → Prop} (h : W w0 b g m f xs cl wr) (hF : Frm K wr w2) (hb : ¬ K b) (hg : ¬ K g) (hK : ∀ k, K k → w0.heap.size ≤ k) : W w0 b g m f xs cl w2 :=
  ⟨h.1.kept (hF.block _ h.1.lt.1 hb) (hF.block _ h.1.lt.2 hg), h.2.1.trans hF fun k hk => .inr (hK k hk), h.2.2⟩
theorem W.drewN (h : W w0 b g m f xs cl wr) (n : Nat) : W w0 b g m f xs cl (wr.drewN n) := h.same ((Frm.refl _ wr).drewN n)
theorem W.alloc (h : W w0 b g m f xs cl wr) (o : Obj) : W w0 b g m f xs cl (wr.alloc o) := h.same ((Frm.refl _ wr).alloc o)
theorem frm_up {K : Nat → Prop} (hF : Frm (fun _ => False) wr w2) : Frm K wr w2 := hF.mono fun _ h => h.elim
theorem W.new (m : Nat) (w : World) (h1 : 1 ≤ m) (h2 : m ≤ 16) : Calls Try.prog 24 #[.int .i64 m] w fun e w' => ∃ b g, e = .returned (.tuple #[.pointer (some ⟨b, 0, none⟩), .int .i64 0]) ∧ W w b g m 0 [] false w' ∧ b < w'.heap.size ∧ g < w'.heap.size :=
  (new_ok m w h1 h2).mono fun e w' ⟨b, g, he, hQ, hF, hb, hg⟩ => ⟨b, g, he, ⟨hQ, hF, hb, hg⟩, hQ.lt.1, hQ.lt.2⟩
theorem W.put (h : W w0 b g m f xs false wr) {K : Nat → Prop} {v : Value} {l : List ByteArray} (hv : Sl wr K v (l.map ev)) (hK : ∀ k, K k → k ≠ b ∧ k ≠ g ∧ k < wr.heap.size) (hc : xs.length + l.length ≤ m) :
    Calls Try.prog 25 #[.pointer (some ⟨b, 0, none⟩), v] wr (P (.bool true) w0 b g m f (xs ++ l) false wr) :=
  (put_ok K b g m f xs l v wr h.1 hv hK hc).mono fun e w' ⟨he, hQ, hF⟩ => ⟨he, h.step hQ hF, hF⟩
/-- Put of things that are written out. -/
theorem W.putNew (h : W w0 b g m f xs false wr) {cs : Array Value} {t : TypeId} {l : List ByteArray} {n : Nat} (hl : cs.toList = l.map ev) (hn : n = l.length) (hc : xs.length + l.length ≤ m) :
    Calls Try.prog 25 #[.pointer (some ⟨b, 0, none⟩), .slice (some ⟨wr.heap.size, 0, none⟩) n n] (wr.alloc (.cells cs t)) (P (.bool true) w0 b g m f (xs ++ l) false wr) := by
  subst hn
  have hlt := h.1.lt
  have hm := h.1.room.2.1
  have hs : l.length = cs.size := by rw [← Array.length_toList, hl, List.length_map]
  refine (put_ok (fun k => k = wr.heap.size) b g m f xs l _ _ (h.alloc _).1 ⟨_, _, _, rfl, by simp, Nat.le_refl _, by omega, .inr ⟨_, 0, rfl, rfl, fun i hi => ?_⟩⟩ (fun k hk => by subst hk; refine ⟨by omega, by omega, by simp⟩) hc).mono fun e w' ⟨he, hQ, hF⟩ => ⟨he, h.step hQ ?_, ?_⟩
  · rw [cell_of_row _ _ _ cs t (0, 0) (heap_alloc_new wr _), Nat.zero_add, ← Array.getElem?_toList, hl]
    exact List.getElem?_eq_getElem hi
  · exact ((Frm.refl _ wr).alloc _).trans' hF
  · exact ((Frm.refl _ wr).alloc _).trans' hF
theorem W.putNo (h : W w0 b g m f xs cl wr) {A : Option Addr} {n c : Nat} (hc : cl = true ∨ m < xs.length + n) :
    Calls Try.prog 25 #[.pointer (some ⟨b, 0, none⟩), .slice A n c] wr (P (.bool false) w0 b g m f xs cl wr) :=
  (put_no b g m f xs cl A n c wr h.1 hc).mono fun e w' ⟨he, k, hw⟩ => by subst hw; exact ⟨he, h.drewN k, (Frm.refl _ wr).drewN k⟩
theorem W.putNewNo (h : W w0 b g m f xs cl wr) {o : Obj} {A : Option Addr} {n c : Nat} (hc : cl = true ∨ m < xs.length + n) :
    Calls Try.prog 25 #[.pointer (some ⟨b, 0, none⟩), .slice A n c] (wr.alloc o) (P (.bool false) w0 b g m f xs cl wr) :=
  ((h.alloc o).putNo hc).mono fun e w' ⟨he, hw, hF⟩ => ⟨he, hw, ((Frm.refl _ wr).alloc o).trans' hF⟩
theorem W.get {x : ByteArray} (h : W w0 b g m f (x :: xs) cl wr) : Calls Try.prog 26 #[.pointer (some ⟨b, 0, none⟩)] wr (P (.tuple #[.string x, .bool true]) w0 b g m ((f + 1) % m) xs cl wr) :=
  (get_ok b g m f x xs cl wr h.1).mono fun e w' ⟨he, hQ, hF⟩ => ⟨he, h.step hQ hF, hF⟩
theorem W.getNo (h : W w0 b g m f [] cl wr) : Calls Try.prog 26 #[.pointer (some ⟨b, 0, none⟩)] wr (P (.tuple #[.string ByteArray.empty, .bool false]) w0 b g m f [] cl wr) :=
  (get_no b g m f cl wr h.1).mono fun e w' ⟨he, k, hw⟩ => by subst hw; exact ⟨he, h.drewN k, (Frm.refl _ wr).drewN k⟩
theorem W.close (h : W w0 b g m f xs cl wr) {v : Bool} (hv : (!cl) = v) : Calls Try.prog 27 #[.pointer (some ⟨b, 0, none⟩)] wr (P (.bool v) w0 b g m f xs true wr) := by
  subst hv
  exact (close_any b g m f xs cl wr h.1).mono fun e w' ⟨he, hQ, hF⟩ => ⟨he, h.step hQ hF, hF⟩
theorem W.closed (h : W w0 b g m f xs cl wr) : Calls Try.prog 32 #[.pointer (some ⟨b, 0, none⟩)] wr (P0 (.bool cl) w0 b g m f xs cl wr) :=
  (closed_any b g m f xs cl wr h.1).mono fun e w' ⟨he, k, hw⟩ => by subst hw; exact ⟨he, h.drewN k, (Frm.refl _ wr).drewN k⟩
theorem W.len (h : W w0 b g m f xs cl wr) {n : Nat} (hn : xs.length = n) : Calls Try.prog 30 #[.pointer (some ⟨b, 0, none⟩)] wr fun e w' => e = .returned (.int .i64 n) ∧ wr = w' := by
  subst hn
  exact len_any b g m f xs cl wr h.1
theorem W.free (h : W w0 b g m f xs cl wr) {n : Int} (hn : (m : Int) - (xs.length : Int) = n) : Calls Try.prog 31 #[.pointer (some ⟨b, 0, none⟩)] wr (P0 (.int .i64 n) w0 b g m f xs cl wr) := by
  subst hn
  exact (free_any b g m f xs cl wr h.1).mono fun e w' ⟨he, k, hw⟩ => by subst hw; exact ⟨he, h.drewN k, (Frm.refl _ wr).drewN k⟩
theorem W.clear (h : W w0 b g m f xs cl wr) {n : Nat} (hn : xs.length = n) : Calls Try.prog 28 #[.pointer (some ⟨b, 0, none⟩)] wr (P (.int .i64 n) w0 b g m 0 [] cl wr) := by
  subst hn
  exact (clear_any b g m f xs cl wr h.1).mono fun e w' ⟨he, hQ, hF⟩ => ⟨he, h.step hQ hF, hF⟩
theorem W.all (h : W w0 b g m f xs cl wr) : Calls Try.prog 29 #[.pointer (some ⟨b, 0, none⟩)] wr fun e w' =>
    ∃ v, e = .returned v ∧ OSl w' (fun k => wr.heap.size ≤ k) 9 v (xs.map ev) ∧ W w0 b g m f xs cl w' ∧ Frm (fun _ => False) wr w' :=
  (all_any b g m f xs cl wr h.1).mono fun e w' ⟨v, he, hv, hF⟩ => ⟨v, he, hv, h.same hF, hF⟩
end
end QS
end Go.Proofs.Ytchhfhldpkaadaa
