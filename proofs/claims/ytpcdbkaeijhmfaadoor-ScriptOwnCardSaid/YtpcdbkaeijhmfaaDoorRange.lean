/- A loop over an iterator that turns what it holds, and hands over memory that it made: the contract, and the law for a body that goes on. -/
import Derived.Test.YtpcdbkaeijhmfaaDoorLib
import Derived.RangeFuncNested
import Derived.RangeFuncWrites
import Derived.RangeFuncCalls
namespace Go.Proofs.YtpcdbkaeijhmfaaDoor
set_option maxRecDepth 100000
set_option linter.unusedVariables false
set_option linter.unusedSimpArgs false
open Go.RowKit
theorem Frm.putObj {K : Nat → Prop} {w w1 : World} (h : Frm K w w1) {l : Nat} (hl : K l ∨ w.heap.size ≤ l) (o : Obj) : Frm K w (w1.putObj l o) :=
  h.grown (grownBy_putObj' w1 l o) fun k e => by cases e; exact hl
/-- R: what the iterator turns between its yields; Kp: what the body leaves as it was; G: what is told of an element where it is handed over. -/
def SeqW {α : Type} (F : Fence) (n : Nat) (P : Program) (g : Nat) (lb : Array Value) (encs : α → Array Value) (R Kp : World → World → Prop) (G : α → World → Prop) (S : List α → Prop) (N : Nat) (w : World) : Prop :=
  ∀ (l : Nat) (J : List α → World → Prop) (W : World), Frm (fun _ => False) w W → (∀ s X Y, J s X → R X Y → J s Y) →
    (∀ pre x W1, J pre W1 → G x W1 → pre.length < N → YieldAt F (n - 1) P l (encs x) W1 fun e W' => e = .returned (.bool true) ∧ J (pre ++ [x]) W' ∧ Kp W1 W') →
    J [] W → CallsIn F n P g (#[.func (.yield l) #[] #[]] ++ lb) W fun e W' => (∃ v, e = .returned v) ∧ ∃ xs, S xs ∧ J xs W'
/-- How a body that goes on leaves a round. -/
def onPost {α : Type} (B : Nat) (Kp : World → World → Prop) (I : List α → World → Prop) (xs : List α) (W : World) : Exit → Act → World → Prop
  | .normal, _, W' => KeepsFrom B W W' ∧ Kp W W' ∧ I xs W'
  | _, _, _ => False
section
variable {α : Type} {F : Fence} {n : Nat} {P : Program} {w w0 : World}
/-- The loop's record, in each of its states. -/
def recOf (w : World) (fn : FuncId) (tmps : Array Value) (ps : Array Tmp) (assign body : Code) (st : LoopState) : Obj :=
  .loop { state := st, pending := none, fn, tmps, params := ps, assign, body, defers := w.heap.size }
/-- The two blocks of the loop, as they lie between rounds. -/
def Two (w : World) (o : Obj) (W : World) : Prop := W.heap[w.heap.size + 1]? = some o ∧ W.heap[w.heap.size]? = some (.deferred (some []))
theorem Two.put {o o' : Obj} {W : World} (h : Two w o W) : Two w o' (W.putObj (w.heap.size + 1) o') :=
  ⟨World.putObj_heap_same (Array.getElem?_eq_some_iff.1 h.1).1, (World.putObj_heap_other (by omega)).trans h.2⟩
theorem wpIn_range_w {g : Operand} {ps : Array Tmp} {assign body : Code} {Q : Exit → Act → World → Prop} {a : Act}
    (hro : F.round = none) (h1 : 1 ≤ n) {gf : Nat} {lb : Array Value} (hg : a.eval g = .func (.func gf) #[] lb) (hFg : F.fn gf) (eg : ∀ args w, (callFunc gf args).run P w = .ok (.enter gf args) w)
    {encs : α → Array Value} {R Kp : World → World → Prop} {G : α → World → Prop} {S : List α → Prop} {N : Nat} (hseq : SeqW F (n - 1) P gf lb encs R Kp G S N w0) (hb0 : Frm (fun _ => False) w0 w) (hps : ∀ x, (encs x).size = ps.size)
    (hR : ∀ X Y, R X Y → KeepsFrom w.heap.size X Y) (hKt : ∀ {A B C : World}, Kp A B → Kp B C → Kp A C) (hKb : ∀ (W : World) (o : Obj), Kp W (W.putObj (w.heap.size + 1) o))
    (I : List α → World → Prop) (hI : ∀ s X Y, I s X → R X Y → I s Y) (hIo : OwnFrom w.heap.size I) (hGo : ∀ x, OwnFrom w.heap.size (fun (_ : Unit) => G x)) (h0 : I [] w) (Ax : α → Act → World → Prop) (hAx : ∀ x a', OwnFrom w.heap.size (fun (_ : Unit) => Ax x a'))
    (hassign : ∀ (l : Nat) (pre : List α) (x : α) (W : World) (K : Act → World → Prop), I pre W → G x W → (∀ a' W', KeepsFrom w.heap.size W W' → Kp W W' → I pre W' → G x W' → Ax x a' W' → K a' W') →
      assign.wpIn (F.inRound l) (n - 1 - 1) P (Exit.then K (fun _ _ _ => False)) { tmps := (ps.zip (encs x)).foldl (fun t (p, v) => t.setIfInBounds p v) a.tmps, defers := [] } W)
    (hbody : ∀ (l : Nat) (pre : List α) (x : α) (a' : Act) (W : World), I pre W → G x W → Ax x a' W → pre.length < N → body.wpIn (F.inRound l) (n - 1 - 1) P (onPost w.heap.size Kp I (pre ++ [x]) W) a' W)
    (hdone : ∀ (D : Nat) (xs : List α) (W : World), w.heap.size ≤ D → S xs → I xs W → W.heap[D]? = some (.deferred (some [])) → Q .normal { a with defers := { target := .collected D, args := #[] } :: a.defers } W) :
    (Code.rangeFunc g ps assign body).wpIn F n P Q a w := by
  refine wpIn_rangeFunc fun fn hfn => ?_
  rw [hro]
  obtain ⟨rec, hrec⟩ : ∃ rec, rec = recOf w fn a.tmps ps assign body := ⟨_, rfl⟩
  have ho : ∀ st, (rec st).isCells = false := fun st => by rw [hrec]; rfl
  have hT : Two w (rec .ready) ((w.alloc (.deferred (some []))).alloc (rec .ready)) :=
    ⟨by have := World.alloc_heap_new (w.alloc (.deferred (some []))) (rec .ready); rwa [World.size_alloc] at this, (Below.heap_alloc _ _ _ (by simp)).trans (World.alloc_heap_new w _)⟩
  have he : (Instr.enterLoop fn a.tmps ps assign body none).run P w = .ok (w.heap.size + 1, [{ target := .collected w.heap.size, args := #[] }]) ((w.alloc (.deferred (some []))).alloc (rec .ready)) := by
    rw [hrec]; exact run_enterLoop_outer fn a.tmps ps assign body
  have hf1 : Frm (fun _ => False) w0 ((w.alloc (.deferred (some []))).alloc (rec .ready)) := (hb0.alloc _).alloc _
  have hi1 : I [] ((w.alloc (.deferred (some []))).alloc (rec .ready)) := hIo.alloc _ (hIo.alloc _ h0)
  generalize (w.alloc (.deferred (some []))).alloc (rec .ready) = W1 at *
  refine ⟨w.heap.size + 1, _, W1, { target := .fn (.func gf) lb, args := #[.func (.yield (w.heap.size + 1)) #[] #[]] }, W1, gf, #[.func (.yield (w.heap.size + 1)) #[] #[]] ++ lb, W1, he, ?_, ?_, ?_, fun _ => h1, ?_⟩
  · simp only [resolve, hg]; simp [go_sem]
  · intro f' hf'; simp [Target.leads] at hf'; subst hf'; exact hFg
  · simp [invoke, go_sem, eg]
  · refine (hseq (w.heap.size + 1) (fun pre W => I pre W ∧ Two w (rec .ready) W) W1 hf1
      (fun s X Y hs hr => ⟨hI s X Y hs.1 hr, (hR X Y hr).same _ _ (by omega) hs.2.1 (ho _), (hR X Y hr).same _ _ (Nat.le_refl _) hs.2.2 rfl⟩) ?round ⟨hi1, hT⟩).mono ?behind
    case round =>
      rintro pre x W ⟨hi, hT⟩ hG hlen
      have hl := hT.1
      rw [hrec] at hl
      refine ⟨fn, _, assign, body, run_yield (P := P) (args := encs x) hl (hps x), roundIn_of_wpIn hfn (hassign _ pre x W _ hi hG fun a' W' hk1 hkp1 hi1 hG1 hA1 => ?_)⟩
      have hT1 : Two w (rec .ready) W' := ⟨hk1.same _ _ (by omega) hT.1 (ho _), hk1.same _ _ (Nat.le_refl _) hT.2 rfl⟩
      have hl1 := hT1.1
      rw [hrec] at hl1
      refine ⟨_, run_beginRound hl1 rfl, ?_⟩
      have hTb : Two w (rec .busy) (W'.putObj (w.heap.size + 1) (rec .busy)) := hT1.put
      show body.wpIn _ _ P _ _ (W'.putObj (w.heap.size + 1) (recOf w fn a.tmps ps assign body .busy))
      rw [← hrec]
      refine wpIn_mono (hbody _ pre x _ _ (hIo.putObj _ hi1 (by omega) hT1.1 (ho _)) ((hGo x).putObj (s := ()) _ hG1 (by omega) hT1.1 (ho _)) ((hAx x a').putObj (s := ()) _ hA1 (by omega) hT1.1 (ho _)) hlen) ?_
      rintro e a3 W3 hp
      cases e with
      | normal =>
        obtain ⟨hk, hkp, hi3⟩ := hp
        have h3 : Two w (rec .busy) W3 := ⟨hk.same _ _ (by omega) hTb.1 (ho _), hk.same _ _ (Nat.le_refl _) hTb.2 rfl⟩
        have hl3 := h3.1
        rw [hrec] at hl3
        refine ⟨.bool true, _, run_endRound (P := P) none hl3, rfl, ?_, hKt (hKt hkp1 (hKt (hKb W' _) hkp)) (hKb W3 _)⟩
        show _ ∧ Two w (rec .ready) (W3.putObj (w.heap.size + 1) (recOf w fn a.tmps ps assign body .ready))
        rw [← hrec]
        exact ⟨hIo.putObj _ hi3 (by omega) h3.1 (ho _), h3.put⟩
      | ret => exact hp.elim
      | exit id => exact hp.elim
      | goto t => exact hp.elim
      | panic ch => exact hp.elim
      | outgrown => exact hp.elim
    case behind =>
      rintro e W2 ⟨⟨v, rfl⟩, xs, hS, hi, hT2⟩
      have hl := hT2.1
      rw [hrec] at hl
      exact ⟨none, _, run_endLoop (P := P) hl (by simp), hdone _ xs _ (Nat.le_refl _) hS (hIo.putObj _ hi (by omega) hT2.1 (ho _)) ((World.putObj_heap_other (by omega)).trans hT2.2)⟩
end
end Go.Proofs.YtpcdbkaeijhmfaaDoor
