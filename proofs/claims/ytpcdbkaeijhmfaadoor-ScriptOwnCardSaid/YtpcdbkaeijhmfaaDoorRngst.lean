/- A loop over an iterator that turns what it holds, whose body may return: the contract, and the law. -/
import Derived.Test.YtpcdbkaeijhmfaaDoorRange
namespace Go.Proofs.YtpcdbkaeijhmfaaDoor
set_option maxRecDepth 100000
set_option linter.unusedVariables false
set_option linter.unusedSimpArgs false
open Go.RowKit
/-- R: what the iterator turns; Kp: what a body that goes on leaves as it was. -/
def SeqWS {α : Type} (F : Fence) (n : Nat) (P : Program) (g : Nat) (lb : Array Value) (encs : α → Array Value) (R Kp : World → World → Prop) (S Sp : List α → Prop) (w : World) : Prop :=
  ∀ (l : Nat) (J Jx : List α → World → Prop) (W : World), Frm (fun _ => False) w W → (∀ s X Y, J s X → R X Y → J s Y) → (∀ s X Y, Jx s X → R X Y → Jx s Y) →
    (∀ pre x W1, J pre W1 → Sp (pre ++ [x]) → YieldAt F (n - 1) P l (encs x) W1 fun e W' => (e = .returned (.bool true) ∧ J (pre ++ [x]) W' ∧ Kp W1 W') ∨ (e = .returned (.bool false) ∧ Jx (pre ++ [x]) W')) →
    J [] W → CallsIn F n P g (#[.func (.yield l) #[] #[]] ++ lb) W fun e W' => (∃ v, e = .returned v) ∧ ((∃ xs, S xs ∧ J xs W') ∨ (∃ pre, Sp pre ∧ Jx pre W'))
/-- How a body leaves a round: it goes on, or it returns. -/
def wsPost {α : Type} (B : Nat) (Kp : World → World → Prop) (I Ix : List α → World → Prop) (xs : List α) (W : World) : Exit → Act → World → Prop
  | .normal, _, W' => KeepsFrom B W W' ∧ Kp W W' ∧ I xs W'
  | .ret, _, W' => KeepsFrom B W W' ∧ Ix xs W'
  | _, _, _ => False
section
variable {α : Type} {F : Fence} {n : Nat} {P : Program} {w w0 : World}
def recOf2 (w : World) (fn : FuncId) (tmps : Array Value) (ps : Array Tmp) (assign body : Code) (st : LoopState) (pe : Option Code) : Obj :=
  .loop { state := st, pending := pe, fn, tmps, params := ps, assign, body, defers := w.heap.size }
theorem wpIn_range_ws {g : Operand} {ps : Array Tmp} {assign body : Code} {Q : Exit → Act → World → Prop} {a : Act}
    (hro : F.round = none) (h1 : 1 ≤ n) {gf : Nat} {lb : Array Value} (hg : a.eval g = .func (.func gf) #[] lb) (hFg : F.fn gf) (eg : ∀ args w, (callFunc gf args).run P w = .ok (.enter gf args) w)
    {encs : α → Array Value} {R Kp : World → World → Prop} {S Sp : List α → Prop} (hseq : SeqWS F (n - 1) P gf lb encs R Kp S Sp w0) (hb0 : Frm (fun _ => False) w0 w) (hps : ∀ x, (encs x).size = ps.size)
    (hR : ∀ X Y, R X Y → KeepsFrom w.heap.size X Y) (hKt : ∀ {A B C : World}, Kp A B → Kp B C → Kp A C) (hKb : ∀ (W : World) (o : Obj), Kp W (W.putObj (w.heap.size + 1) o))
    (I Ix : List α → World → Prop) (hI : ∀ s X Y, I s X → R X Y → I s Y) (hIx : ∀ s X Y, Ix s X → R X Y → Ix s Y) (hIo : OwnFrom w.heap.size I) (hIxo : OwnFrom w.heap.size Ix) (h0 : I [] w) (a₁ : α → Act)
    (hassign : ∀ (l : Nat) (x : α) (W : World) (K : Act → World → Prop), K (a₁ x) W →
      assign.wpIn (F.inRound l) (n - 1 - 1) P (Exit.then K (fun _ _ _ => False)) { tmps := (ps.zip (encs x)).foldl (fun t (p, v) => t.setIfInBounds p v) a.tmps, defers := [] } W)
    (hbody : ∀ (l : Nat) (pre : List α) (x : α) (W : World), I pre W → Sp (pre ++ [x]) → body.wpIn (F.inRound l) (n - 1 - 1) P (wsPost w.heap.size Kp I Ix (pre ++ [x]) W) (a₁ x) W)
    (hdone : ∀ (D : Nat) (xs : List α) (W : World), w.heap.size ≤ D → S xs → I xs W → W.heap[D]? = some (.deferred (some [])) → Q .normal { a with defers := { target := .collected D, args := #[] } :: a.defers } W)
    (hstop : ∀ (D : Nat) (pre : List α) (W : World), w.heap.size ≤ D → Sp pre → Ix pre W → W.heap[D]? = some (.deferred (some [])) → Code.ret.wpIn F n P Q { a with defers := { target := .collected D, args := #[] } :: a.defers } W) :
    (Code.rangeFunc g ps assign body).wpIn F n P Q a w := by
  refine wpIn_rangeFunc fun fn hfn => ?_
  rw [hro]
  obtain ⟨rec, hrec⟩ : ∃ rec, rec = recOf2 w fn a.tmps ps assign body := ⟨_, rfl⟩
  have ho : ∀ st pe, (rec st pe).isCells = false := fun st pe => by rw [hrec]; rfl
  have hT : Two w (rec .ready none) ((w.alloc (.deferred (some []))).alloc (rec .ready none)) :=
    ⟨by have := World.alloc_heap_new (w.alloc (.deferred (some []))) (rec .ready none); rwa [World.size_alloc] at this, (Below.heap_alloc _ _ _ (by simp)).trans (World.alloc_heap_new w _)⟩
  have he : (Instr.enterLoop fn a.tmps ps assign body none).run P w = .ok (w.heap.size + 1, [{ target := .collected w.heap.size, args := #[] }]) ((w.alloc (.deferred (some []))).alloc (rec .ready none)) := by
    rw [hrec]; exact run_enterLoop_outer fn a.tmps ps assign body
  have hf1 : Frm (fun _ => False) w0 ((w.alloc (.deferred (some []))).alloc (rec .ready none)) := (hb0.alloc _).alloc _
  have hi1 : I [] ((w.alloc (.deferred (some []))).alloc (rec .ready none)) := hIo.alloc _ (hIo.alloc _ h0)
  generalize (w.alloc (.deferred (some []))).alloc (rec .ready none) = W1 at *
  refine ⟨w.heap.size + 1, _, W1, { target := .fn (.func gf) lb, args := #[.func (.yield (w.heap.size + 1)) #[] #[]] }, W1, gf, #[.func (.yield (w.heap.size + 1)) #[] #[]] ++ lb, W1, he, ?_, ?_, ?_, fun _ => h1, ?_⟩
  · simp only [resolve, hg]; simp [go_sem]
  · intro f' hf'; simp [Target.leads] at hf'; subst hf'; exact hFg
  · simp [invoke, go_sem, eg]
  · refine (hseq (w.heap.size + 1) (fun pre W => I pre W ∧ Two w (rec .ready none) W) (fun pre W => Ix pre W ∧ Two w (rec .done (some .ret)) W) W1 hf1
      (fun s X Y hs hr => ⟨hI s X Y hs.1 hr, (hR X Y hr).same _ _ (by omega) hs.2.1 (ho _ _), (hR X Y hr).same _ _ (Nat.le_refl _) hs.2.2 rfl⟩)
      (fun s X Y hs hr => ⟨hIx s X Y hs.1 hr, (hR X Y hr).same _ _ (by omega) hs.2.1 (ho _ _), (hR X Y hr).same _ _ (Nat.le_refl _) hs.2.2 rfl⟩) ?round ⟨hi1, hT⟩).mono ?behind
    case round =>
      rintro pre x W ⟨hi, hT⟩ hlen
      have hl := hT.1
      rw [hrec] at hl
      refine ⟨fn, _, assign, body, run_yield (P := P) (args := encs x) hl (hps x), roundIn_of_wpIn hfn (hassign _ x W _ ?_)⟩
      refine ⟨_, run_beginRound hl rfl, ?_⟩
      have hTb : Two w (rec .busy none) (W.putObj (w.heap.size + 1) (rec .busy none)) := hT.put
      show body.wpIn _ _ P _ _ (W.putObj (w.heap.size + 1) (recOf2 w fn a.tmps ps assign body .busy none))
      rw [← hrec]
      refine wpIn_mono (hbody _ pre x _ (hIo.putObj _ hi (by omega) hT.1 (ho _ _)) hlen) ?_
      rintro e a3 W3 hp
      cases e with
      | normal =>
        obtain ⟨hk, hkp, hi3⟩ := hp
        have h3 : Two w (rec .busy none) W3 := ⟨hk.same _ _ (by omega) hTb.1 (ho _ _), hk.same _ _ (Nat.le_refl _) hTb.2 rfl⟩
        have hl3 := h3.1
        rw [hrec] at hl3
        refine ⟨.bool true, _, run_endRound (P := P) none hl3, .inl ⟨rfl, ?_, hKt (hKt (hKb W _) hkp) (hKb W3 _)⟩⟩
        show _ ∧ Two w (rec .ready none) (W3.putObj (w.heap.size + 1) (recOf2 w fn a.tmps ps assign body .ready none))
        rw [← hrec]
        exact ⟨hIo.putObj _ hi3 (by omega) h3.1 (ho _ _), h3.put⟩
      | ret =>
        obtain ⟨hk, hi3⟩ := hp
        have h3 : Two w (rec .busy none) W3 := ⟨hk.same _ _ (by omega) hTb.1 (ho _ _), hk.same _ _ (Nat.le_refl _) hTb.2 rfl⟩
        have hl3 := h3.1
        rw [hrec] at hl3
        refine ⟨.bool false, _, run_endRound (P := P) (some .ret) hl3, .inr ⟨rfl, ?_⟩⟩
        show _ ∧ Two w (rec .done (some .ret)) (W3.putObj (w.heap.size + 1) (recOf2 w fn a.tmps ps assign body .done (some .ret)))
        rw [← hrec]
        exact ⟨hIxo.putObj _ hi3 (by omega) h3.1 (ho _ _), h3.put⟩
      | exit id => exact hp.elim
      | goto t => exact hp.elim
      | panic ch => exact hp.elim
      | outgrown => exact hp.elim
    case behind =>
      rintro e W2 ⟨⟨v, rfl⟩, (⟨xs, hS, hi, hT2⟩ | ⟨pre, hSp, hi, hT2⟩)⟩
      · have hl := hT2.1
        rw [hrec] at hl
        exact ⟨none, _, run_endLoop (P := P) hl (by simp), hdone _ xs _ (Nat.le_refl _) hS (hIo.putObj _ hi (by omega) hT2.1 (ho _ _)) ((World.putObj_heap_other (by omega)).trans hT2.2)⟩
      · have hl := hT2.1
        rw [hrec] at hl
        exact ⟨some .ret, _, run_endLoop (P := P) hl (by simp), hstop _ pre _ (Nat.le_refl _) hSp (hIxo.putObj _ hi (by omega) hT2.1 (ho _ _)) ((World.putObj_heap_other (by omega)).trans hT2.2)⟩
end
end Go.Proofs.YtpcdbkaeijhmfaaDoor
