/- script: Parse, what its loop keeps. -/
import Derived.Test.YtpcdbkaeijhmfaaDoorIr
namespace Go.Proofs.YtpcdbkaeijhmfaaDoor
set_option maxRecDepth 100000
set_option linter.unusedVariables false
set_option linter.unusedSimpArgs false
open Go.RowKit
/-- The cells of no story. -/
def zeroC : Array Value := stCells zeroSt (.slice none 0 0) (.slice none 0 0) (.slice none 0 0) (.slice none 0 0)
/-- Behind some lines. -/
structure PI (w : World) (n b d : Nat) (pre : List (Nat × By)) (W : World) : Prop where
  st : ∃ st, runN newSt pre = some st ∧ StO W b st ∧ totS st ≤ sumL pre
  ks : KS W d
  b0 : Blk W n 33 zeroC
  b1 : Blk W (n + 1) 3 #[.int .i64 0]
  b2 : Blk W (n + 2) 36 #[.int .i64 0]
  fr : Frm (fun _ => False) w W
/-- Behind one that is none. -/
structure PX (w : World) (n : Nat) (pre : List (Nat × By)) (W : World) : Prop where
  st : ∃ pre0 x st, pre = pre0 ++ [x] ∧ runN newSt pre0 = some st ∧ sayB st x.2 = none ∧ Blk W (n + 1) 3 #[.int .i64 x.1]
  b0 : Blk W n 33 zeroC
  b2 : Blk W (n + 2) 36 #[.int .i64 300]
  fr : Frm (fun _ => False) w W
theorem KS.keepF {X Y : World} {d : Nat} {K : Nat → Prop} (h : KS X d) (hF : Frm K X Y) (hk : ¬ K d) : KS Y d := by
  obtain ⟨cs, fr, e⟩ := h
  exact ⟨cs, fr, (hF.block d (lt_heap e) hk).trans e⟩
theorem PI.step {w X Y : World} {n b d : Nat} {pre : List (Nat × By)} (h : PI w n b d pre X) (hn : n = w.heap.size) (hd : n + 2 < d) (hF : Frm (fun q => q = d) X Y) (hk : KS Y d) : PI w n b d pre Y := by
  obtain ⟨st, h1, h2, h3⟩ := h.st
  exact ⟨⟨st, h1, h2.keptS hF h.ks, h3⟩, hk, h.b0.kept hF (by show ¬ n = d; omega), h.b1.kept hF (by show ¬ n + 1 = d; omega), h.b2.kept hF (by show ¬ n + 2 = d; omega), h.fr.trans hF fun q hq => .inr (by omega)⟩
theorem PX.step {w X Y : World} {n d : Nat} {pre : List (Nat × By)} (h : PX w n pre X) (hn : n = w.heap.size) (hd : n + 2 < d) (hF : Frm (fun q => q = d) X Y) : PX w n pre Y := by
  obtain ⟨p, x, st, h1, h2, h3, h4⟩ := h.st
  exact ⟨⟨p, x, st, h1, h2, h3, h4.kept hF (by show ¬ n + 1 = d; omega)⟩, h.b0.kept hF (by show ¬ n = d; omega), h.b2.kept hF (by show ¬ n + 2 = d; omega), h.fr.trans hF fun q hq => .inr (by omega)⟩
theorem PI.own {w : World} {n b d B : Nat} (hn : n = w.heap.size) (hB : n + 2 < B ∧ d < B) : OwnFrom B (PI w n b d) := by
  intro pre X Y row h hg hr
  have hF := Frm.of_grown hg
  obtain ⟨st, h1, h2, h3⟩ := h.st
  have hx : ∀ q, q < B → ¬ row = some q := fun q hq e => by have := (hr q e).1; omega
  exact ⟨⟨st, h1, h2.keptN hg fun r e => (hr r e).2, h3⟩, h.ks.keepF hF (hx d hB.2), h.b0.kept hF (hx _ (by omega)), h.b1.kept hF (hx _ (by omega)), h.b2.kept hF (hx _ (by omega)), h.fr.trans hF fun q hq => .inr (by have := (hr q hq).1; omega)⟩
theorem PX.own {w : World} {n B : Nat} (hn : n = w.heap.size) (hB : n + 2 < B) : OwnFrom B (PX w n) := by
  intro pre X Y row h hg hr
  have hF := Frm.of_grown hg
  obtain ⟨p, x, st, h1, h2, h3, h4⟩ := h.st
  have hx : ∀ q, q < B → ¬ row = some q := fun q hq e => by have := (hr q e).1; omega
  exact ⟨⟨p, x, st, h1, h2, h3, h4.kept hF (hx _ (by omega))⟩, h.b0.kept hF (hx _ (by omega)), h.b2.kept hF (hx _ (by omega)), h.fr.trans hF fun q hq => .inr (by have := (hr q hq).1; omega)⟩
theorem StT.keeps {B b : Nat} {st : St} {X Y : World} (h : StO X b st) (hT : StT b X Y) : KeepsFrom B X Y :=
  ⟨hT.1.size, fun k o _ hk ho => (hT.1.block k (lt_heap hk) fun hq => by
    obtain ⟨t, cs, h1, -⟩ := h.ty hq
    unfold Blk at h1
    rw [h1] at hk
    cases hk
    cases ho).trans hk⟩
theorem PI.line {w X Y : World} {n b d : Nat} {pre : List (Nat × By)} {x : Nat × By} {st st' : St} (h : PI w n b d pre X) (hn : n = w.heap.size) (hd : n + 2 < b ∧ b < d) (h1 : runN newSt pre = some st) (h2 : StO X b st) (h3 : totS st ≤ sumL pre) (hs : sayB st x.2 = some st') (hT : StT b X Y) (hO : StO Y b st') :
    PI w n b d (pre ++ [x]) Y ∧ Frm (fun q => q ≠ d ∧ q ≠ 0) X Y := by
  have hlo : ∀ q, StK X b q → b ≤ q := fun q hq => hq.ge h2
  have hnd : ¬ StK X b d := h2.noS h.ks
  refine ⟨⟨⟨st', by rw [runN_snoc, h1]; exact hs, hO, ?_⟩, h.ks.keepF hT.1 hnd, h.b0.kept hT.1 (fun hq => by have := hlo _ hq; omega), h.b1.kept hT.1 (fun hq => by have := hlo _ hq; omega), h.b2.kept hT.1 (fun hq => by have := hlo _ hq; omega), h.fr.trans hT.1 fun q hq => .inr (by have := hlo _ hq; omega)⟩,
    hT.1.mono fun q hq => .inl ⟨fun e => hnd (e ▸ hq), fun e => by have := hlo _ hq; omega⟩⟩
  have := sayB_tot st st' x.2 hs
  rw [sumL_app]
  simp only [sumL, List.map_cons, List.map_nil, List.sum_cons, List.sum_nil] at *
  omega
/-- What is left where a line is none. -/
theorem PI.stop {w X Y : World} {n b d : Nat} {pre : List (Nat × By)} {x : Nat × By} {st : St} (h : PI w n b d pre X) (hn : n = w.heap.size) (hd : n + 2 < b ∧ b < d) (h1 : runN newSt pre = some st) (h2 : StO X b st) (hs : sayB st x.2 = none) (hT : StT b X Y) :
    Blk Y n 33 zeroC ∧ Blk Y (n + 1) 3 #[.int .i64 0] ∧ Blk Y (n + 2) 36 #[.int .i64 0] ∧ Frm (fun _ => False) w Y := by
  have hlo : ∀ q, StK X b q → b ≤ q := fun q hq => hq.ge h2
  exact ⟨h.b0.kept hT.1 (fun hq => by have := hlo _ hq; omega), h.b1.kept hT.1 (fun hq => by have := hlo _ hq; omega), h.b2.kept hT.1 (fun hq => by have := hlo _ hq; omega), h.fr.trans hT.1 fun q hq => .inr (by have := hlo _ hq; omega)⟩
theorem Lsts.keptK {w w' : World} {B : Nat} {st : St} {wv rv av pv : Value} {K : Nat → Prop} (h : Lsts w B st wv rv av pv) (hF : Frm K w w') (hk : ∀ q, K q → q < B ∨ ∀ t cs, ¬ Blk w q t cs) (hu : ∀ q cs, Blk w q 5 cs → ¬ K q) : Lsts w' B st wv rv av pv := by
  have hn : ∀ {t : TypeId} {v : Value} {n s : Nat} {xs : List Value}, w.ownsRow B t s v n xs → ∀ q, v.ownBlock = some q → ¬ K q := fun ho q hq hK => by
    obtain ⟨cs, hb⟩ := own_blk ho q hq
    rcases hk q hK with h1 | h1
    · have := (ho.lt q hq).1; omega
    · exact h1 _ cs hb
  refine ⟨h.words.kept hF (fun q hq => by obtain ⟨vs, h1, -⟩ := h.words; exact hn h1 q hq) hu, h.reads.kept hF (fun q hq => by obtain ⟨vs, h1, -⟩ := h.reads; exact hn h1 q hq) hu, hF.own h.answers (hn h.answers), hF.own h.picks (hn h.picks), h.apart⟩
theorem Lsts.mono {w : World} {B B' : Nat} {st : St} {wv rv av pv : Value} (h : Lsts w B st wv rv av pv) (hB : B' ≤ B) : Lsts w B' st wv rv av pv :=
  ⟨h.words.mono hB, h.reads.mono hB, World.ownsRow.mono h.answers hB, World.ownsRow.mono h.picks hB, h.apart⟩
end Go.Proofs.YtpcdbkaeijhmfaaDoor
