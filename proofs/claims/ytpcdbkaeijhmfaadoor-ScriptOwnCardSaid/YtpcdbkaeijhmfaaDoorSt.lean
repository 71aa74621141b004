/- A story in memory. -/
import Derived.Test.YtpcdbkaeijhmfaaDoorPc
import Derived.Deep.Onto
namespace Go.Proofs.YtpcdbkaeijhmfaaDoor
set_option maxRecDepth 100000
set_option linter.unusedVariables false
set_option linter.unusedSimpArgs false
open Go.RowKit
/-- A slice of the call's own, whose elements are texts of its own. -/
def TxR (w : World) (B : Nat) (v : Value) (L : List By) : Prop :=
  ∃ vs, w.ownsRow B 43 1 v L.length vs ∧ vs.length = L.length ∧ ∀ (i : Nat) u x, vs[i]? = some u → L[i]? = some x → w.ownsRow B 5 1 u x.length (bv x)
theorem own_apart {w : World} {b1 b2 n1 n2 z1 z2 q : Nat} {e1 e2 : TypeId} {v1 v2 : Value} {x1 x2 : List Value} (h1 : w.ownsRow b1 e1 z1 v1 n1 x1) (h2 : w.ownsRow b2 e2 z2 v2 n2 x2) (hne : e1 ≠ e2) (hq : v2.ownBlock = some q) : v1.ownBlock ≠ some q := by
  obtain ⟨cs, hb⟩ := own_blk h2 q hq
  exact own_blk_ne h1 hb hne
theorem TxR.nil (w : World) (B : Nat) : TxR w B (.slice none 0 0) [] := ⟨[], World.ownsRow_nil _ _ _ _, rfl, fun i u x h => by simp at h⟩
theorem TxR.form {w : World} {B : Nat} {v : Value} {L : List By} (h : TxR w B v L) : ∃ A c, v = .slice A L.length c := by
  obtain ⟨vs, h1, -⟩ := h
  obtain ⟨A, c, e, -, -⟩ := own_form h1
  exact ⟨A, c, e⟩
theorem TxR.lt {w : World} {B : Nat} {v : Value} {L : List By} (h : TxR w B v L) : ∀ q, v.ownBlock = some q → B ≤ q ∧ q < w.heap.size := by
  obtain ⟨vs, h1, -⟩ := h
  exact h1.lt
theorem TxR.kept {w w' : World} {B : Nat} {v : Value} {L : List By} {K : Nat → Prop} (h : TxR w B v L) (hF : Frm K w w') (hv : ∀ q, v.ownBlock = some q → ¬ K q) (hb : ∀ q cs, Blk w q 5 cs → ¬ K q) : TxR w' B v L := by
  obtain ⟨vs, h1, h2, h3⟩ := h
  exact ⟨vs, hF.own h1 hv, h2, fun i u x hu hx => hF.own (h3 i u x hu hx) fun q hq => by
    obtain ⟨cs, hc⟩ := own_blk (h3 i u x hu hx) q hq
    exact hb q cs hc⟩
theorem TxR.keptF {w w' : World} {B : Nat} {v : Value} {L : List By} (h : TxR w B v L) (hF : Frm (fun _ => False) w w') : TxR w' B v L := h.kept hF (fun _ _ => id) fun _ _ _ => id
theorem TxR.mono {w : World} {B B' : Nat} {v : Value} {L : List By} (h : TxR w B v L) (hB : B' ≤ B) : TxR w B' v L := by
  obtain ⟨vs, h1, h2, h3⟩ := h
  exact ⟨vs, World.ownsRow.mono h1 hB, h2, fun i u x hu hx => World.ownsRow.mono (h3 i u x hu hx) hB⟩
/-- One text more. -/
theorem TxR.push {w w' : World} {B c' : Nat} {v u : Value} {L : List By} {x : By} {A' : Option Addr} {vs : List Value} (h : TxR w B v L) (hvs : w.ownsRow B 43 1 v L.length vs) (hel : ∀ (i : Nat) u x, vs[i]? = some u → L[i]? = some x → w.ownsRow B 5 1 u x.length (bv x)) (hl : vs.length = L.length) (hu : w.ownsRow B 5 1 u x.length (bv x)) (hF : Frm (fun q => v.ownBlock = some q) w w') (ho : w'.ownsRow B 43 1 (.slice A' (L.length + 1) c') (L.length + 1) (vs ++ [u])) : TxR w' B (.slice A' (L.length + 1) c') (L ++ [x]) := by
  refine ⟨vs ++ [u], by simpa using ho, by simp [hl], fun i y z hy hz => ?_⟩
  have hk : ∀ y z, w.ownsRow B 5 1 y z (bv []) → True := fun _ _ _ => trivial
  rcases Nat.lt_or_ge i vs.length with hi | hi
  · rw [List.getElem?_append_left hi] at hy
    rw [List.getElem?_append_left (by omega)] at hz
    have h1 := hel i y z hy hz
    exact hF.own h1 fun q hq hk => own_apart h1 hvs (by decide) hk hq
  · rw [List.getElem?_append_right hi] at hy
    rw [List.getElem?_append_right (by omega)] at hz
    have e : i - vs.length = 0 := by
      rcases Nat.eq_zero_or_pos (i - vs.length) with h | h
      · exact h
      · rw [List.getElem?_eq_none (by simp; omega)] at hy; cases hy
    have e2 : i - L.length = 0 := by omega
    rw [e] at hy
    rw [e2] at hz
    simp at hy hz
    subst hy hz
    exact hF.own hu fun q hq hk => own_apart hu hvs (by decide) hk hq
/-- The cells of a story. -/
def stCells (st : St) (wv rv av pv : Value) : Array Value :=
  #[.bool st.fold, wv, .int .i64 (st.conf.getD 0 0), .int .i64 (st.conf.getD 1 0), .int .i64 (st.conf.getD 2 0), .int .i64 (st.conf.getD 3 0), .int .i64 (st.conf.getD 4 0), .int .i64 (st.conf.getD 5 0), .int .i64 (st.conf.getD 6 0), .bool st.broken, rv, av, pv,
    .int .u8 st.kind, .int .u32 st.seed, .int .i64 st.last, .int .i64 st.cancel, .int .i64 st.most]
def bvs (l : List Bool) : List Value := l.map .bool
/-- The lists of a story, in memory from B on. -/
structure Lsts (w : World) (B : Nat) (st : St) (wv rv av pv : Value) : Prop where
  words : TxR w B wv st.words
  reads : TxR w B rv st.reads
  answers : w.ownsRow B 4 1 av st.answers.length (bvs st.answers)
  picks : w.ownsRow B 3 1 pv st.picks.length (ivs st.picks)
  apart : ∀ q, wv.ownBlock = some q → rv.ownBlock ≠ some q
/-- A story that is read, in block b, its lists in memory of their own. -/
def StO (w : World) (b : Nat) (st : St) : Prop := ∃ wv rv av pv, Blk w b 60 (stCells st wv rv av pv) ∧ Lsts w (b + 1) st wv rv av pv
theorem Lsts.keptF {w w' : World} {B : Nat} {st : St} {wv rv av pv : Value} (h : Lsts w B st wv rv av pv) (hF : Frm (fun _ => False) w w') : Lsts w' B st wv rv av pv :=
  ⟨h.words.keptF hF, h.reads.keptF hF, hF.own h.answers fun _ _ => id, hF.own h.picks fun _ _ => id, h.apart⟩
theorem StO.keptF {w w' : World} {b : Nat} {st : St} (h : StO w b st) (hF : Frm (fun _ => False) w w') : StO w' b st := by
  obtain ⟨wv, rv, av, pv, h1, h2⟩ := h
  exact ⟨wv, rv, av, pv, h1.kept hF id, h2.keptF hF⟩
theorem TxR.set_ {w : World} {b i : Nat} {t : TypeId} {cs : Array Value} {v u : Value} {L : List By} {B : Nat} (h : TxR w B v L) (hb : Blk w b t cs) (h1 : t ≠ 43) (h2 : t ≠ 5) : TxR (w.setCell ⟨b, i, none⟩ u) B v L := by
  refine h.kept ((Frm.refl (fun q => q = b) w).setCell ⟨b, i, none⟩ (.inl rfl) _) (fun q hq e => ?_) fun q cs hc e => ?_
  · subst e
    obtain ⟨vs, h3, -⟩ := h
    exact own_blk_ne h3 hb (Ne.symm h1) hq
  · subst e
    unfold Blk at hc hb
    rw [hb] at hc
    injection hc with hc
    injection hc with _ hc
    exact h2 hc
/-- A cell of the story's block is turned. -/
theorem Lsts.set_ {w : World} {b i B : Nat} {st : St} {cs : Array Value} {wv rv av pv u : Value} (h : Lsts w B st wv rv av pv) (hb : Blk w b 60 cs) : Lsts (w.setCell ⟨b, i, none⟩ u) B st wv rv av pv := by
  have hF : Frm (fun q => q = b) w (w.setCell ⟨b, i, none⟩ u) := (Frm.refl (fun q => q = b) w).setCell ⟨b, i, none⟩ (.inl rfl) _
  have h1 := h.words.set_ (i := i) (u := u) hb (by decide) (by decide)
  have h2 := h.reads.set_ (i := i) (u := u) hb (by decide) (by decide)
  have h3 := hF.own h.answers (fun q hq e => own_blk_ne h.answers hb (by decide) (by rw [hq, e]))
  have h4 := hF.own h.picks (fun q hq e => own_blk_ne h.picks hb (by decide) (by rw [hq, e]))
  exact ⟨h1, h2, h3, h4, h.apart⟩
/-- Lists alone. -/
theorem Lsts.same {w : World} {B : Nat} {st st' : St} {wv rv av pv : Value} (h : Lsts w B st wv rv av pv) (h1 : st'.words = st.words) (h2 : st'.reads = st.reads) (h3 : st'.answers = st.answers) (h4 : st'.picks = st.picks) : Lsts w B st' wv rv av pv :=
  ⟨by rw [h1]; exact h.words, by rw [h2]; exact h.reads, by rw [h3]; exact h.answers, by rw [h4]; exact h.picks, h.apart⟩
theorem StO.lt {w : World} {b : Nat} {st : St} (h : StO w b st) : b < w.heap.size := by obtain ⟨wv, rv, av, pv, h1, -⟩ := h; exact h1.lt
end Go.Proofs.YtpcdbkaeijhmfaaDoor
