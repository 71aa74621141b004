/- script: stories that are read; the lines that are printed (plain). -/
import Derived.Test.YtpcdbkaeijhmfaaDoorJn
namespace Go.Proofs.YtpcdbkaeijhmfaaDoor
set_option maxRecDepth 100000
set_option linter.unusedVariables false
set_option linter.unusedSimpArgs false
open Go.RowKit
/-- A slice of texts, to be read. -/
def TxS (w : World) (K : Nat → Prop) (v : Value) (L : List By) : Prop :=
  ∃ vs, Sl w K v vs ∧ vs.length = L.length ∧ (∀ u ∈ vs, u.oneCell' = true) ∧ ∀ (i : Nat) u x, vs[i]? = some u → L[i]? = some x → Sl w K u (bv x)
theorem TxS.keptTo {w w' : World} {K K' : Nat → Prop} {v : Value} {L : List By} (h : TxS w K v L) (hf : ∀ k, K k → w'.heap[k]? = w.heap[k]? ∧ K' k) : TxS w' K' v L := by
  obtain ⟨vs, h1, h2, h3, h4⟩ := h
  exact ⟨vs, h1.keptTo hf, h2, h3, fun i u x hu hx => (h4 i u x hu hx).keptTo hf⟩
theorem TxS.form {w : World} {K : Nat → Prop} {v : Value} {L : List By} (h : TxS w K v L) : ∃ A c, v = .slice A L.length c ∧ L.length ≤ c ∧ c ≤ 9223372036854775807 := by
  obtain ⟨vs, ⟨A, n, c, rfl, h1, h2, h3, -⟩, h4, -⟩ := h
  exact ⟨A, c, by rw [h1, h4], by omega, h3⟩
theorem TxS.at_ {w : World} {K : Nat → Prop} {A : Option Addr} {n c : Nat} {L : List By} (h : TxS w K (.slice A n c) L) (k : Nat) (hk : k < L.length) : ∃ u g o, A = some ⟨g, o, none⟩ ∧ K g ∧ w.cell? ⟨g, o + k, none⟩ = some u ∧ Sl w K u (bv L[k]) := by
  obtain ⟨vs, ⟨A', n', c', e, h1, h2, h3, h4⟩, h5, h6, h7⟩ := h
  cases e
  obtain ⟨g, o, rfl, hK, hc⟩ := h4.resolve_left (by omega)
  have hv : k < vs.length := by omega
  exact ⟨vs[k], g, o, rfl, hK, hc k hv, h7 k _ _ (List.getElem?_eq_getElem hv) (List.getElem?_eq_getElem hk)⟩
theorem Sl.of_own {w : World} {base n : Nat} {e : TypeId} {v : Value} {xs : List Value} {K : Nat → Prop} (h : w.ownsRow base e 1 v n xs) (hK : ∀ q, base ≤ q → q < w.heap.size → K q) : Sl w K v xs := by
  have h1 := h.1
  rw [Nat.mul_one] at h1
  obtain ⟨A, c, rfl, hn, hc⟩ := own_form h
  refine ⟨A, n, c, rfl, h1.symm, hn, hc, ?_⟩
  rcases Nat.eq_zero_or_pos n with h0 | h0
  · exact .inl h0
  · obtain ⟨g, rfl, -⟩ := own_at h 0 (by omega)
    obtain ⟨hb, hs⟩ := h.lt g rfl
    refine .inr ⟨g, 0, rfl, hK g hb hs, fun i hi => ?_⟩
    obtain ⟨g', hg', hc⟩ := own_at h i hi
    cases hg'
    rw [Nat.zero_add]
    exact hc
theorem TxR.read {w : World} {B : Nat} {v : Value} {L : List By} {K : Nat → Prop} (h : TxR w B v L) (hK : ∀ q, B ≤ q → q < w.heap.size → K q) : TxS w K v L := by
  obtain ⟨vs, h1, h2, h3⟩ := h
  refine ⟨vs, Sl.of_own h1 hK, h2, fun u hu => ?_, fun i u x hu hx => Sl.of_own (h3 i u x hu hx) hK⟩
  obtain ⟨i, hi, rfl⟩ := List.getElem_of_mem hu
  obtain ⟨A, c, e, -⟩ := own_form (h3 i _ _ (List.getElem?_eq_getElem hi) (List.getElem?_eq_getElem (by omega)))
  rw [e]; rfl
/-- The lists of a story, to be read. -/
structure LsR (w : World) (K : Nat → Prop) (st : St) (wv rv av pv : Value) : Prop where
  words : TxS w K wv st.words
  reads : TxS w K rv st.reads
  answers : Sl w K av (bvs st.answers)
  picks : Sl w K pv (ivs st.picks)
theorem LsR.keptTo {w w' : World} {K K' : Nat → Prop} {st : St} {wv rv av pv : Value} (h : LsR w K st wv rv av pv) (hf : ∀ k, K k → w'.heap[k]? = w.heap[k]? ∧ K' k) : LsR w' K' st wv rv av pv :=
  ⟨h.words.keptTo hf, h.reads.keptTo hf, h.answers.keptTo hf, h.picks.keptTo hf⟩
theorem Lsts.read {w : World} {B : Nat} {st : St} {wv rv av pv : Value} {K : Nat → Prop} (h : Lsts w B st wv rv av pv) (hK : ∀ q, B ≤ q → q < w.heap.size → K q) : LsR w K st wv rv av pv :=
  ⟨h.words.read hK, h.reads.read hK, Sl.of_own h.answers hK, Sl.of_own h.picks hK⟩
/-- All that there is. -/
def InW (w : World) (q : Nat) : Prop := q < w.heap.size
theorem LsR.kept {w w' : World} {st : St} {wv rv av pv : Value} (h : LsR w (InW w) st wv rv av pv) (hF : Frm (fun _ => False) w w') : LsR w' (InW w') st wv rv av pv :=
  h.keptTo fun q hq => ⟨hF.block q hq id, Nat.lt_of_lt_of_le hq hF.size⟩
/-- A story within the bounds of what may be printed. -/
structure Okay (st : St) : Prop where
  conf : st.conf.length = 7
  words : st.words.length ≤ 100000 ∧ ∀ x ∈ st.words, x.length ≤ 100000
  reads : st.reads.length ≤ 100000 ∧ ∀ x ∈ st.reads, x.length ≤ 100000
  answers : st.answers.length ≤ 100000
  picks : st.picks.length ≤ 100000
  seed : st.seed ≤ 4294967295
  kind : st.kind ≤ 255
def near (n : Int) : Prop := -4611686018427387904 ≤ n ∧ n ≤ 4611686018427387904
/-- The lines of a story's script. -/
def wordL (b : By) : By := bs "word " ++ quoteB b
def readL (b : By) : By := bs "read " ++ quoteB b
def yesB (y : Bool) : By := if y then bs " yes" else bs " no"
def answL (l : List Bool) : By := bs "answers" ++ l.flatMap yesB
def planL (st : St) : By := joinB (bs "plan " ++ kindL.getD st.kind []) [st.seed, st.last]
def linesP (st : St) : List By :=
  (if st.fold then [bs "fold"] else []) ++ st.words.map wordL ++ [joinB (bs "conf") st.conf] ++ st.reads.map readL ++ (if st.broken then [bs "broken"] else []) ++ (if st.answers = [] then [] else [answL st.answers]) ++ (if st.picks = [] then [] else [joinB (bs "pick") st.picks]) ++
    [planL st, joinB (bs "cancel") [st.cancel], joinB (bs "most") [st.most]]
def textP (st : St) : By := (linesP st).flatMap (· ++ [10])
def farB (n : Int) : Bool := decide (n < -4611686018427387904 ∨ 4611686018427387904 < n)
def badP (st : St) : Bool := decide (5 ≤ st.kind) || st.conf.any farB || st.picks.any farB || [st.last, st.cancel, st.most].any farB
/-- What Print answers; none: an error. -/
def printB (st : St) : Option By := if badP st then none else if greatB (textP st) then none else some (textP st)
end Go.Proofs.YtpcdbkaeijhmfaaDoor
