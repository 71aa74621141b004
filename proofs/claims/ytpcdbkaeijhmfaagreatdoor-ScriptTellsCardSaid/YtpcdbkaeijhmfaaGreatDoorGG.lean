/- script: conf. script: join. script: stories that are read; the lines that are printed (plain). slices.Values of strings. A strings.Builder, written and read. Equal slices: bytes, booleans, integers, texts. A story as an argument. -/
import Derived.Lib.ItoaLen
import Derived.Test.YtpcdbkaeijhmfaaGreatDoorHQu
import Derived.Test.YtpcdbkaeijhmfaaGreatDoorGA
namespace Go.Proofs.YtpcdbkaeijhmfaaGreatDoor
set_option maxRecDepth 100000
set_option linter.unusedVariables false
set_option linter.unusedSimpArgs false
open Go.RowKit
set_option maxHeartbeats 3200000 in
theorem conf_any (a0 a1 a2 a3 a4 a5 a6 : Int) (w : World) :
    Calls Tryz.prog 25 #[.agg #[.int .i64 a0, .int .i64 a1, .int .i64 a2, .int .i64 a3, .int .i64 a4, .int .i64 a5, .int .i64 a6]] w fun e w' => ∃ v, e = .returned v ∧ w'.ownsRow w.heap.size 3 1 v 7 (ivs [a0, a1, a2, a3, a4, a5, a6]) ∧ Frm (fun _ => False) w w' := by
  go_enter Tryz.func25, Tryz.ntmps25
  go_wp2_with fail
  go_ret
  have hF : Frm (fun _ => False) w (w.alloc (.cells #[.int .i64 a0, .int .i64 a1, .int .i64 a2, .int .i64 a3, .int .i64 a4, .int .i64 a5, .int .i64 a6] 24)) := (Frm.refl _ w).alloc _
  have hs : (w.alloc (.cells #[.int .i64 a0, .int .i64 a1, .int .i64 a2, .int .i64 a3, .int .i64 a4, .int .i64 a5, .int .i64 a6] 24)).heap.size = w.heap.size + 1 := World.size_alloc _ _
  refine ⟨_, rfl, ?_, hF.alloc _⟩
  generalize w.alloc _ = w1 at *
  have h := World.ownsRow_lit (base := w.heap.size) (e := 3) (size := 1) w1 #[.int .i64 a0, .int .i64 a1, .int .i64 a2, .int .i64 a3, .int .i64 a4, .int .i64 a5, .int .i64 a6] 7 (by omega) (by unfold maxLen; omega) rfl
  rw [hs] at h
  exact h
end Go.Proofs.YtpcdbkaeijhmfaaGreatDoor
namespace Go.Proofs.YtpcdbkaeijhmfaaGreatDoor
set_option maxRecDepth 100000
set_option linter.unusedVariables false
set_option linter.unusedSimpArgs false
open Go.RowKit
/-- The variables that the walks read. -/
def Gl (w : World) : Prop := (∃ m, w.cell? ⟨0, 0, none⟩ = some (.int .i64 m)) ∧ Lib.TabIs Tryz.prog w "internal/strconv.uint64pow10" .u64 Lib.pow10Tab
theorem TabIs.frm {P : Program} {w w' : World} {name : String} {k : IntKind} {zs : List Int} {K : Nat → Prop} (h : Lib.TabIs P w name k zs) (hF : Frm K w w') (hk : ∀ q, K q → w.heap.size ≤ q) : Lib.TabIs P w' name k zs := by
  unfold Lib.TabIs World.var? at *
  cases hg : P.globalNamed name with
  | none => simp [hg] at h
  | some g =>
    simp only [hg, Option.bind_some] at h ⊢
    have hlt : g < w.heap.size := by
      rcases Nat.lt_or_ge g w.heap.size with h' | h'
      · exact h'
      · rw [Array.getElem?_eq_none h'] at h; simp at h
    rw [hF.block g hlt fun hq => by have := hk g hq; omega]
    exact h
theorem Gl.frm {w w' : World} (h : Gl w) (hF : Frm (fun _ => False) w w') : Gl w' := by
  obtain ⟨⟨m, h1⟩, h2⟩ := h
  exact ⟨⟨m, hF.cell h1 id⟩, TabIs.frm h2 hF fun _ h => h.elim⟩
theorem Gl.size {w : World} (h : Gl w) : 0 < w.heap.size := by
  obtain ⟨⟨m, h1⟩, -⟩ := h
  exact World.block_lt_of_cell? _ _ h1
theorem Frm.grow {K : Nat → Prop} {w w1 : World} (h : Frm K w w1) (os : Array Obj) : Frm K w (Go.Sort.grow w1 os) :=
  ⟨h.os, h.tape, h.output, by have := h.size; simp only [Go.Sort.grow, Array.size_append]; omega, fun k hl hn => by
    have := h.size
    simp only [Go.Sort.grow]
    rw [Array.getElem?_append_left (by omega)]
    exact h.block k hl hn⟩
def itoaB (n : Int) : By := Lib.itoa n
/-- A word and numbers, a blank between. -/
def joinB (first : By) (ns : List Int) : By := Lib.join (first :: ns.map itoaB) [32]
theorem itoa_any (n : Int) (h0 : -9223372036854775808 ≤ n) (h1 : n ≤ 9223372036854775807) (w : World) (hg : Gl w) : Calls Tryz.prog 75 #[.int .i64 n] w fun e w' => e = .returned (.string (ba (itoaB n))) ∧ Frm (fun _ => False) w w' :=
  (Tryz.strconv_Itoa n h0 h1 w hg.2).mono (by
    rintro e w' ⟨rfl, k, os, rfl⟩
    exact ⟨rfl, ((Frm.refl _ w).drewN k).grow os⟩)
theorem infoSt : (Tryz.prog.info? 9).map (fun i => (i.zero, i.size, i.bytes)) = some (some (.string ByteArray.empty), 1, 16) := by kernel_rfl
theorem itoa_len (n : Int) (h0 : -9223372036854775808 ≤ n) (h1 : n ≤ 9223372036854775807) : (itoaB n).length ≤ 1000000 := Nat.le_trans (Lib.itoa_length_le n h0 h1) (by omega)
theorem join_len (s : UInt8) (m : Nat) : ∀ xs : List By, (∀ x ∈ xs, x.length ≤ m) → (Lib.join xs [s]).length ≤ xs.length * (m + 1)
  | [], _ => by simp [Lib.join, List.intercalate]
  | [x], h => by have := h x (by simp); simp [Lib.join, List.intercalate]; omega
  | x :: y :: r, h => by
    have h1 := join_len s m (y :: r) fun z hz => h z (by simp [hz])
    have h2 := h x (by simp)
    have e : Lib.join (x :: y :: r) [s] = x ++ [s] ++ Lib.join (y :: r) [s] := by simp [Lib.join, List.intercalate]
    rw [e]
    simp only [List.length_append, List.length_cons, List.length_nil] at h1 ⊢
    rw [Nat.succ_mul]
    omega
theorem joinB_snoc (first : By) (ns : List Int) (x : Int) : (first :: (ns ++ [x]).map itoaB) = (first :: ns.map itoaB) ++ [itoaB x] := by simp
set_option maxHeartbeats 1600000 in
theorem join_any (first : By) (A : Option Addr) (n c : Nat) (ns : List Int) (K : Nat → Prop) (w : World) (h : IAt w K A n c ns) (hK : ∀ q, K q → q < w.heap.size) (hl : ns.length ≤ 1000000) (hr : ∀ x ∈ ns, -9223372036854775808 ≤ x ∧ x ≤ 9223372036854775807) (hf : first.length ≤ 1000000) (hg : Gl w) :
    Calls Tryz.prog 54 #[.string (ba first), .slice A n c] w fun e w' => e = .returned (.string (ba (joinB first ns))) ∧ Frm (fun _ => False) w w' := by
  obtain ⟨i0, hi, hz0, hz1, hz2⟩ := info_parts infoSt
  obtain ⟨hn, hnc, hcm⟩ := h.len
  have H := Lib.hid (And.intro h (And.intro hK (And.intro hn (And.intro hl (And.intro hr (And.intro hf hg))))))
  have hn9 : n ≤ 1000000 := by omega
  obtain ⟨F, hF⟩ : ∃ F, F = ba first := ⟨_, rfl⟩
  rw [← hF]
  have HF := Lib.hid hF
  clear h hK hn hl hr hf hg hF
  go_enter Tryz.func54, Tryz.ntmps54
  go_wp2_with fail
  go_loopw [5, 12] (fun t i wr => ∃ k : Nat, k ≤ n ∧ i = .int .i64 k ∧ Hid (wr.ownsRow w.heap.size 9 1 t (k + 1) (svb (first :: (ns.take k).map itoaB)) ∧ Frm (fun _ => False) w wr)) (fun _ i _ => n - (intOf i).toNat)
  case atStart => exact ⟨0, Nat.zero_le _, rfl, Lib.hid ⟨by have h1 := own_new1 (w := w) (base := w.heap.size) (e := 9) (x := .string (ba first)) rfl (Nat.le_refl _); rw [HF.out]; exact h1, (Frm.refl _ w).alloc _⟩⟩
  case round =>
    obtain ⟨k, hk, rfl, hT⟩ := hrel
    obtain ⟨ho, hFr⟩ := hT.out
    obtain ⟨A5, c5, rfl, -, -⟩ := own_form ho
    obtain ⟨hA, hK, hn, hl, hr, hf, hg⟩ := H.out
    by_cases hlt : k < n
    · obtain ⟨g, o, rfl, hKg, hc⟩ := hA.at_ (by omega)
      have hkn : k < ns.length := by omega
      have hc1 := hFr.cell (hc k hkn) id
      have hx := hr ns[k] (List.getElem_mem hkn)
      obtain ⟨x, hxe⟩ : ∃ x, x = ns[k] := ⟨_, rfl⟩
      rw [← hxe] at hc1 hx
      have hit := itoa_any x hx.1 hx.2 wr (hg.frm hFr)
      have HA := Lib.hid (And.intro ho (And.intro hFr (And.intro hx (show ns.take (k + 1) = ns.take k ++ [x] by rw [hxe, List.take_succ_eq_append_getElem hkn]))))
      have HLt := Lib.hid (And.intro hlt hx)
      clear hT ho hFr hA hK hn hl hr hf hg hc hKg hxe hx
      go_wp2_with fail
      refine hit.mono ?_
      rintro e w1 ⟨rfl, hF1⟩
      have hb1 := HA.out.2.1.size
      have hb2 := hF1.size
      have HF1 := Lib.hid hF1
      clear hit hF1 hc1
      go_wp2_with (at_builtin; go_loud (refine wpList_append_sl (by rfl) _ _ 46 (by rfl) w.heap.size 9 i0 (.string ByteArray.empty) 16 Tryz.underlying46 hi hz0 hz1 hz2 (by rfl) _ (k + 1) _ (by rfl) (((HF1.out).alloc _).own HA.out.1 fun _ _ => id) (fun q => q = w1.heap.size) _ [.string (ba (itoaB x))] (by rfl) (Sl.blk1 w1 _ _) (by intro u hu; rw [List.mem_singleton.1 hu]; rfl) (by unfold maxLen; simp; omega) (by simp; omega) (by simp; omega) ?_); go_loud (intro A6 N6 c6 w6 HN hNc hc6 hown hg6 hat))
      obtain rfl : N6 = k + 1 + 1 := HN.out
      have HE := Lib.hid (And.intro hown (((HA.out.2.1.trans' HF1.out).alloc _).grown hg6 fun q hq => .inr (HA.out.1.lt q hq).1))
      clear hown hg6 hat HN hb1 hb2
      go_wp2_with fail
      go_roundw
      case rel => exact ⟨k + 1, by have := HLt.out.1; omega, by go_num, Lib.hid ⟨by
        have h1 := HE.out.1
        rw [HA.out.2.2.2, joinB_snoc]
        simpa [svb] using h1, HE.out.2⟩⟩
      case measure => have := HLt.out.1; simp [intOf]; omega
    · obtain rfl : k = n := by omega
      have hkn : ns.take k = ns := List.take_of_length_le (by omega)
      rw [hkn] at ho
      obtain ⟨g6, hg6, hcs⟩ : ∃ g6, A5 = some ⟨g6, 0, none⟩ ∧ ∀ (j : Nat) (x : ByteArray), ((first :: ns.map itoaB).map ba)[j]? = some x → wr.cell? ⟨g6, 0 + j, none⟩ = some (.string x) := by
        obtain ⟨g6, hg6, h0⟩ := own_at ho 0 (by simp)
        refine ⟨g6, hg6, fun j x hx => ?_⟩
        obtain ⟨hj, he⟩ := List.getElem?_eq_some_iff.1 hx
        obtain ⟨g7, hg7, h7⟩ := own_at ho j (by simpa using hj)
        rw [hg6] at hg7
        cases hg7
        rw [Nat.zero_add, h7, ← he]
        simp only [svb, List.getElem_map]
      subst hg6
      have hlen : (Lib.join (((first :: ns.map itoaB).map ba).map (·.data.toList)) (ba [32]).data.toList).length ≤ 140737488355328 := by
        have e : ((first :: ns.map itoaB).map ba).map (·.data.toList) = first :: ns.map itoaB := by simp [ba_data]
        rw [e]
        refine Nat.le_trans (join_len 32 1000000 _ ?_) (by simp; omega)
        intro x hx
        rcases List.mem_cons.1 hx with rfl | hx
        · exact hf
        · obtain ⟨z, hz, rfl⟩ := List.mem_map.1 hx
          exact itoa_len z (hr z hz).1 (hr z hz).2
      have hjn := Tryz.strings_Join g6 0 c5 ((first :: ns.map itoaB).map ba) (ba [32]) wr hcs ((ho.lt g6 rfl).2) (by simp; omega) (by obtain ⟨A', c', e, h1, -⟩ := own_form ho; cases e; simp; omega) hlen
      have e1 : ((first :: ns.map itoaB).map ba).length = k + 1 := by simp; omega
      have e2 : (⟨(Lib.join (((first :: ns.map itoaB).map ba).map (·.data.toList)) (ba [32]).data.toList).toArray⟩ : ByteArray) = ba (joinB first ns) := by
        have e : ((first :: ns.map itoaB).map ba).map (·.data.toList) = first :: ns.map itoaB := by simp [ba_data]
        rw [e]; rfl
      rw [e1, e2] at hjn
      have HA := Lib.hid hFr
      have hs32 : ba [32] = ⟨#[32]⟩ := rfl
      rw [hs32] at hjn
      clear hT ho hFr hA hK hn hl hr hf hg hcs hkn hlen e1 e2 hs32
      go_wp2_with fail
      refine hjn.mono ?_
      rintro e w1 ⟨rfl, hB⟩
      go_wp2_with fail
      go_ret
      exact ⟨rfl, HA.out.trans (Frm.of_below hB) fun _ h => h.elim⟩
end Go.Proofs.YtpcdbkaeijhmfaaGreatDoor
namespace Go.Proofs.YtpcdbkaeijhmfaaGreatDoor
set_option maxRecDepth 100000
set_option linter.unusedVariables false
set_option linter.unusedSimpArgs false
open Go.RowKit
/-- A slice of texts, to be read. -/
def TxS (w : World) (K : Nat → Prop) (v : Value) (L : List By) : Prop :=
  ∃ vs, Sl w K v vs ∧ vs.length = L.length ∧ (∀ u ∈ vs, u.oneCell' = true) ∧ ∀ (i : Nat) u x, vs[i]? = some u → L[i]? = some x → Sl w K u (bv x)
theorem TxS.keptTo {w w' : World} {K K' : Nat → Prop} {v : Value} {L : List By} (h : TxS w K v L) (hf : ∀ k, K k → w'.heap[k]? = w.heap[k]? ∧ K' k) : TxS w' K' v L := by
  obtain ⟨vs, h1, h2, h3, h4⟩ := h
  exact ⟨vs, h1.keptTo hf, h2, h3, fun i u x hu hx => (h4 i u x hu hx).keptTo hf⟩
theorem TxS.form {w : World} {K : Nat → Prop} {v : Value} {L : List By} (h : TxS w K v L) : ∃ A c, v = .slice A L.length c ∧ L.length ≤ c ∧ c ≤ 9223372036854775807 := by
  obtain ⟨vs, ⟨A, n, c, rfl, h1, h2, h3, -⟩, h4, -⟩ := h
  exact ⟨A, c, by rw [h1, h4], by omega, h3⟩
theorem TxS.at_ {w : World} {K : Nat → Prop} {A : Option Addr} {n c : Nat} {L : List By} (h : TxS w K (.slice A n c) L) (k : Nat) (hk : k < L.length) : ∃ u g o, A = some ⟨g, o, none⟩ ∧ K g ∧ w.cell? ⟨g, o + k, none⟩ = some u ∧ Sl w K u (bv L[k]) := by
  obtain ⟨vs, ⟨A', n', c', e, h1, h2, h3, h4⟩, h5, h6, h7⟩ := h
  cases e
  obtain ⟨g, o, rfl, hK, hc⟩ := h4.resolve_left (by omega)
  have hv : k < vs.length := by omega
  exact ⟨vs[k], g, o, rfl, hK, hc k hv, h7 k _ _ (List.getElem?_eq_getElem hv) (List.getElem?_eq_getElem hk)⟩
theorem Sl.of_own {w : World} {base n : Nat} {e : TypeId} {v : Value} {xs : List Value} {K : Nat → Prop} (h : w.ownsRow base e 1 v n xs) (hK : ∀ q, base ≤ q → q < w.heap.size → K q) : Sl w K v xs := by
  have h1 := h.1
  rw [Nat.mul_one] at h1
  obtain ⟨A, c, rfl, hn, hc⟩ := own_form h
  refine ⟨A, n, c, rfl, h1.symm, hn, hc, ?_⟩
  rcases Nat.eq_zero_or_pos n with h0 | h0
  · exact .inl h0
  · obtain ⟨g, rfl, -⟩ := own_at h 0 (by omega)
    obtain ⟨hb, hs⟩ := h.lt g rfl
    refine .inr ⟨g, 0, rfl, hK g hb hs, fun i hi => ?_⟩
    obtain ⟨g', hg', hc⟩ := own_at h i hi
    cases hg'
    rw [Nat.zero_add]
    exact hc
theorem TxR.read {w : World} {B : Nat} {v : Value} {L : List By} {K : Nat → Prop} (h : TxR w B v L) (hK : ∀ q, B ≤ q → q < w.heap.size → K q) : TxS w K v L := by
  obtain ⟨vs, h1, h2, h3⟩ := h
  refine ⟨vs, Sl.of_own h1 hK, h2, fun u hu => ?_, fun i u x hu hx => Sl.of_own (h3 i u x hu hx) hK⟩
  obtain ⟨i, hi, rfl⟩ := List.getElem_of_mem hu
  obtain ⟨A, c, e, -⟩ := own_form (h3 i _ _ (List.getElem?_eq_getElem hi) (List.getElem?_eq_getElem (by omega)))
  rw [e]; rfl
/-- The lists of a story, to be read. -/
structure LsR (w : World) (K : Nat → Prop) (st : St) (wv rv av pv : Value) : Prop where
  words : TxS w K wv st.words
  reads : TxS w K rv st.reads
  answers : Sl w K av (bvs st.answers)
  picks : Sl w K pv (ivs st.picks)
theorem LsR.keptTo {w w' : World} {K K' : Nat → Prop} {st : St} {wv rv av pv : Value} (h : LsR w K st wv rv av pv) (hf : ∀ k, K k → w'.heap[k]? = w.heap[k]? ∧ K' k) : LsR w' K' st wv rv av pv :=
  ⟨h.words.keptTo hf, h.reads.keptTo hf, h.answers.keptTo hf, h.picks.keptTo hf⟩
theorem Lsts.read {w : World} {B : Nat} {st : St} {wv rv av pv : Value} {K : Nat → Prop} (h : Lsts w B st wv rv av pv) (hK : ∀ q, B ≤ q → q < w.heap.size → K q) : LsR w K st wv rv av pv :=
  ⟨h.words.read hK, h.reads.read hK, Sl.of_own h.answers hK, Sl.of_own h.picks hK⟩
/-- All that there is. -/
def InW (w : World) (q : Nat) : Prop := q < w.heap.size
theorem LsR.kept {w w' : World} {st : St} {wv rv av pv : Value} (h : LsR w (InW w) st wv rv av pv) (hF : Frm (fun _ => False) w w') : LsR w' (InW w') st wv rv av pv :=
  h.keptTo fun q hq => ⟨hF.block q hq id, Nat.lt_of_lt_of_le hq hF.size⟩
/-- A story within the bounds of what may be printed. -/
structure Okay (st : St) : Prop where
  conf : st.conf.length = 7
  words : st.words.length ≤ 100000 ∧ ∀ x ∈ st.words, x.length ≤ 100000
  reads : st.reads.length ≤ 100000 ∧ ∀ x ∈ st.reads, x.length ≤ 100000
  answers : st.answers.length ≤ 100000
  picks : st.picks.length ≤ 100000
  seed : st.seed ≤ 4294967295
  kind : st.kind ≤ 255
def near (n : Int) : Prop := -4611686018427387904 ≤ n ∧ n ≤ 4611686018427387904
/-- The lines of a story's script. -/
def wordL (b : By) : By := bs "word " ++ quoteB b
def readL (b : By) : By := bs "read " ++ quoteB b
def yesB (y : Bool) : By := if y then bs " yes" else bs " no"
def answL (l : List Bool) : By := bs "answers" ++ l.flatMap yesB
def planL (st : St) : By := joinB (bs "plan " ++ kindL.getD st.kind []) [st.seed, st.last]
def linesP (st : St) : List By :=
  (if st.fold then [bs "fold"] else []) ++ st.words.map wordL ++ [joinB (bs "conf") st.conf] ++ st.reads.map readL ++ (if st.broken then [bs "broken"] else []) ++ (if st.answers = [] then [] else [answL st.answers]) ++ (if st.picks = [] then [] else [joinB (bs "pick") st.picks]) ++
    [planL st, joinB (bs "cancel") [st.cancel], joinB (bs "most") [st.most]]
def textP (st : St) : By := (linesP st).flatMap (· ++ [10])
def farB (n : Int) : Bool := decide (n < -4611686018427387904 ∨ 4611686018427387904 < n)
def badP (st : St) : Bool := decide (5 ≤ st.kind) || st.conf.any farB || st.picks.any farB || [st.last, st.cancel, st.most].any farB
/-- What Print answers; none: an error. -/
def printB (st : St) : Option By := if badP st then none else if greatB (textP st) then none else some (textP st)
end Go.Proofs.YtpcdbkaeijhmfaaGreatDoor
namespace Go.Proofs.YtpcdbkaeijhmfaaGreatDoor
set_option maxRecDepth 100000
set_option linter.unusedVariables false
set_option linter.unusedSimpArgs false
open Go.RowKit
/-- A slice of strings, at a place. -/
theorem strs_at {w : World} {K : Nat → Prop} {A : Option Addr} {n c : Nat} {ws : List By} (h : Sl w K (.slice A n c) (svb ws)) (k : Nat) (hk : k < n) : ∃ x g o, ws[k]? = some x ∧ A = some ⟨g, o, none⟩ ∧ K g ∧ w.cell? ⟨g, o + k, none⟩ = some (.string (ba x)) := by
  obtain ⟨A', n', c', e, h1, h2, h3, h4⟩ := h
  cases e
  rw [svb_length] at h1
  obtain ⟨g, o, rfl, hK, hc⟩ := h4.resolve_left (by omega)
  have hk' : k < ws.length := by omega
  refine ⟨ws[k], g, o, List.getElem?_eq_getElem hk', rfl, hK, ?_⟩
  rw [hc k (by simp; omega)]
  simp [svb]
theorem strs_len {w : World} {K : Nat → Prop} {A : Option Addr} {n c : Nat} {ws : List By} (h : Sl w K (.slice A n c) (svb ws)) : n = ws.length := by
  obtain ⟨A', n', c', e, h1, -⟩ := h
  cases e
  rwa [svb_length] at h1
theorem values_any (v : Value) (w : World) (hv : v.oneCell' = true) : Calls Tryz.prog 56 #[v] w fun e w' => e = .returned (.func (.func 76) #[] #[.pointer (some ⟨w.heap.size, 0, none⟩)]) ∧ w' = w.alloc (.cells #[v] 46) := by
  go_enter Tryz.func56, Tryz.ntmps56
  go_wp2
  go_ret
  exact ⟨rfl, rfl⟩
set_option maxRecDepth 100000 in
set_option maxHeartbeats 4000000 in
theorem values1_in (n : Nat) (hn : 3 ≤ n) (l b n₀ N c : Nat) (A : Option Addr) (L : List By) (Kq : Nat → Prop) (Gx : By → Prop) (hGx : ∀ x ∈ L, Gx x) (J : List By → World → Prop) (hl : L.length ≤ 100000000)
    (hY : ∀ pre x W1, J pre W1 → Gx x → pre.length < L.length → YieldAt Fence.wide (n - 1) Tryz.prog l #[sEnc x] W1 fun e W' => e = .returned (.bool true) ∧ J (pre ++ [x]) W' ∧ Frm (fun q => ¬ (q = b ∨ Kq q)) W1 W')
    (W : World) (hb : Blk W b 46 #[.slice A N c]) (hs : Sl W Kq (.slice A N c) (svb L)) (hK : ∀ q, Kq q → q < W.heap.size) (h0 : J [] W) :
    CallsIn Fence.wide n Tryz.prog 76 #[.func (.yield l) #[] #[], .pointer (some ⟨b, 0, none⟩)] W fun e W' => (∃ v, e = .returned v) ∧ ∃ ys, ys = L ∧ J ys W' := by
  refine callsIn_of_wp Tryz.func76 rfl trivial ?_ rfl
  simp only [Tryz.ntmps76, List.size_toArray, List.length_cons, List.length_nil, Nat.reduceAdd, Nat.reduceSub, Array.replicate_succ, Array.replicate_zero, List.push_toArray, List.append_toArray, List.nil_append, List.cons_append]
  have hc0 : W.cell? ⟨b, 0, none⟩ = some (.slice A N c) := hb.cell 0
  have hN := strs_len hs
  have hN9 : N ≤ 100000000 := by omega
  have Hgx := Lib.hid hGx
  clear hGx
  have HL := Lib.hid (And.intro hl (And.intro hY (And.intro hb (And.intro hs (And.intro hK (And.intro h0 hN))))))
  clear hl hY hb hs hK h0 hN
  gi_wp2
  gi_loopw [7] (fun i wr => ∃ k : Nat, k ≤ N ∧ i = .int .i64 k ∧ Hid (J (L.take k) wr ∧ Frm (fun q => ¬ (q = b ∨ Kq q)) W wr)) (fun i _ => N - (intOf i).toNat)
  case atStart => exact ⟨0, Nat.zero_le _, rfl, Lib.hid ⟨HL.out.2.2.2.2.2.1, Frm.refl _ _⟩⟩
  case round =>
    obtain ⟨k, hk, rfl, hT⟩ := hrel
    by_cases hlt : k < N
    · obtain ⟨hl, hY, hb, hs, hK, h0, hN⟩ := HL.out
      obtain ⟨hJ, hF⟩ := hT.out
      obtain ⟨x, g, o, hx, rfl, hKg, hc⟩ := strs_at hs k hlt
      have hc1 := hF.cell hc (by show ¬ ¬ (_ ∨ _); exact fun h => h (.inr hKg))
      have hY1 := hY (L.take k) x wr hJ (Hgx.out x (List.mem_of_getElem? hx)) (by rw [List.length_take]; omega)
      simp only [sEnc] at hY1
      obtain ⟨fn, tmps, assign, body, hy, hRd⟩ := hY1
      have ht : L.take k ++ [x] = L.take (k + 1) := by
        obtain ⟨hk', rfl⟩ := List.getElem?_eq_some_iff.1 hx
        exact (List.take_succ_eq_append_getElem hk').symm
      have HA := Lib.hid (And.intro hF ht)
      clear hl hY hb hs hK h0 hN hJ hF hx hc hT
      gi_wp2_with fail
      refine ⟨fun _ => by omega, hRd.mono ?_⟩
      rintro e4 w4 ⟨rfl, hJ4, hk4⟩
      have H4 := Lib.hid (And.intro hJ4 (HA.out.1.trans' hk4))
      clear hJ4 hk4 hRd hy hc1
      gi_wp2_with fail
      go_roundw
      case rel => exact ⟨k + 1, by omega, by go_num, Lib.hid ⟨by rw [← HA.out.2]; exact H4.out.1, H4.out.2⟩⟩
      case measure => simp [intOf]; omega
    · obtain rfl : k = N := by omega
      gi_wp2_with fail
      refine bodyPost_end (results_none rfl _ _ _) rfl ?_
      refine ⟨⟨_, rfl⟩, _, rfl, ?_⟩
      have := hT.out.1
      rwa [List.take_of_length_le (by have := HL.out.2.2.2.2.2.2; omega)] at this
/-- A loop over the values of a slice of strings. -/
theorem values_seq (n b N c : Nat) (hn : 3 ≤ n) (A : Option Addr) (L : List By) (Kq : Nat → Prop) (Gx : By → Prop) (hGx : ∀ x ∈ L, Gx x) (w : World) (hl : L.length ≤ 100000000) (hb : Blk w b 46 #[.slice A N c]) (hs : Sl w Kq (.slice A N c) (svb L)) (hK : ∀ q, Kq q → q < w.heap.size) :
    SeqW Fence.wide n Tryz.prog 76 #[.pointer (some ⟨b, 0, none⟩)] (fun x : By => #[sEnc x]) (fun X Y => Frm (fun _ => False) X Y) (fun X Y => Frm (fun q => ¬ (q = b ∨ Kq q)) X Y) (fun x _ => Gx x)
      (fun ys => ys = L) L.length w := fun l J W hW hJ hY h0 =>
  values1_in n hn l b 0 N c A L Kq Gx hGx J hl hY W (hb.kept hW id) (hs.keptTo fun q hq => ⟨hW.block q (hK q hq) id, hq⟩) (fun q hq => Nat.lt_of_lt_of_le (hK q hq) hW.size) h0
end Go.Proofs.YtpcdbkaeijhmfaaGreatDoor
namespace Go.Proofs.YtpcdbkaeijhmfaaGreatDoor
set_option maxRecDepth 100000
set_option linter.unusedVariables false
set_option linter.unusedSimpArgs false
open Go.RowKit
def Bd (B b : Nat) (l : By) (w : World) : Prop := Lib.IsBuilderF 66 5 B b (Lib.byteCells l) w
/-- What a builder's call leaves. -/
def BdTo (B b : Nat) (w w' : World) : Prop := Below B w w' ∧ Lib.OthersKept 5 (some b) w w'
theorem BdTo.frm {B b : Nat} {w w' : World} (h : BdTo B b w w') : Frm (fun q => B ≤ q) w w' := ⟨h.1.os, h.1.tape, h.1.output, h.1.size, fun k _ hk => h.1.block k (by omega)⟩
theorem bd_new (w : World) : Bd w.heap.size w.heap.size [] (w.alloc (.cells #[.pointer none, .slice none 0 0] 66)) :=
  .inl ⟨Nat.le_refl _, .slice none 0 0, heap_alloc_new w _, World.ownsRowF_nil _ _ _ _, by simp [Value.ownBlock]⟩
theorem byteCells_app (l s : By) : Lib.byteCells (l ++ s) = Lib.byteCells l ++ Lib.strCells (ba s) := by simp [Lib.byteCells, Lib.strCells, ba_data]
theorem bd_string (B b : Nat) (l s : By) (w : World) (h : Bd B b l w) (hlen : l.length + s.length ≤ 140737488355328) (hB : B ≤ w.heap.size) :
    Calls Tryz.prog 27 #[.pointer (some ⟨b, 0, none⟩), .string (ba s)] w fun e w' => e = .returned (.tuple #[.int .i64 (ba s).size, .nilIface]) ∧ Bd B b (l ++ s) w' ∧ BdTo B b w w' :=
  (Tryz.Builder_WriteString_k B b _ (ba s) w h (by rw [Lib.byteCells_length, ba_size]; exact hlen) hB).mono (by
    rintro e w' ⟨rfl, h1, h2, h3⟩
    refine ⟨rfl, ?_, h2, h3⟩
    unfold Bd
    rw [byteCells_app]
    exact .inr h1)
theorem bd_byte (B b : Nat) (l : By) (c : UInt8) (w : World) (h : Bd B b l w) (hlen : l.length + 1 ≤ 140737488355328) (hB : B ≤ w.heap.size) :
    Calls Tryz.prog 28 #[.pointer (some ⟨b, 0, none⟩), .int .u8 c.toNat] w fun e w' => e = .returned .nilIface ∧ Bd B b (l ++ [c]) w' ∧ BdTo B b w w' :=
  (Tryz.Builder_WriteByte_k B b _ c.toNat w h (by rw [Lib.byteCells_length]; exact hlen) hB).mono (by
    rintro e w' ⟨rfl, h1, h2, h3⟩
    refine ⟨rfl, ?_, h2, h3⟩
    unfold Bd
    rw [show Lib.byteCells (l ++ [c]) = Lib.byteCells l ++ [.int .u8 c.toNat] by simp [Lib.byteCells]]
    exact .inr h1)
theorem bd_read (B b : Nat) (l : By) (w : World) (h : Bd B b l w) (hB : B ≤ w.heap.size) :
    Calls Tryz.prog 29 #[.pointer (some ⟨b, 0, none⟩)] w fun e w' => e = .returned (.string (ba l)) ∧ Bd B b l w' ∧ BdTo B b w w' :=
  (Tryz.Builder_String_any_k B b l w h hB).mono (by
    rintro e w' ⟨rfl, h1, h2⟩
    exact ⟨rfl, h1, h2⟩)
end Go.Proofs.YtpcdbkaeijhmfaaGreatDoor
namespace Go.Proofs.YtpcdbkaeijhmfaaGreatDoor
set_option maxRecDepth 100000
set_option linter.unusedVariables false
set_option linter.unusedSimpArgs false
open Go.RowKit
attribute [local go_sem] Oper.semAt_some
theorem str_eq' (l l' : By) : (({ data := l.toArray } : ByteArray).toList == ({ data := l'.toArray } : ByteArray).toList) = decide (l = l') := by
  rw [ByteArray.toList_mk, ByteArray.toList_mk, Bool.eq_iff_iff, beq_iff_eq, decide_eq_true_iff]
theorem equalB_any (K : Nat → Prop) (v v' : Value) (l l' : By) (w : World) (h : Sl w K v (bv l)) (h' : Sl w K v' (bv l')) :
    Calls Tryz.prog 33 #[v, v'] w fun e w' => e = .returned (.bool (decide (l = l'))) ∧ w = w' := by
  have e1 := run_conv (P := Tryz.prog) Tryz.underlying34 Tryz.underlying5 Tryz.underlying9 h
  have e2 := run_conv (P := Tryz.prog) Tryz.underlying34 Tryz.underlying5 Tryz.underlying9 h'
  have Hs := Lib.hid (str_eq' l l')
  obtain ⟨A, n, c, rfl, -⟩ := h
  obtain ⟨A', n', c', rfl, -⟩ := h'
  generalize (⟨l.toArray⟩ : ByteArray) = S1 at *
  generalize (⟨l'.toArray⟩ : ByteArray) = S2 at *
  go_enter Tryz.func33, Tryz.ntmps33
  go_wp2_with fail
  go_ret
  exact ⟨ret_bool Hs.out, rfl⟩
theorem take_ne {α : Type} {l l' : List α} {k : Nat} (h : k < l.length) (h' : k < l'.length) (hne : l[k] ≠ l'[k]) : l ≠ l' := by
  rintro rfl
  exact hne rfl
theorem take_same {α : Type} {l l' : List α} {k : Nat} (h : k < l.length) (h' : k < l'.length) (ht : l.take k = l'.take k) (he : l[k] = l'[k]) : l.take (k + 1) = l'.take (k + 1) := by
  rw [List.take_succ_eq_append_getElem h, List.take_succ_eq_append_getElem h', ht, he]
set_option maxHeartbeats 1600000 in
theorem eqT_any (K : Nat → Prop) (v v' : Value) (l l' : List By) (w : World) (h : TxS w K v l) (h' : TxS w K v' l') :
    Calls Tryz.prog 32 #[v, v', .func (.func 33) #[] #[]] w fun e w' => e = .returned (.bool (decide (l = l'))) ∧ w = w' := by
  obtain ⟨A, c, rfl, hn1, hn2⟩ := h.form
  obtain ⟨A', c', rfl, hn1', hn2'⟩ := h'.form
  obtain ⟨n, hn⟩ : ∃ n, n = l.length := ⟨_, rfl⟩
  obtain ⟨n', hn'⟩ : ∃ n, n = l'.length := ⟨_, rfl⟩
  have hnm : n ≤ 9223372036854775807 := by omega
  have hnm' : n' ≤ 9223372036854775807 := by omega
  obtain ⟨R, hR⟩ : ∃ R, R = decide (l = l') := ⟨_, rfl⟩
  rw [← hR]
  rw [← hn] at h ⊢
  rw [← hn'] at h' ⊢
  have H := Lib.hid (And.intro h (And.intro h' (And.intro hn (And.intro hn' hR))))
  clear h h' hn1 hn2 hn1' hn2' hR
  by_cases hnn : n = n'
  · subst hnn
    have hl : ((n : Int) != (n : Int)) = false := by simp
    clear hn hn'
    go_enter Tryz.func32, Tryz.ntmps32
    go_wp2_with fail
    go_loopw [17] (fun i wr => ∃ k : Nat, k ≤ n ∧ i = .int .i64 k ∧ wr = w ∧ Hid (l.take k = l'.take k)) (fun i _ => n - (intOf i).toNat)
    case atStart => exact ⟨0, Nat.zero_le _, rfl, rfl, Lib.hid (by simp)⟩
    case round =>
      obtain ⟨k, hk, rfl, rfl, hT⟩ := hrel
      obtain ⟨h, h', hn, hn', hR⟩ := H.out
      by_cases hlt : k < n
      · have hkx : k < l.length := by omega
        have hky : k < l'.length := by omega
        obtain ⟨u, g, o, rfl, hKg, hc, hu⟩ := h.at_ k hkx
        obtain ⟨u', g', o', rfl, hKg', hc', hu'⟩ := h'.at_ k hky
        have hq := equalB_any K u u' l[k] l'[k] wr hu hu'
        obtain ⟨B, m, d, rfl, -⟩ := id hu
        obtain ⟨B', m', d', rfl, -⟩ := id hu'
        obtain ⟨z, hz⟩ : ∃ z, z = decide (l[k] = l'[k]) := ⟨_, rfl⟩
        rw [← hz] at hq
        have H1 := Lib.hid (show ∃ (a : k < l.length) (b : k < l'.length), l.take k = l'.take k ∧ R = decide (l = l') ∧ z = decide (l[k] = l'[k]) ∧ k < n from ⟨hkx, hky, hT.out, hR, hz, hlt⟩)
        clear h h' hn hn' hR hkx hky hKg hKg' hu hu' hz hT
        go_wp2_with fail
        refine hq.mono ?_
        rintro e w1 ⟨rfl, rfl⟩
        clear hq
        obtain ⟨hkx, hky, hT, hR, hz, hlt⟩ := H1.out
        cases z with
        | true =>
          have ht := take_same hkx hky hT (of_decide_eq_true hz.symm)
          have Ht := Lib.hid ht
          clear ht hkx hky hT hR hz
          go_wp2_with fail
          go_roundw
          case rel => exact ⟨k + 1, by omega, by go_num, by first | rfl | trivial, Ht⟩
          case measure => simp [intOf]; omega
        | false =>
          have hne : R = false := by rw [hR]; exact decide_eq_false (take_ne hkx hky (of_decide_eq_false hz.symm))
          have Hn := Lib.hid hne
          clear hne hkx hky hT hR hz
          go_wp2_with fail
          go_ret
          exact ⟨by rw [Hn.out]; rfl, by first | rfl | trivial⟩
      · obtain rfl : k = n := by omega
        have he : R = true := by
          rw [hR]
          refine decide_eq_true ?_
          have := hT.out
          rwa [List.take_of_length_le (by omega), List.take_of_length_le (by omega)] at this
        have He := Lib.hid he
        clear h h' hn hn' hR he
        go_wp2_with fail
        go_ret
        exact ⟨by rw [He.out]; rfl, by first | rfl | trivial⟩
  · have hl : ((n : Int) != (n' : Int)) = true := by simp; omega
    have Hn := Lib.hid (show R = false by
      obtain ⟨h, h', hn, hn', hR⟩ := H.out
      rw [hR]; exact decide_eq_false fun e => hnn (by rw [hn, hn', e]))
    clear hn hn' hnn
    go_enter Tryz.func32, Tryz.ntmps32
    go_wp2_with fail
    go_ret
    exact ⟨by rw [Hn.out]; rfl, rfl⟩
set_option maxHeartbeats 1600000 in
theorem eqBo_any (K : Nat → Prop) (v v' : Value) (l l' : List Bool) (w : World) (h : Sl w K v (bvs l)) (h' : Sl w K v' (bvs l')) :
    Calls Tryz.prog 34 #[v, v'] w fun e w' => e = .returned (.bool (decide (l = l'))) ∧ ∃ q, w' = w.drewN q := by
  obtain ⟨A, n, c, rfl, hn, hn1, hn2, hx⟩ := h
  obtain ⟨A', n', c', rfl, hn', hn1', hn2', hx'⟩ := h'
  rw [bvs, List.length_map] at hn hn'
  have hnm : n ≤ 9223372036854775807 := by omega
  have hnm' : n' ≤ 9223372036854775807 := by omega
  obtain ⟨R, hR⟩ : ∃ R, R = decide (l = l') := ⟨_, rfl⟩
  rw [← hR]
  have H := Lib.hid (And.intro hx (And.intro hx' (And.intro hn (And.intro hn' hR))))
  clear hx hx' hn1 hn2 hn1' hn2' hR hn hn'
  by_cases hnn : n = n'
  · subst hnn
    have hl : ((n : Int) != (n : Int)) = false := by simp
    go_enter Tryz.func34, Tryz.ntmps34
    go_wp2_with fail
    go_loopw [13] (fun i wr => ∃ k : Nat, k ≤ n ∧ i = .int .i64 k ∧ (∃ q, wr = w.drewN q) ∧ Hid (l.take k = l'.take k)) (fun i _ => n - (intOf i).toNat)
    case atStart => exact ⟨0, Nat.zero_le _, rfl, ⟨0, rfl⟩, Lib.hid (by simp)⟩
    case round =>
      obtain ⟨k, hk, rfl, ⟨q0, rfl⟩, hT⟩ := hrel
      obtain ⟨hx, hx', hn, hn', hR⟩ := H.out
      by_cases hlt : k < n
      · have hkx : k < l.length := by omega
        have hky : k < l'.length := by omega
        obtain ⟨g, o, rfl, hKg, hc⟩ := hx.resolve_left (by omega)
        obtain ⟨g', o', rfl, hKg', hc'⟩ := hx'.resolve_left (by omega)
        have c1 : w.cell? ⟨g, o + k, none⟩ = some (.bool l[k]) := by have := hc k (by simpa [bvs] using hkx); simp only [bvs, List.getElem_map] at this; exact this
        have c2 : w.cell? ⟨g', o' + k, none⟩ = some (.bool l'[k]) := by have := hc' k (by simpa [bvs] using hky); simp only [bvs, List.getElem_map] at this; exact this
        obtain ⟨x, hxx⟩ : ∃ x, x = l[k] := ⟨_, rfl⟩
        obtain ⟨y, hyy⟩ : ∃ y, y = l'[k] := ⟨_, rfl⟩
        rw [← hxx] at c1
        rw [← hyy] at c2
        have H1 := Lib.hid (show ∃ (a : k < l.length) (b : k < l'.length), l.take k = l'.take k ∧ R = decide (l = l') ∧ x = l[k] ∧ y = l'[k] ∧ k < n from ⟨hkx, hky, hT.out, hR, hxx, hyy, hlt⟩)
        clear hx hx' hn hn' hR hkx hky hKg hKg' hc hc' hT hxx hyy
        go_upto_region 6 with fail
        cases hz : (!(x == y)) with
        | false =>
          have Hz := Lib.hid hz
          go_region
          all_goals
            clear hz c1 c2
            obtain ⟨hkx, hky, hT, hR, hxx, hyy, hlt⟩ := H1.out
            have ht := take_same hkx hky hT (by rw [← hxx, ← hyy]; simpa using Hz.out)
            have Ht := Lib.hid ht
            clear ht hkx hky hT hR hxx hyy
            go_wp2_with fail
            exact ⟨⟨k + 1, by omega, by go_num, ⟨q0 + 1, rfl⟩, Ht⟩, by simp [intOf]; omega⟩
        | true =>
          have Hz := Lib.hid hz
          go_region
          all_goals
            clear hz c1 c2
            obtain ⟨hkx, hky, hT, hR, hxx, hyy, hlt⟩ := H1.out
            have hne : R = false := by rw [hR]; exact decide_eq_false (take_ne hkx hky (by rw [← hxx, ← hyy]; simpa using Hz.out))
            have Hn := Lib.hid hne
            clear hne hkx hky hT hR hxx hyy
            go_wp2_with fail
            go_ret
            exact ⟨by rw [Hn.out]; rfl, q0 + 1, rfl⟩
      · obtain rfl : k = n := by omega
        have he : R = true := by
          rw [hR]
          refine decide_eq_true ?_
          have := hT.out
          rwa [List.take_of_length_le (by omega), List.take_of_length_le (by omega)] at this
        have He := Lib.hid he
        clear hx hx' hn hn' hR he
        go_wp2_with fail
        go_ret
        exact ⟨by rw [He.out]; rfl, q0, rfl⟩
  · have hl : ((n : Int) != (n' : Int)) = true := by simp; omega
    have Hn := Lib.hid (show R = false by
      obtain ⟨h, h', hn, hn', hR⟩ := H.out
      rw [hR]; exact decide_eq_false fun e => hnn (by rw [hn, hn', e]))
    clear hnn
    go_enter Tryz.func34, Tryz.ntmps34
    go_wp2_with fail
    go_ret
    exact ⟨by rw [Hn.out]; rfl, 0, rfl⟩
theorem eqI_any (K : Nat → Prop) (v v' : Value) (l l' : List Int) (w : World) (h : Sl w K v (ivs l)) (h' : Sl w K v' (ivs l')) :
    Calls Tryz.prog 35 #[v, v'] w fun e w' => e = .returned (.bool (decide (l = l'))) ∧ ∃ q, w' = w.drewN q := by
  obtain ⟨A, n, c, rfl, hn, hn1, hn2, hx⟩ := h
  obtain ⟨A', n', c', rfl, hn', hn1', hn2', hx'⟩ := h'
  rw [ivs, List.length_map] at hn hn'
  by_cases hnn : n = n'
  · subst hnn
    by_cases h0 : n = 0
    · subst h0
      refine (Tryz.slices_Equal_int_empty A A' c 0 c' w (by omega)).mono ?_
      rintro e w' ⟨rfl, rfl⟩
      rw [List.eq_nil_of_length_eq_zero hn.symm, List.eq_nil_of_length_eq_zero hn'.symm]
      exact ⟨rfl, 0, rfl⟩
    · obtain ⟨g, o, rfl, -, hc⟩ := hx.resolve_left h0
      obtain ⟨g', o', rfl, -, hc'⟩ := hx'.resolve_left h0
      have key : ∀ (ns : List Int) (g o : Nat), (∀ i (hi : i < (ivs ns).length), w.cell? ⟨g, o + i, none⟩ = some (ivs ns)[i]) → ∀ j, j < ns.length → w.cell? ⟨g, o + j, none⟩ = some (.int .i64 (ns.getD j 0)) := fun ns g o hc j hj => by
        rw [hc j (by simpa [ivs] using hj)]
        simp [ivs, hj]
      refine (Tryz.slices_Equal_int g o n c g' o' n c' l l' w (by omega) (by omega) (by omega) (by omega) (key l g o hc) (key l' g' o' hc')).mono ?_
      rintro e w' ⟨rfl, q, rfl⟩
      refine ⟨?_, q, rfl⟩
      rw [List.take_of_length_le (by omega), List.take_of_length_le (by omega)]
      congr 2
      rw [Bool.eq_iff_iff, beq_iff_eq, decide_eq_true_iff]
  · refine (Tryz.slices_Equal_int_lens A A' n c n' c' w hnn).mono ?_
    rintro e w' ⟨rfl, rfl⟩
    refine ⟨?_, 0, rfl⟩
    rw [decide_eq_false fun e => hnn (by rw [hn, hn', e])]
end Go.Proofs.YtpcdbkaeijhmfaaGreatDoor
namespace Go.Proofs.YtpcdbkaeijhmfaaGreatDoor
set_option maxRecDepth 100000
set_option linter.unusedVariables false
set_option linter.unusedSimpArgs false
open Go.RowKit Go.ChangeShapes Go.WideShapes Go.Deep
section
variable {H : Type} {enc : TypeId × Value → H} {W : World}
abbrev CfT := Int × Int × Int × Int × Int × Int × Int × Unit
abbrev PlT := Int × Int × Int × Unit
abbrev TxT := Value × List (List Value × (Value × List (List Value × Int)))
abbrev RnT := CfT × Bool × TxT × (Value × List (List Value × Bool)) × (Value × List (List Value × Int)) × PlT × Int × Int × Unit
abbrev SyT := Bool × TxT × RnT × Unit
def RelCf : List Value → CfT → Prop := RCons (RInt .i64) (RCons (RInt .i64) (RCons (RInt .i64) (RCons (RInt .i64) (RCons (RInt .i64) (RCons (RInt .i64) (RCons (RInt .i64) RNil))))))
def RelPl : List Value → PlT → Prop := RCons (RInt .u8) (RCons (RInt .u32) (RCons (RInt .i64) RNil))
def RelTx (W : World) : List Value → TxT → Prop := RSl W 1 (RSl W 1 (RInt .u8))
def RelRn (W : World) : List Value → RnT → Prop := RCons RelCf (RCons RBool (RCons (RelTx W) (RCons (RSl W 1 RBool) (RCons (RSl W 1 (RInt .i64)) (RCons RelPl (RCons (RInt .i64) (RCons (RInt .i64) RNil)))))))
def RelSy (W : World) : List Value → SyT → Prop := RCons RBool (RCons (RelTx W) (RCons (RelRn W) RNil))
theorem rdr_cf : Rdr enc Tryz.prog W 24 7 RelCf :=
  rdr_struct Tryz.underlying24 (by kernel_rfl) (rf_cons (s := 1) (sz := 6) rfl rfl (rdr_int Tryz.underlying3 (by kernel_rfl)) (rf_cons (s := 1) (sz := 5) rfl rfl (rdr_int Tryz.underlying3 (by kernel_rfl)) (rf_cons (s := 1) (sz := 4) rfl rfl (rdr_int Tryz.underlying3 (by kernel_rfl))
    (rf_cons (s := 1) (sz := 3) rfl rfl (rdr_int Tryz.underlying3 (by kernel_rfl)) (rf_cons (s := 1) (sz := 2) rfl rfl (rdr_int Tryz.underlying3 (by kernel_rfl)) (rf_cons (s := 1) (sz := 1) rfl rfl (rdr_int Tryz.underlying3 (by kernel_rfl)) (rf_cons (s := 1) (sz := 0) rfl rfl (rdr_int Tryz.underlying3 (by kernel_rfl)) rf_nil)))))))
theorem rdr_pl : Rdr enc Tryz.prog W 29 3 RelPl :=
  rdr_struct Tryz.underlying29 (by kernel_rfl) (rf_cons (s := 1) (sz := 2) rfl rfl (rdr_int Tryz.underlying5 (by kernel_rfl)) (rf_cons (s := 1) (sz := 1) rfl rfl (rdr_int Tryz.underlying27 (by kernel_rfl)) (rf_cons (s := 1) (sz := 0) rfl rfl (rdr_int Tryz.underlying3 (by kernel_rfl)) rf_nil)))
theorem rdr_tx : Rdr enc Tryz.prog W 22 1 (RelTx W) :=
  rdr_slice Tryz.underlying22 (by kernel_rfl) (by omega) (rdr_slice Tryz.underlying34 (by kernel_rfl) (by omega) (rdr_int Tryz.underlying5 (by kernel_rfl)))
theorem rdr_rn : Rdr enc Tryz.prog W 31 16 (RelRn W) :=
  rdr_struct Tryz.underlying31 (by kernel_rfl) (rf_cons (s := 7) (sz := 9) rfl rfl rdr_cf (rf_cons (s := 1) (sz := 8) rfl rfl (rdr_bool Tryz.underlying4 (by kernel_rfl)) (rf_cons (s := 1) (sz := 7) rfl rfl rdr_tx
    (rf_cons (s := 1) (sz := 6) rfl rfl (rdr_slice Tryz.underlying25 (by kernel_rfl) (by omega) (rdr_bool Tryz.underlying4 (by kernel_rfl))) (rf_cons (s := 1) (sz := 5) rfl rfl (rdr_slice Tryz.underlying26 (by kernel_rfl) (by omega) (rdr_int Tryz.underlying3 (by kernel_rfl)))
    (rf_cons (s := 3) (sz := 2) rfl rfl rdr_pl (rf_cons (s := 1) (sz := 1) rfl rfl (rdr_int Tryz.underlying3 (by kernel_rfl)) (rf_cons (s := 1) (sz := 0) rfl rfl (rdr_int Tryz.underlying3 (by kernel_rfl)) rf_nil))))))))
theorem rdr_sy : Rdr enc Tryz.prog W 33 18 (RelSy W) :=
  rdr_struct Tryz.underlying33 (by kernel_rfl) (rf_cons (s := 1) (sz := 17) rfl rfl (rdr_bool Tryz.underlying4 (by kernel_rfl)) (rf_cons (s := 1) (sz := 16) rfl rfl rdr_tx (rf_cons (s := 16) (sz := 0) rfl rfl rdr_rn rf_nil)))
theorem u8_wf {n : Int} (h : (Lit.int .u8 n).wf = true) : 0 ≤ n ∧ n ≤ 255 := by
  have h1 : IntKind.u8.min = 0 := by decide
  have h2 : IntKind.u8.max = 255 := by decide
  simp [Lit.wf] at h
  omega
theorem u32_wf {n : Int} (h : (Lit.int .u32 n).wf = true) : 0 ≤ n ∧ n ≤ 4294967295 := by
  have h1 : IntKind.u32.min = 0 := by decide
  have h2 : IntKind.u32.max = 4294967295 := by decide
  simp [Lit.wf] at h
  omega
theorem i64_wf {n : Int} (h : (Lit.int .i64 n).wf = true) : -9223372036854775808 ≤ n ∧ n ≤ 9223372036854775807 := by
  have h1 : IntKind.i64.min = -9223372036854775808 := by decide
  have h2 : IntKind.i64.max = 9223372036854775807 := by decide
  simp [Lit.wf] at h
  omega
def toBy (l : List (List Value × Int)) : By := l.map fun y => UInt8.ofNat y.2.toNat
theorem flat_bytes (l : List (List Value × Int)) (h : ∀ y ∈ l, y.1.length = 1 ∧ RInt .u8 y.1 y.2) : l.flatMap (·.1) = bv (toBy l) := by
  induction l with
  | nil => rfl
  | cons y l ih =>
    obtain ⟨e1, e2⟩ := (h y (by simp)).2
    have hr := u8_wf e2
    rw [List.flatMap_cons, ih fun e he => h e (by simp [he]), e1]
    show [Value.int .u8 y.2] ++ _ = Value.int .u8 (((UInt8.ofNat y.2.toNat).toNat : Nat) : Int) :: bv (toBy l)
    have e3 : (((UInt8.ofNat y.2.toNat).toNat : Nat) : Int) = y.2 := by
      rw [UInt8.toNat_ofNat']
      have : y.2.toNat % 2 ^ 8 = y.2.toNat := Nat.mod_eq_of_lt (by omega)
      omega
    rw [e3]; rfl
theorem flat_bools (l : List (List Value × Bool)) (h : ∀ y ∈ l, y.1.length = 1 ∧ RBool y.1 y.2) : l.flatMap (·.1) = bvs (l.map (·.2)) := by
  induction l with
  | nil => rfl
  | cons y l ih =>
    have e1 : y.1 = [.bool y.2] := (h y (by simp)).2
    rw [List.flatMap_cons, ih fun e he => h e (by simp [he]), e1]
    rfl
theorem relTx {cs : List Value} {y : TxT} (h : RelTx W cs y) : cs = [y.1] ∧ TxS W (InW W) y.1 (y.2.map fun u => toBy u.2.2) := by
  obtain ⟨e, h1, h2⟩ := h
  refine ⟨e, y.2.flatMap (fun u : List Value × (Value × List (List Value × Int)) => u.1), h1.one, ?_, ?_, ?_⟩
  · rw [flatMap_len y.2 fun u hu => (h2 u hu).1]; simp
  · intro u hu
    obtain ⟨q, hq, hm⟩ := List.mem_flatMap.1 hu
    obtain ⟨-, e1, ⟨A, n, c, e2, -⟩, -⟩ := h2 q hq
    rw [e1] at hm
    rw [List.mem_singleton.1 hm, e2]
    rfl
  · intro i u x hu hx
    rw [List.getElem?_map] at hx
    obtain ⟨q, hq, rfl⟩ := Option.map_eq_some_iff.1 hx
    obtain ⟨hi, rfl⟩ := List.getElem?_eq_some_iff.1 hq
    have := flatMap_at y.2 (sz := 1) (fun u hu => (h2 u hu).1) i 0 hi (by omega)
    rw [Nat.mul_one, Nat.add_zero, hu] at this
    obtain ⟨-, e1, e2, e3⟩ := h2 y.2[i] (List.getElem_mem hi)
    rw [e1] at this
    obtain rfl : u = _ := by simpa using this
    rw [← flat_bytes _ e3]
    exact e2.one
theorem relCf {cs : List Value} {y : CfT} (h : RelCf cs y) : ∃ l : List Int, l.length = 7 ∧ cs = [.int .i64 (l.getD 0 0), .int .i64 (l.getD 1 0), .int .i64 (l.getD 2 0), .int .i64 (l.getD 3 0), .int .i64 (l.getD 4 0), .int .i64 (l.getD 5 0), .int .i64 (l.getD 6 0)] := by
  obtain ⟨a0, a1, a2, a3, a4, a5, a6, u⟩ := y
  obtain ⟨_, _, rfl, ⟨rfl, -⟩, _, _, rfl, ⟨rfl, -⟩, _, _, rfl, ⟨rfl, -⟩, _, _, rfl, ⟨rfl, -⟩, _, _, rfl, ⟨rfl, -⟩, _, _, rfl, ⟨rfl, -⟩, _, c, rfl, ⟨rfl, -⟩, h⟩ := h
  have h' : c = [] := h
  subst h'
  exact ⟨[a0, a1, a2, a3, a4, a5, a6], rfl, rfl⟩
theorem relPl {cs : List Value} {y : PlT} (h : RelPl cs y) : ∃ (k s : Nat) (l : Int), k ≤ 255 ∧ s ≤ 4294967295 ∧ cs = [.int .u8 k, .int .u32 s, .int .i64 l] := by
  obtain ⟨a0, a1, a2, u⟩ := y
  obtain ⟨_, _, rfl, ⟨rfl, w0⟩, _, _, rfl, ⟨rfl, w1⟩, _, c, rfl, ⟨rfl, -⟩, h⟩ := h
  have h' : c = [] := h
  subst h'
  have r0 : 0 ≤ a0 ∧ a0 ≤ 255 := u8_wf w0
  have r1 : 0 ≤ a1 ∧ a1 ≤ 4294967295 := u32_wf w1
  refine ⟨a0.toNat, a1.toNat, a2, by omega, by omega, ?_⟩
  rw [Int.toNat_of_nonneg r0.1, Int.toNat_of_nonneg r1.1]
  rfl
theorem read_story {base : Nat} {v : Value} {d : DataW H} {p : List MemPlace} (hok : Value.okWide Tryz.prog W .any base 33 v) (h : DataW.Trod enc Tryz.prog W 0 (fun _ => true) true 33 v d p) :
    ∃ (st : St) (wv rv av pv : Value), v = .agg (stCells st wv rv av pv) ∧ LsR W (InW W) st wv rv av pv ∧ st.conf.length = 7 ∧ st.kind ≤ 255 ∧ st.seed ≤ 4294967295 := by
  obtain ⟨cs, rfl, -⟩ := okWide_struct Tryz.underlying33 hok
  obtain ⟨y, hy⟩ := rdr_arg (rdr_sy (enc := enc) (W := W)) h
  obtain ⟨fo, wd, rn, u⟩ := y
  obtain ⟨c0, c1, e0, hfo, c2, c3, rfl, hwd, c4, c5, rfl, hrn, hnil⟩ := hy
  have h' : c5 = [] := hnil
  subst h'
  obtain ⟨cf, bk, rd, an, pk, pl, ca, mo, u⟩ := rn
  obtain ⟨d0, d1, rfl, hcf, d2, d3, rfl, hbk, d4, d5, rfl, hrd, d6, d7, rfl, han, d8, d9, rfl, hpk, d10, d11, rfl, hpl, d12, d13, rfl, hca, d14, d15, rfl, hmo, hnil⟩ := hrn
  have h' : d15 = [] := hnil
  subst h'
  obtain ⟨lc, hlc, ecf⟩ := relCf hcf
  obtain ⟨k, s, l, hk, hs, epl⟩ := relPl hpl
  obtain ⟨ewd, hwd⟩ := relTx hwd
  obtain ⟨erd, hrd⟩ := relTx hrd
  obtain ⟨ean, han1, han2⟩ := han
  obtain ⟨epk, hpk1, hpk2⟩ := hpk
  have e1 : c0 = [.bool fo] := hfo
  have e2 : d2 = [.bool bk] := hbk
  refine ⟨⟨fo, _, lc, bk, _, an.2.map (·.2), pk.2.map (·.2), k, s, l, ca, mo⟩, wd.1, rd.1, an.1, pk.1, ?_, ⟨hwd, hrd, ?_, ?_⟩, hlc, hk, hs⟩
  · rw [← Array.toArray_toList (xs := cs)]
    have e : cs.toList = _ := e0
    rw [e, e1, e2, ewd, ecf, erd, ean, epk, epl, hca.1, hmo.1]
    rfl
  · show Sl W (InW W) an.1 (bvs (an.2.map (·.2)))
    rw [← flat_bools _ han2]
    exact han1.one
  · show Sl W (InW W) pk.1 (ivs (pk.2.map (·.2)))
    have := (sl_ints hpk1 hpk2).1
    exact this
end
end Go.Proofs.YtpcdbkaeijhmfaaGreatDoor
