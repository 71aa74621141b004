/- A story in memory. script: behind. What reading a line turns: the story's block and the rows of its lists. script: answers. The document's script: digit, kind. -/
import Derived.Deep.Onto
import Derived.Test.YtpcdbkaeijhmfaaGreatDoorHPc
namespace Go.Proofs.YtpcdbkaeijhmfaaGreatDoor
set_option maxRecDepth 100000
set_option linter.unusedVariables false
set_option linter.unusedSimpArgs false
open Go.RowKit
/-- A slice of the call's own, whose elements are texts of its own. -/
def TxR (w : World) (B : Nat) (v : Value) (L : List By) : Prop :=
  ∃ vs, w.ownsRow B 34 1 v L.length vs ∧ vs.length = L.length ∧ ∀ (i : Nat) u x, vs[i]? = some u → L[i]? = some x → w.ownsRow B 5 1 u x.length (bv x)
theorem own_apart {w : World} {b1 b2 n1 n2 z1 z2 q : Nat} {e1 e2 : TypeId} {v1 v2 : Value} {x1 x2 : List Value} (h1 : w.ownsRow b1 e1 z1 v1 n1 x1) (h2 : w.ownsRow b2 e2 z2 v2 n2 x2) (hne : e1 ≠ e2) (hq : v2.ownBlock = some q) : v1.ownBlock ≠ some q := by
  obtain ⟨cs, hb⟩ := own_blk h2 q hq
  exact own_blk_ne h1 hb hne
theorem TxR.nil (w : World) (B : Nat) : TxR w B (.slice none 0 0) [] := ⟨[], World.ownsRow_nil _ _ _ _, rfl, fun i u x h => by simp at h⟩
theorem TxR.form {w : World} {B : Nat} {v : Value} {L : List By} (h : TxR w B v L) : ∃ A c, v = .slice A L.length c := by
  obtain ⟨vs, h1, -⟩ := h
  obtain ⟨A, c, e, -, -⟩ := own_form h1
  exact ⟨A, c, e⟩
theorem TxR.lt {w : World} {B : Nat} {v : Value} {L : List By} (h : TxR w B v L) : ∀ q, v.ownBlock = some q → B ≤ q ∧ q < w.heap.size := by
  obtain ⟨vs, h1, -⟩ := h
  exact h1.lt
theorem TxR.kept {w w' : World} {B : Nat} {v : Value} {L : List By} {K : Nat → Prop} (h : TxR w B v L) (hF : Frm K w w') (hv : ∀ q, v.ownBlock = some q → ¬ K q) (hb : ∀ q cs, Blk w q 5 cs → ¬ K q) : TxR w' B v L := by
  obtain ⟨vs, h1, h2, h3⟩ := h
  exact ⟨vs, hF.own h1 hv, h2, fun i u x hu hx => hF.own (h3 i u x hu hx) fun q hq => by
    obtain ⟨cs, hc⟩ := own_blk (h3 i u x hu hx) q hq
    exact hb q cs hc⟩
theorem TxR.keptF {w w' : World} {B : Nat} {v : Value} {L : List By} (h : TxR w B v L) (hF : Frm (fun _ => False) w w') : TxR w' B v L := h.kept hF (fun _ _ => id) fun _ _ _ => id
theorem TxR.mono {w : World} {B B' : Nat} {v : Value} {L : List By} (h : TxR w B v L) (hB : B' ≤ B) : TxR w B' v L := by
  obtain ⟨vs, h1, h2, h3⟩ := h
  exact ⟨vs, World.ownsRow.mono h1 hB, h2, fun i u x hu hx => World.ownsRow.mono (h3 i u x hu hx) hB⟩
/-- One text more. -/
theorem TxR.push {w w' : World} {B c' : Nat} {v u : Value} {L : List By} {x : By} {A' : Option Addr} {vs : List Value} (h : TxR w B v L) (hvs : w.ownsRow B 34 1 v L.length vs) (hel : ∀ (i : Nat) u x, vs[i]? = some u → L[i]? = some x → w.ownsRow B 5 1 u x.length (bv x)) (hl : vs.length = L.length) (hu : w.ownsRow B 5 1 u x.length (bv x)) (hF : Frm (fun q => v.ownBlock = some q) w w') (ho : w'.ownsRow B 34 1 (.slice A' (L.length + 1) c') (L.length + 1) (vs ++ [u])) : TxR w' B (.slice A' (L.length + 1) c') (L ++ [x]) := by
  refine ⟨vs ++ [u], by simpa using ho, by simp [hl], fun i y z hy hz => ?_⟩
  have hk : ∀ y z, w.ownsRow B 5 1 y z (bv []) → True := fun _ _ _ => trivial
  rcases Nat.lt_or_ge i vs.length with hi | hi
  · rw [List.getElem?_append_left hi] at hy
    rw [List.getElem?_append_left (by omega)] at hz
    have h1 := hel i y z hy hz
    exact hF.own h1 fun q hq hk => own_apart h1 hvs (by decide) hk hq
  · rw [List.getElem?_append_right hi] at hy
    rw [List.getElem?_append_right (by omega)] at hz
    have e : i - vs.length = 0 := by
      rcases Nat.eq_zero_or_pos (i - vs.length) with h | h
      · exact h
      · rw [List.getElem?_eq_none (by simp; omega)] at hy; cases hy
    have e2 : i - L.length = 0 := by omega
    rw [e] at hy
    rw [e2] at hz
    simp at hy hz
    subst hy hz
    exact hF.own hu fun q hq hk => own_apart hu hvs (by decide) hk hq
/-- The cells of a story. -/
def stCells (st : St) (wv rv av pv : Value) : Array Value :=
  #[.bool st.fold, wv, .int .i64 (st.conf.getD 0 0), .int .i64 (st.conf.getD 1 0), .int .i64 (st.conf.getD 2 0), .int .i64 (st.conf.getD 3 0), .int .i64 (st.conf.getD 4 0), .int .i64 (st.conf.getD 5 0), .int .i64 (st.conf.getD 6 0), .bool st.broken, rv, av, pv,
    .int .u8 st.kind, .int .u32 st.seed, .int .i64 st.last, .int .i64 st.cancel, .int .i64 st.most]
def bvs (l : List Bool) : List Value := l.map .bool
/-- The lists of a story, in memory from B on. -/
structure Lsts (w : World) (B : Nat) (st : St) (wv rv av pv : Value) : Prop where
  words : TxR w B wv st.words
  reads : TxR w B rv st.reads
  answers : w.ownsRow B 4 1 av st.answers.length (bvs st.answers)
  picks : w.ownsRow B 3 1 pv st.picks.length (ivs st.picks)
  apart : ∀ q, wv.ownBlock = some q → rv.ownBlock ≠ some q
/-- A story that is read, in block b, its lists in memory of their own. -/
def StO (w : World) (b : Nat) (st : St) : Prop := ∃ wv rv av pv, Blk w b 50 (stCells st wv rv av pv) ∧ Lsts w (b + 1) st wv rv av pv
theorem Lsts.keptF {w w' : World} {B : Nat} {st : St} {wv rv av pv : Value} (h : Lsts w B st wv rv av pv) (hF : Frm (fun _ => False) w w') : Lsts w' B st wv rv av pv :=
  ⟨h.words.keptF hF, h.reads.keptF hF, hF.own h.answers fun _ _ => id, hF.own h.picks fun _ _ => id, h.apart⟩
theorem StO.keptF {w w' : World} {b : Nat} {st : St} (h : StO w b st) (hF : Frm (fun _ => False) w w') : StO w' b st := by
  obtain ⟨wv, rv, av, pv, h1, h2⟩ := h
  exact ⟨wv, rv, av, pv, h1.kept hF id, h2.keptF hF⟩
theorem TxR.set_ {w : World} {b i : Nat} {t : TypeId} {cs : Array Value} {v u : Value} {L : List By} {B : Nat} (h : TxR w B v L) (hb : Blk w b t cs) (h1 : t ≠ 34) (h2 : t ≠ 5) : TxR (w.setCell ⟨b, i, none⟩ u) B v L := by
  refine h.kept ((Frm.refl (fun q => q = b) w).setCell ⟨b, i, none⟩ (.inl rfl) _) (fun q hq e => ?_) fun q cs hc e => ?_
  · subst e
    obtain ⟨vs, h3, -⟩ := h
    exact own_blk_ne h3 hb (Ne.symm h1) hq
  · subst e
    unfold Blk at hc hb
    rw [hb] at hc
    injection hc with hc
    injection hc with _ hc
    exact h2 hc
/-- A cell of the story's block is turned. -/
theorem Lsts.set_ {w : World} {b i B : Nat} {st : St} {cs : Array Value} {wv rv av pv u : Value} (h : Lsts w B st wv rv av pv) (hb : Blk w b 50 cs) : Lsts (w.setCell ⟨b, i, none⟩ u) B st wv rv av pv := by
  have hF : Frm (fun q => q = b) w (w.setCell ⟨b, i, none⟩ u) := (Frm.refl (fun q => q = b) w).setCell ⟨b, i, none⟩ (.inl rfl) _
  have h1 := h.words.set_ (i := i) (u := u) hb (by decide) (by decide)
  have h2 := h.reads.set_ (i := i) (u := u) hb (by decide) (by decide)
  have h3 := hF.own h.answers (fun q hq e => own_blk_ne h.answers hb (by decide) (by rw [hq, e]))
  have h4 := hF.own h.picks (fun q hq e => own_blk_ne h.picks hb (by decide) (by rw [hq, e]))
  exact ⟨h1, h2, h3, h4, h.apart⟩
/-- Lists alone. -/
theorem Lsts.same {w : World} {B : Nat} {st st' : St} {wv rv av pv : Value} (h : Lsts w B st wv rv av pv) (h1 : st'.words = st.words) (h2 : st'.reads = st.reads) (h3 : st'.answers = st.answers) (h4 : st'.picks = st.picks) : Lsts w B st' wv rv av pv :=
  ⟨by rw [h1]; exact h.words, by rw [h2]; exact h.reads, by rw [h3]; exact h.answers, by rw [h4]; exact h.picks, h.apart⟩
theorem StO.lt {w : World} {b : Nat} {st : St} (h : StO w b st) : b < w.heap.size := by obtain ⟨wv, rv, av, pv, h1, -⟩ := h; exact h1.lt
end Go.Proofs.YtpcdbkaeijhmfaaGreatDoor
namespace Go.Proofs.YtpcdbkaeijhmfaaGreatDoor
set_option maxRecDepth 100000
set_option linter.unusedVariables false
set_option linter.unusedSimpArgs false
open Go.RowKit
def oneTx (ws : List By) : Option By := match ws with | [x] => txtB x | _ => none
theorem infoR : (Tryz.prog.info? 34).map (fun i => (i.zero, i.size, i.bytes)) = some (some (.slice none 0 0), 1, 24) := by kernel_rfl
def BehPost (b i B : Nat) (v : Value) (L : List By) (r : Option By) (w : World) (e : Ending) (w' : World) : Prop :=
  e = .returned (.bool r.isSome) ∧ (r = none → Frm (fun _ => False) w w') ∧ (∀ t, r = some t → ∃ v' w3, w' = w3.setCell ⟨b, i, none⟩ v' ∧ TxR w3 B v' (L ++ [t]) ∧ Frm (fun q => v.ownBlock = some q) w w3 ∧ (v'.ownBlock = v.ownBlock ∨ ∀ q, v'.ownBlock = some q → w.heap.size ≤ q))
theorem BehPost.no {b i B : Nat} {v : Value} {L : List By} {r : Option By} {w w' : World} (h : r = none) (hF : Frm (fun _ => False) w w') : BehPost b i B v L r w (.returned (.bool false)) w' := by
  subst h; exact ⟨rfl, fun _ => hF, fun t h => by cases h⟩
set_option maxHeartbeats 1600000 in
theorem behind_any (b i B : Nat) (v : Value) (L : List By) (K : Nat → Prop) (A : Option Addr) (n c : Nat) (ws : List By) (cs : Array Value) (w : World) (hb : Blk w b 50 cs) (hi0 : cs[i]? = some v) (h : TxR w B v L) (hs : SAt w K A n c ws) (hL : L.length ≤ 1000000) (hB : B ≤ w.heap.size) :
    Calls Tryz.prog 43 #[.pointer (some ⟨b, i, none⟩), .slice A n c] w (BehPost b i B v L (oneTx ws) w) := by
  obtain ⟨i0, hi, hz0, hz1, hz2⟩ := info_parts infoR
  obtain ⟨hn, hnc, hcm⟩ := hs.len
  by_cases h1 : n = 1
  · subst h1
    obtain ⟨x, g, o, hx, hxl, rfl, hg, hc0⟩ := hs.at_ 0 (by omega)
    have hws : oneTx ws = txtB x := by
      match ws, hn, hx with
      | [y], _, hx => simp at hx; subst hx; rfl
    rw [hws]
    have hun := unquote_any x w hxl
    have Hu := Lib.hid hun
    have H := Lib.hid (And.intro hb (And.intro hi0 (And.intro h (And.intro hL hB))))
    rw [Nat.add_zero] at hc0
    clear hun hb hi0 h hs hn hx hws hL hB
    go_enter Tryz.func43, Tryz.ntmps43
    go_wp2_with fail
    refine Hu.out.mono ?_
    rintro e w1 ⟨u, rfl, hu, hF1⟩
    cases hr : txtB x with
    | none =>
      have HF := Lib.hid (And.intro hF1 hr)
      clear hu hF1
      clear hr
      go_wp2_with fail
      go_ret
      exact BehPost.no HF.out.2 HF.out.1
    | some t =>
      rw [hr] at hu
      simp only [Option.getD_some] at hu
      obtain ⟨vs, k1, k2, k3⟩ := H.out.2.2.1.keptF hF1
      obtain ⟨A5, c5, e5, -, -⟩ := own_form k1
      subst e5
      have hb1 := H.out.1.kept hF1 id
      have hcell : w1.cell? ⟨b, i, none⟩ = some (.slice A5 L.length c5) := (hb1.cell i).trans H.out.2.1
      obtain ⟨A8, c8, e8, -, -⟩ := own_form hu
      subst e8
      have HT := Lib.hid (And.intro hu (And.intro k1 (And.intro k2 (And.intro k3 (And.intro hF1 (And.intro hb1 H.out.2.2.1))))))
      have hL9 : L.length ≤ 1000000 := H.out.2.2.2.1
      obtain ⟨m, hm⟩ : ∃ m, m = L.length := ⟨_, rfl⟩
      obtain ⟨q8, hq8⟩ : ∃ q8, q8 = t.length := ⟨_, rfl⟩
      rw [← hm] at hcell hL9
      rw [← hq8]
      have Hm := Lib.hid (And.intro hm (And.intro hq8 hr))
      clear hu k1 k2 k3 hF1 hb1 hr hm hq8
      go_wp2_with (at_builtin; go_loud (refine wpList_append_sl (by rfl) _ _ 22 (by rfl) B 34 i0 (.slice none 0 0) 24 Tryz.underlying22 hi hz0 hz1 hz2 (by rfl) (.slice A5 m c5) m vs (by rfl) (by rw [Hm.out.1]; exact ((Frm.refl (fun _ => False) w1).alloc _).own HT.out.2.1 fun _ _ => id) (fun q => q = w1.heap.size) _ [.slice A8 q8 c8] (by rfl) (Sl.blk1 w1 _ _) (by intro u hu; rw [List.mem_singleton.1 hu]; rfl) (by unfold maxLen; simp; omega) (by simp; omega) (by have := HT.out.2.2.2.2.1.size; have := H.out.2.2.2.2; simp; omega) ?_); go_loud (intro A6 N6 c6 w6 HN hNc hc6 hown hg hat; have hF6 : Frm (fun q => (Value.slice A5 m c5).ownBlock = some q) w1 w6 := ((Frm.refl (fun q => (Value.slice A5 m c5).ownBlock = some q) w1).alloc _).grown hg fun q hq => .inl hq; have hb6 := HT.out.2.2.2.2.2.1.kept hF6 (fun hk => own_blk_ne (by have := HT.out.2.1; rw [← Hm.out.1] at this; exact this) HT.out.2.2.2.2.2.1 (by decide) hk); have hc6' : w6.cell? ⟨b, i, none⟩ = some (.slice A5 L.length c5) := (hb6.cell i).trans H.out.2.1; have hz6 := hb6.frozen i; have H6 := Lib.hid (And.intro hown (And.intro hF6 (And.intro hat HN))); clear hown hg hat hF6 hb6))
      go_ret
      obtain ⟨hown, hF6, hat, HN⟩ := H6.out
      obtain ⟨hu, k1, k2, k3, hF1, hb1, -⟩ := HT.out
      obtain ⟨hm, hq8, hr⟩ := Hm.out
      obtain rfl : N6 = m + 1 := HN.out
      subst hm hq8
      rw [hr]
      refine ⟨rfl, fun h => (by cases h), fun t' ht => ?_⟩
      cases ht
      refine ⟨_, w6, rfl, TxR.push (w := w1) ⟨vs, k1, k2, k3⟩ k1 k3 k2 (World.ownsRow.mono hu H.out.2.2.2.2) hF6 hown, (hF1.mono (K' := fun q => (Value.slice A5 L.length c5).ownBlock = some q) fun _ h => h.elim).trans' hF6, ?_⟩
      rcases hat with h | h
      · exact .inl h
      · refine .inr fun q hq => ?_
        rw [h] at hq
        cases hq
        have := hF1.size
        simp; omega
  · have hws : oneTx ws = none := by
      match ws, hn with
      | [], _ => rfl
      | [y], hn => exact absurd hn h1
      | _ :: _ :: _, _ => rfl
    rw [hws]
    have hne : ((n : Int) != 1) = true := by simp; omega
    clear hb hi0 h hs hn hws h1 hL hB
    go_enter Tryz.func43, Tryz.ntmps43
    go_wp2_with fail
    go_ret
    exact BehPost.no rfl (Frm.refl _ _)
end Go.Proofs.YtpcdbkaeijhmfaaGreatDoor
namespace Go.Proofs.YtpcdbkaeijhmfaaGreatDoor
set_option maxRecDepth 100000
set_option linter.unusedVariables false
set_option linter.unusedSimpArgs false
open Go.RowKit
def lst4 (i : Nat) : Prop := i = 1 ∨ i = 10 ∨ i = 11 ∨ i = 12
/-- The story's block, and the rows of its lists. -/
def StK (w : World) (b q : Nat) : Prop := q = b ∨ ∃ i v, lst4 i ∧ w.cell? ⟨b, i, none⟩ = some v ∧ v.ownBlock = some q
def StT (b : Nat) (w w' : World) : Prop := Frm (StK w b) w w' ∧ ∀ q, StK w' b q → StK w b q ∨ w.heap.size ≤ q
/-- Blocks that are rows of strings. -/
def KS (w : World) (q : Nat) : Prop := ∃ cs fr, w.heap[q]? = some (.cells cs 9 fr)
theorem KS.lt {w : World} {q : Nat} (h : KS w q) : q < w.heap.size := by obtain ⟨cs, fr, h⟩ := h; exact lt_heap h
theorem StT.refl (b : Nat) (w : World) : StT b w w := ⟨Frm.refl _ _, fun q h => .inl h⟩
theorem StT.trans {b : Nat} {w w1 w2 : World} (h : StT b w w1) (h' : StT b w1 w2) : StT b w w2 :=
  ⟨h.1.trans h'.1 h.2, fun q hq => (h'.2 q hq).elim (h.2 q) fun hh => .inr (Nat.le_trans h.1.size hh)⟩
theorem StK.of_frm {b q : Nat} {w w' : World} {K : Nat → Prop} (hF : Frm K w w') (hb : b < w.heap.size) (hk : ¬ K b) (h : StK w' b q) : StK w b q := by
  rcases h with rfl | ⟨i, v, h1, h2, h3⟩
  · exact .inl rfl
  · refine .inr ⟨i, v, h1, ?_, h3⟩
    rw [← h2]
    exact (World.cell?_of_block (w := w) (a := ⟨b, i, none⟩) (hF.block b hb hk)).symm
theorem StT.of_frm {b : Nat} {w w' : World} (hF : Frm (fun _ => False) w w') (hb : b < w.heap.size) : StT b w w' :=
  ⟨hF.mono fun _ h => h.elim, fun _ hq => .inl (hq.of_frm hF hb id)⟩
/-- A list's value is turned. -/
theorem StT.turn {b i : Nat} {w w3 : World} {v v' : Value} {cs : Array Value} (hi : lst4 i) (hb : Blk w b 50 cs) (hv : cs[i]? = some v) (hF : Frm (fun q => v.ownBlock = some q) w w3) (hbk : v.ownBlock ≠ some b) (hat : v'.ownBlock = v.ownBlock ∨ ∀ q, v'.ownBlock = some q → w.heap.size ≤ q) : StT b w (w3.setCell ⟨b, i, none⟩ v') := by
  have hc : w.cell? ⟨b, i, none⟩ = some v := (hb.cell i).trans hv
  have hb3 := hb.kept hF hbk
  refine ⟨(hF.mono (K' := StK w b) fun q hq => .inl (.inr ⟨i, v, hi, hc, hq⟩)).setCell ⟨b, i, none⟩ (.inl (.inl rfl)) _, fun q hq => ?_⟩
  rcases hq with rfl | ⟨j, u, h1, h2, h3⟩
  · exact .inl (.inl rfl)
  · have h5 := (hb3.set_ i v').cell j
    rw [h5, Array.getElem?_setIfInBounds] at h2
    split at h2
    · split at h2
      · cases h2
        rcases hat with h | h
        · exact .inl (.inr ⟨i, v, hi, hc, h ▸ h3⟩)
        · exact .inr (h q h3)
      · cases h2
    · exact .inl (.inr ⟨j, u, h1, (hb.cell j).trans h2, h3⟩)
/-- A cell that holds no list is turned. -/
theorem StT.cell {b i : Nat} {w : World} {v' : Value} {cs : Array Value} (hi : ¬ lst4 i) (hb : Blk w b 50 cs) : StT b w (w.setCell ⟨b, i, none⟩ v') := by
  refine ⟨(Frm.refl (StK w b) w).setCell ⟨b, i, none⟩ (.inl (.inl rfl)) _, fun q hq => .inl ?_⟩
  rcases hq with rfl | ⟨j, u, h1, h2, h3⟩
  · exact .inl rfl
  · have h5 := (hb.set_ i v').cell j
    rw [h5, Array.getElem?_setIfInBounds, if_neg (fun (e : i = j) => hi (by rw [e]; exact h1))] at h2
    exact .inr ⟨j, u, h1, (hb.cell j).trans h2, h3⟩
theorem StO.ty {w : World} {b q : Nat} {st : St} (h : StO w b st) (hq : StK w b q) : ∃ t cs, Blk w q t cs ∧ t ≠ 9 := by
  obtain ⟨wv, rv, av, pv, hb, hl⟩ := h
  rcases hq with rfl | ⟨i, v, h1, h2, h3⟩
  · exact ⟨_, _, hb, by decide⟩
  · have hc := hb.cell i
    rw [h2] at hc
    rcases h1 with rfl | rfl | rfl | rfl
    · cases hc
      obtain ⟨vs, k1, -⟩ := hl.words
      obtain ⟨cs, k⟩ := own_blk k1 q h3
      exact ⟨_, cs, k, by decide⟩
    · cases hc
      obtain ⟨vs, k1, -⟩ := hl.reads
      obtain ⟨cs, k⟩ := own_blk k1 q h3
      exact ⟨_, cs, k, by decide⟩
    · cases hc
      obtain ⟨cs, k⟩ := own_blk hl.answers q h3
      exact ⟨_, cs, k, by decide⟩
    · cases hc
      obtain ⟨cs, k⟩ := own_blk hl.picks q h3
      exact ⟨_, cs, k, by decide⟩
theorem StO.noS {w : World} {b q : Nat} {st : St} (h : StO w b st) (hq : KS w q) : ¬ StK w b q := by
  intro hk
  obtain ⟨t, cs, k1, k2⟩ := h.ty hk
  obtain ⟨cs', fr, k3⟩ := hq
  unfold Blk at k1
  rw [k1] at k3
  injection k3 with k3
  injection k3 with _ k3
  exact k2 k3
theorem KS.keep {w w' : World} {K : Nat → Prop} {A : Option Addr} {n c : Nat} {ws : List By} (h : SAt w (KS w) A n c ws) (hF : Frm K w w') (hk : ∀ q, KS w q → ¬ K q) : SAt w' (KS w') A n c ws :=
  h.keptTo fun q hq => ⟨hF.block q hq.lt (hk q hq), by obtain ⟨cs, fr, e⟩ := hq; exact ⟨cs, fr, (hF.block q (lt_heap e) (hk q ⟨cs, fr, e⟩)).trans e⟩⟩
theorem KS.keepT {w w' : World} {b : Nat} {st : St} {A : Option Addr} {n c : Nat} {ws : List By} (h : SAt w (KS w) A n c ws) (hs : StO w b st) (hF : StT b w w') : SAt w' (KS w') A n c ws := KS.keep h hF.1 fun _ hq => hs.noS hq
/-- What a call that takes a line's words answers. -/
def LinePost (b : Nat) (r : Option St) (w : World) (e : Ending) (w' : World) : Prop := e = .returned (.bool r.isSome) ∧ StT b w w' ∧ ∀ st', r = some st' → StO w' b st'
theorem LinePost.no {b : Nat} {r : Option St} {w w' : World} (h : r = none) (hF : StT b w w') : LinePost b r w (.returned (.bool false)) w' := by subst h; exact ⟨rfl, hF, fun _ h => by cases h⟩
theorem LinePost.yes {b : Nat} {r : Option St} {st : St} {w w' : World} (h : r = some st) (hF : StT b w w') (hs : StO w' b st) : LinePost b r w (.returned (.bool true)) w' := by subst h; exact ⟨rfl, hF, fun _ h => by cases h; exact hs⟩
end Go.Proofs.YtpcdbkaeijhmfaaGreatDoor
namespace Go.Proofs.YtpcdbkaeijhmfaaGreatDoor
set_option maxRecDepth 100000
set_option linter.unusedVariables false
set_option linter.unusedSimpArgs false
open Go.RowKit
theorem infoBo : (Tryz.prog.info? 4).map (fun i => (i.zero, i.size, i.bytes)) = some (some (.bool false), 1, 1) := by kernel_rfl
theorem answB_step (st : St) (ws : List By) (k : Nat) (x : By) (h : ws[k]? = some x) : answB st (ws.drop k) = if x = bs "yes" then answB { st with answers := st.answers ++ [true] } (ws.drop (k + 1)) else if x = bs "no" then answB { st with answers := st.answers ++ [false] } (ws.drop (k + 1)) else none := by
  obtain ⟨hk, he⟩ := List.getElem?_eq_some_iff.1 h
  rw [List.drop_eq_getElem_cons hk, he, answB]
theorem str_ne (x y : By) : ((ba x).toList == y) = decide (x = y) := by rw [ba_toList, Bool.eq_iff_iff, beq_iff_eq, decide_eq_true_iff]
/-- An answer more. -/
theorem StO.answer {w w3 : World} {b : Nat} {st : St} {wv rv av pv : Value} {x : Bool} {A' : Option Addr} {c' : Nat} (hb : Blk w b 50 (stCells st wv rv av pv)) (h : Lsts w (b + 1) st wv rv av pv) (hF : Frm (fun q => av.ownBlock = some q) w w3) (ho : w3.ownsRow (b + 1) 4 1 (.slice A' (st.answers.length + 1) c') (st.answers.length + 1) (bvs st.answers ++ [.bool x])) :
    StO (w3.setCell ⟨b, 11, none⟩ (.slice A' (st.answers.length + 1) c')) b { st with answers := st.answers ++ [x] } := by
  have hb3 := hb.kept hF fun hk => own_blk_ne h.answers hb (by decide) hk
  have hna : ∀ q cs, Blk w q 5 cs → ¬ av.ownBlock = some q := fun q cs hc hk => own_blk_ne h.answers hc (by decide) hk
  have hw3 := h.words.kept hF (fun q hq hk => by obtain ⟨vs, k1, -⟩ := h.words; exact own_apart k1 h.answers (by decide) hk hq) hna
  have hr3 := h.reads.kept hF (fun q hq hk => by obtain ⟨vs, k1, -⟩ := h.reads; exact own_apart k1 h.answers (by decide) hk hq) hna
  have hp3 := hF.own h.picks fun q hq hk => own_apart h.picks h.answers (by decide) hk hq
  have hF4 : Frm (fun q => q = b) w3 (w3.setCell ⟨b, 11, none⟩ (.slice A' (st.answers.length + 1) c')) := (Frm.refl (fun q => q = b) w3).setCell ⟨b, 11, none⟩ (.inl rfl) _
  refine ⟨wv, rv, _, pv, hb3.set_ 11 _, hw3.set_ hb3 (by decide) (by decide), hr3.set_ hb3 (by decide) (by decide), ?_, hF4.own hp3 fun q hq e => own_blk_ne hp3 hb3 (by decide) (by rw [hq, e]), h.apart⟩
  have h5 := hF4.own ho fun q hq e => own_blk_ne ho hb3 (by decide) (by rw [hq, e])
  simpa [bvs] using h5
set_option maxHeartbeats 1600000 in
theorem answers_any (b : Nat) (st : St) (A : Option Addr) (n c : Nat) (ws : List By) (w : World) (hst : StO w b st) (h : SAt w (KS w) A n c ws) (hl : st.answers.length + ws.length ≤ 1000000) :
    Calls Tryz.prog 44 #[.pointer (some ⟨b, 0, none⟩), .slice A n c] w (LinePost b (if ws = [] then none else answB st ws) w) := by
  obtain ⟨i0, hi, hz0, hz1, hz2⟩ := info_parts infoBo
  obtain ⟨hn, hnc, hcm⟩ := h.len
  obtain ⟨o, ho⟩ : ∃ o, o = if ws = [] then none else answB st ws := ⟨_, rfl⟩
  rw [← ho]
  have hn9 : n ≤ 1000000 := by omega
  have H := Lib.hid (And.intro hst (And.intro h (And.intro hl (And.intro hn ho))))
  clear hst h hl hn ho
  go_enter Tryz.func44, Tryz.ntmps44
  go_wp2_with fail
  go_loopw [9] (fun i wr => ∃ k : Nat, k ≤ n ∧ i = .int .i64 k ∧ Hid (∃ s1, StO wr b s1 ∧ answB st ws = answB s1 (ws.drop k) ∧ s1.answers.length ≤ st.answers.length + k ∧ StT b w wr ∧ SAt wr (KS wr) A n c ws)) (fun i _ => n - (intOf i).toNat)
  case atStart => exact ⟨0, Nat.zero_le _, rfl, Lib.hid ⟨st, H.out.1, by simp, by omega, StT.refl _ _, H.out.2.1⟩⟩
  case round =>
    obtain ⟨k, hk, rfl, hT⟩ := hrel
    by_cases hlt : k < n
    · obtain ⟨s1, hs1, hb1, hl1, hT1, hS1⟩ := hT.out
      obtain ⟨x, g, o', hx, hxl, rfl, hg, hc0⟩ := hS1.at_ k hlt
      have hs := answB_step s1 ws k x hx
      have hws : ws ≠ [] := by have := H.out.2.2.2.1; intro e; subst e; simp at this; omega
      have g0 := str_ne x [121, 101, 115]
      have g1 := str_ne x [110, 111]
      obtain ⟨wv, rv, av, pv, hB, hL⟩ := hs1
      obtain ⟨A5, c5, e5, -, -⟩ := own_form hL.answers
      subst e5
      obtain ⟨m, hm⟩ : ∃ m, m = s1.answers.length := ⟨_, rfl⟩
      have hca : wr.cell? ⟨b, 11, none⟩ = some (.slice A5 m c5) := by rw [hm]; exact hB.cell 11
      have hfz := hB.frozen 11
      have hm9 : m + 1 ≤ 1000001 := by have := H.out.2.2.1; have := H.out.2.2.2.1; omega
      have HA := Lib.hid (And.intro hB (And.intro hL (And.intro hb1 (And.intro hl1 (And.intro hT1 (And.intro hS1 (And.intro hm (And.intro hs hws))))))))
      clear hB hL hb1 hl1 hT1 hS1 hm hs hws hT hx hg
      by_cases hyes : x = bs "yes"
      · rw [decide_eq_true (show x = [121, 101, 115] from hyes)] at g0
        have Hs := Lib.hid (show answB s1 (ws.drop k) = answB { s1 with answers := s1.answers ++ [true] } (ws.drop (k + 1)) by
          rw [HA.out.2.2.2.2.2.2.2.1]; exact if_pos hyes)
        clear hyes
        generalize ba x = S at *
        go_wp2_with (at_builtin; go_loud (refine wpList_append_sl (by rfl) _ _ 25 (by rfl) (b + 1) 4 i0 (.bool false) 1 Tryz.underlying25 hi hz0 hz1 hz2 (by rfl) (.slice A5 m c5) m _ (by rfl) (((Frm.refl (fun _ => False) wr).alloc _).own (by have := HA.out.2.1.answers; rw [← HA.out.2.2.2.2.2.2.1] at this; exact this) fun _ _ => id) (fun q => q = wr.heap.size) _ [.bool true] (by rfl) (Sl.blk1 wr _ _) (by intro u hu; rw [List.mem_singleton.1 hu]; rfl) (by unfold maxLen; simp; omega) (by simp; omega) (by have := HA.out.1.lt; simp; omega) ?_); go_loud (intro A6 N6 c6 w6 HN hNc hc6 hown hg hat; have hF6 : Frm (fun q => (Value.slice A5 m c5).ownBlock = some q) wr w6 := ((Frm.refl (fun q => (Value.slice A5 m c5).ownBlock = some q) wr).alloc _).grown hg fun q hq => .inl hq; have hb6 := HA.out.1.kept hF6 (fun hk => own_blk_ne (by have := HA.out.2.1.answers; rw [← HA.out.2.2.2.2.2.2.1] at this; exact this) HA.out.1 (by decide) hk); have hz6 := hb6.frozen 11; have hc11 := hb6.cell 11; have H6 := Lib.hid (And.intro hown (And.intro hF6 (And.intro hat HN))); clear hown hg hat hF6 hb6))
        go_wp2_with fail
        go_roundw
        case rel =>
          obtain ⟨hown, hF6, hat, HN⟩ := H6.out
          obtain ⟨hB, hL, hb1, hl1, hT1, hS1, hm, hs, hws⟩ := HA.out
          obtain rfl : N6 = m + 1 := HN.out
          subst hm
          have hT2 : StT b wr (w6.setCell ⟨b, 11, none⟩ (.slice A6 (s1.answers.length + 1) c6)) := StT.turn (v := .slice A5 s1.answers.length c5) (.inr (.inr (.inl rfl))) hB rfl hF6 (fun hk => own_blk_ne hL.answers hB (by decide) hk) (hat.imp id fun h q hq => by rw [h] at hq; cases hq; simp)
          exact ⟨k + 1, by omega, by go_num, Lib.hid ⟨_, StO.answer (x := true) hB hL hF6 hown, by rw [hb1, Hs.out], by simp; omega, hT1.trans hT2, KS.keepT hS1 ⟨_, _, _, _, hB, hL⟩ hT2⟩⟩
        case measure => simp [intOf]; omega
      · rw [decide_eq_false (show ¬ x = [121, 101, 115] from hyes)] at g0
        by_cases hno : x = bs "no"
        · rw [decide_eq_true (show x = [110, 111] from hno)] at g1
          have Hs := Lib.hid (show answB s1 (ws.drop k) = answB { s1 with answers := s1.answers ++ [false] } (ws.drop (k + 1)) by
            rw [HA.out.2.2.2.2.2.2.2.1]; rw [if_neg hyes]; exact if_pos hno)
          clear hyes hno
          generalize ba x = S at *
          go_wp2_with (at_builtin; go_loud (refine wpList_append_sl (by rfl) _ _ 25 (by rfl) (b + 1) 4 i0 (.bool false) 1 Tryz.underlying25 hi hz0 hz1 hz2 (by rfl) (.slice A5 m c5) m _ (by rfl) (((Frm.refl (fun _ => False) wr).alloc _).own (by have := HA.out.2.1.answers; rw [← HA.out.2.2.2.2.2.2.1] at this; exact this) fun _ _ => id) (fun q => q = wr.heap.size) _ [.bool false] (by rfl) (Sl.blk1 wr _ _) (by intro u hu; rw [List.mem_singleton.1 hu]; rfl) (by unfold maxLen; simp; omega) (by simp; omega) (by have := HA.out.1.lt; simp; omega) ?_); go_loud (intro A6 N6 c6 w6 HN hNc hc6 hown hg hat; have hF6 : Frm (fun q => (Value.slice A5 m c5).ownBlock = some q) wr w6 := ((Frm.refl (fun q => (Value.slice A5 m c5).ownBlock = some q) wr).alloc _).grown hg fun q hq => .inl hq; have hb6 := HA.out.1.kept hF6 (fun hk => own_blk_ne (by have := HA.out.2.1.answers; rw [← HA.out.2.2.2.2.2.2.1] at this; exact this) HA.out.1 (by decide) hk); have hz6 := hb6.frozen 11; have hc11 := hb6.cell 11; have H6 := Lib.hid (And.intro hown (And.intro hF6 (And.intro hat HN))); clear hown hg hat hF6 hb6))
          go_wp2_with fail
          go_roundw
          case rel =>
            obtain ⟨hown, hF6, hat, HN⟩ := H6.out
            obtain ⟨hB, hL, hb1, hl1, hT1, hS1, hm, hs, hws⟩ := HA.out
            obtain rfl : N6 = m + 1 := HN.out
            subst hm
            have hT2 : StT b wr (w6.setCell ⟨b, 11, none⟩ (.slice A6 (s1.answers.length + 1) c6)) := StT.turn (v := .slice A5 s1.answers.length c5) (.inr (.inr (.inl rfl))) hB rfl hF6 (fun hk => own_blk_ne hL.answers hB (by decide) hk) (hat.imp id fun h q hq => by rw [h] at hq; cases hq; simp)
            exact ⟨k + 1, by omega, by go_num, Lib.hid ⟨_, StO.answer (x := false) hB hL hF6 hown, by rw [hb1, Hs.out], by simp; omega, hT1.trans hT2, KS.keepT hS1 ⟨_, _, _, _, hB, hL⟩ hT2⟩⟩
          case measure => simp [intOf]; omega
        · rw [decide_eq_false (show ¬ x = [110, 111] from hno)] at g1
          have Hs := Lib.hid (show o = none by
            rw [H.out.2.2.2.2, if_neg HA.out.2.2.2.2.2.2.2.2, HA.out.2.2.1, HA.out.2.2.2.2.2.2.2.1, if_neg hyes, if_neg hno])
          clear hyes hno
          generalize ba x = S at *
          go_wp2_with fail
          go_ret
          exact LinePost.no Hs.out HA.out.2.2.2.2.1
    · obtain rfl : k = n := by omega
      obtain ⟨s1, hs1, hb1, hl1, hT1, hS1⟩ := hT.out
      have hkd := H.out.2.2.2.1
      rw [List.drop_of_length_le (by omega)] at hb1
      by_cases h0 : k = 0
      · have Hs := Lib.hid (show o = none by rw [H.out.2.2.2.2, if_pos (List.eq_nil_of_length_eq_zero (by omega))])
        have HA := Lib.hid hT1
        subst h0
        clear hs1 hb1 hl1 hT1 hS1 hkd
        go_wp2_with fail
        go_ret
        exact LinePost.no Hs.out HA.out
      · have Hs := Lib.hid (show o = some s1 by rw [H.out.2.2.2.2, if_neg (fun e => h0 (by rw [hkd, e]; rfl)), hb1]; rfl)
        have HA := Lib.hid (And.intro hT1 hs1)
        have g0 : decide ((0 : Int) < (k : Int)) = true := by simp; omega
        have g1 : decide (0 < k) = true := by simp; omega
        clear hs1 hb1 hl1 hT1 hS1 hkd h0
        go_wp2_with fail
        go_ret
        exact LinePost.yes Hs.out HA.out.1 HA.out.2
end Go.Proofs.YtpcdbkaeijhmfaaGreatDoor
namespace Go.Proofs.YtpcdbkaeijhmfaaGreatDoor
set_option maxRecDepth 100000
set_option linter.unusedVariables false
set_option linter.unusedSimpArgs false
open Go.RowKit
attribute [local go_sem] Oper.semAt_some
def digB (c : UInt8) : Int := match hexB c with | some n => (n : Int) | none => -1
theorem digit_any (c : UInt8) (w : World) : Calls Tryz.prog 88 #[.int .u8 (c.toNat : Int)] w fun e w' => e = .returned (.int .i64 (digB c)) ∧ w' = w := by
  have hc := c.toNat_lt
  obtain ⟨n, hn⟩ : ∃ n, n = c.toNat := ⟨_, rfl⟩
  have hd : digB c = if 48 ≤ n ∧ n ≤ 57 then (n : Int) - 48 else if 97 ≤ n ∧ n ≤ 102 then (n : Int) - 87 else -1 := by
    unfold digB hexB
    rw [← hn]
    split
    · rename_i h; split at h
      · cases h; rw [if_pos (by assumption)]; omega
      · split at h
        · cases h; rename_i h1 h2; rw [if_neg h1, if_pos h2]; omega
        · cases h
    · rename_i h; split at h
      · cases h
      · split at h
        · cases h
        · rename_i h1 h2; rw [if_neg h1, if_neg h2]
  rw [hd, ← hn]
  have hn9 : n < 256 := by omega
  clear hd hn hc
  by_cases h1 : 48 ≤ n ∧ n ≤ 57
  · rw [if_pos h1]
    have g1 : decide ((n : Int) ≥ 48) = true := decide_eq_true (by omega)
    have g2 : decide ((n : Int) ≤ 57) = true := decide_eq_true (by omega)
    go_enter Tryz.func88, Tryz.ntmps88
    go_wp2_with fail
    go_ret
    exact ⟨rfl, rfl⟩
  · rw [if_neg h1]
    by_cases h2 : 97 ≤ n ∧ n ≤ 102
    · rw [if_pos h2]
      have g1 : decide ((n : Int) ≥ 48) = true := decide_eq_true (by omega)
      have g2 : decide ((n : Int) ≤ 57) = false := decide_eq_false (by omega)
      have g3 : decide ((n : Int) ≥ 97) = true := decide_eq_true (by omega)
      have g4 : decide ((n : Int) ≤ 102) = true := decide_eq_true (by omega)
      go_enter Tryz.func88, Tryz.ntmps88
      go_wp2_with fail
      go_ret
      refine ⟨?_, rfl⟩
      show Ending.returned (.int .i64 _) = _
      congr 2
      omega
    · rw [if_neg h2]
      by_cases h3 : 48 ≤ n
      · have g1 : decide ((n : Int) ≥ 48) = true := decide_eq_true (by omega)
        have g2 : decide ((n : Int) ≤ 57) = false := decide_eq_false (by omega)
        by_cases h4 : 97 ≤ n
        · have g3 : decide ((n : Int) ≥ 97) = true := decide_eq_true (by omega)
          have g4 : decide ((n : Int) ≤ 102) = false := decide_eq_false (by omega)
          go_enter Tryz.func88, Tryz.ntmps88
          go_wp2_with fail
          go_ret
          exact ⟨rfl, rfl⟩
        · have g3 : decide ((n : Int) ≥ 97) = false := decide_eq_false (by omega)
          go_enter Tryz.func88, Tryz.ntmps88
          go_wp2_with fail
          go_ret
          exact ⟨rfl, rfl⟩
      · have g1 : decide ((n : Int) ≥ 48) = false := decide_eq_false (by omega)
        have g3 : decide ((n : Int) ≥ 97) = false := decide_eq_false (by omega)
        go_enter Tryz.func88, Tryz.ntmps88
        go_wp2_with fail
        go_ret
        exact ⟨rfl, rfl⟩
def KindPost (o : Option Nat) (w : World) (e : Ending) (w' : World) : Prop :=
  (match o with | some k => e = .returned (.tuple #[.int .u8 k, .bool true]) ∧ k < 5 | none => e = .returned (.tuple #[.int .u8 0, .bool false])) ∧ w' = w
theorem kind_any (x : By) (w : World) : Calls Tryz.prog 73 #[.string (ba x)] w (KindPost (kindB x) w) := by
  have g1 := str_ne x [110, 111, 110, 101]
  have g2 := str_ne x [102, 105, 114, 115, 116]
  have g3 := str_ne x [108, 97, 115, 116]
  have g4 := str_ne x [114, 111, 117, 110, 100]
  have g5 := str_ne x [115, 101, 101, 100]
  obtain ⟨o, ho⟩ : ∃ o, o = kindB x := ⟨_, rfl⟩
  rw [← ho]
  by_cases h1 : x = [110, 111, 110, 101]
  · rw [decide_eq_true h1] at g1
    rw [decide_eq_false (by rw [h1]; decide)] at g2
    rw [decide_eq_false (by rw [h1]; decide)] at g3
    rw [decide_eq_false (by rw [h1]; decide)] at g4
    rw [decide_eq_false (by rw [h1]; decide)] at g5
    have Ho := Lib.hid (show o = some 0 by rw [ho, h1]; decide)
    clear ho h1
    generalize ba x = S at *
    go_enter Tryz.func73, Tryz.ntmps73
    go_wp2_with fail
    go_ret2
    rw [Ho.out]
    exact ⟨⟨rfl, by decide⟩, rfl⟩
  · rw [decide_eq_false h1] at g1
    by_cases h2 : x = [102, 105, 114, 115, 116]
    · rw [decide_eq_true h2] at g2
      rw [decide_eq_false (by rw [h2]; decide)] at g3
      rw [decide_eq_false (by rw [h2]; decide)] at g4
      rw [decide_eq_false (by rw [h2]; decide)] at g5
      have Ho := Lib.hid (show o = some 1 by rw [ho, h2]; decide)
      clear ho h1 h2
      generalize ba x = S at *
      go_enter Tryz.func73, Tryz.ntmps73
      go_wp2_with fail
      go_ret2
      rw [Ho.out]
      exact ⟨⟨rfl, by decide⟩, rfl⟩
    · rw [decide_eq_false h2] at g2
      by_cases h3 : x = [108, 97, 115, 116]
      · rw [decide_eq_true h3] at g3
        rw [decide_eq_false (by rw [h3]; decide)] at g4
        rw [decide_eq_false (by rw [h3]; decide)] at g5
        have Ho := Lib.hid (show o = some 2 by rw [ho, h3]; decide)
        clear ho h1 h2 h3
        generalize ba x = S at *
        go_enter Tryz.func73, Tryz.ntmps73
        go_wp2_with fail
        go_ret2
        rw [Ho.out]
        exact ⟨⟨rfl, by decide⟩, rfl⟩
      · rw [decide_eq_false h3] at g3
        by_cases h4 : x = [114, 111, 117, 110, 100]
        · rw [decide_eq_true h4] at g4
          rw [decide_eq_false (by rw [h4]; decide)] at g5
          have Ho := Lib.hid (show o = some 3 by rw [ho, h4]; decide)
          clear ho h1 h2 h3 h4
          generalize ba x = S at *
          go_enter Tryz.func73, Tryz.ntmps73
          go_wp2_with fail
          go_ret2
          rw [Ho.out]
          exact ⟨⟨rfl, by decide⟩, rfl⟩
        · rw [decide_eq_false h4] at g4
          by_cases h5 : x = [115, 101, 101, 100]
          · rw [decide_eq_true h5] at g5
            have Ho := Lib.hid (show o = some 4 by rw [ho, h5]; decide)
            clear ho h1 h2 h3 h4 h5
            generalize ba x = S at *
            go_enter Tryz.func73, Tryz.ntmps73
            go_wp2_with fail
            go_ret2
            rw [Ho.out]
            exact ⟨⟨rfl, by decide⟩, rfl⟩
          · rw [decide_eq_false h5] at g5
            have Ho := Lib.hid (show o = none by rw [ho]; unfold kindB; rw [if_neg (fun e => h1 (e.trans (by decide))), if_neg (fun e => h2 (e.trans (by decide))), if_neg (fun e => h3 (e.trans (by decide))), if_neg (fun e => h4 (e.trans (by decide))), if_neg (fun e => h5 (e.trans (by decide)))])
            clear ho h1 h2 h3 h4 h5
            generalize ba x = S at *
            go_enter Tryz.func73, Tryz.ntmps73
            go_wp2_with fail
            go_ret2
            rw [Ho.out]
            exact ⟨rfl, rfl⟩
end Go.Proofs.YtpcdbkaeijhmfaaGreatDoor
