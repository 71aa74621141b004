/- The walk of teasellaw17.SourceOwn. -/
import Derived.Test.YtddhejgbidmmjaaAll
import Derived.Laws.MakeOwn
namespace Go.Proofs.Ytddhejgbidmmjaa
open Go.RowKit Go.Shelf
theorem made_at (z : Value) (n i : Nat) (h : i < n) : (madeCells #[z] n)[i]? = some z := by
  simp [madeCells, h, Nat.mod_one]
theorem len_tot (L : List (List UInt8)) : ∀ k, (L.getD k []).length ≤ tot L := by
  induction L with
  | nil => simp [List.getD]
  | cons l L ih =>
    intro k
    cases k with
    | zero => simp
    | succ k => have := ih k; simp at this ⊢; omega
/-- The row of copies, of which k are made. -/
def MakeRel (w : World) (G n : Nat) (L : List (List UInt8)) (k : Nat) (wr : World) : Prop :=
  ∃ cs, Blk wr G 30 cs ∧ cs.size = n ∧ w.heap.size ≤ G ∧ (∀ i, i < k → ∃ u, cs[i]? = some u ∧ OSl wr (fun g => w.heap.size ≤ g) 5 u (bv (L.getD i []))) ∧
    (∀ i, k ≤ i → i < n → cs[i]? = some (.slice none 0 0)) ∧ Frm (fun _ => False) w wr
theorem make_start (w w2 : World) (n : Nat) (L : List (List UInt8)) (hF : Frm (fun _ => False) w w2) : MakeRel w w2.heap.size n L 0 (w2.alloc (.cells (madeCells #[.slice none 0 0] n) 30)) :=
  ⟨_, Blk.new _ _ _, size_madeCells _ _, hF.size, fun i h => by omega, fun i _ h => made_at _ _ _ h, hF.alloc _⟩
/-- A row that may be written, whatever its bytes. -/
def RowOk (w : World) (B E : Nat) (u : Value) : Prop :=
  ∃ A n c, u = .slice A n c ∧ n ≤ 100000000 ∧ n ≤ c ∧ c ≤ 9223372036854775807 ∧ (n = 0 ∨ ∃ g o cs, A = some ⟨g, o, none⟩ ∧ B ≤ g ∧ g < E ∧ Blk w g 5 cs ∧ ∀ i, i < n → ∃ z : Int, cs[o + i]? = some (.int .u8 z))
theorem RowOk.nil (w : World) (B E : Nat) : RowOk w B E (.slice none 0 0) := ⟨none, 0, 0, rfl, by omega, by omega, by omega, .inl rfl⟩
theorem RowOk.kept {w w' : World} {B E : Nat} {u : Value} (h : RowOk w B E u) (hf : ∀ k, B ≤ k → k < E → w'.heap[k]? = w.heap[k]?) : RowOk w' B E u := by
  obtain ⟨A, n, c, rfl, hn, hc, hm, hx⟩ := h
  refine ⟨A, n, c, rfl, hn, hc, hm, hx.imp id ?_⟩
  rintro ⟨g, o, cs, rfl, hB, hE, hb, hx⟩
  exact ⟨g, o, cs, rfl, hB, hE, (hf g hB hE).trans hb, hx⟩
theorem RowOk.set_ {w : World} {B E : Nat} {u : Value} (h : RowOk w B E u) (g i : Nat) (z : Int) : RowOk (w.setCell ⟨g, i, none⟩ (.int .u8 z)) B E u := by
  obtain ⟨A, n, c, rfl, hn, hc, hm, hx⟩ := h
  refine ⟨A, n, c, rfl, hn, hc, hm, hx.imp id ?_⟩
  rintro ⟨g', o, cs, rfl, hB, hE, hb, hx⟩
  by_cases he : g' = g
  · subst he
    refine ⟨g', o, _, rfl, hB, hE, hb.set_ i _, fun j hj => ?_⟩
    obtain ⟨y, hy⟩ := hx j hj
    rw [Array.getElem?_setIfInBounds]
    split
    · rename_i h1
      have : o + j < cs.size := (Array.getElem?_eq_some_iff.1 hy).1
      rw [if_pos (by omega)]
      exact ⟨z, rfl⟩
    · exact ⟨y, hy⟩
  · exact ⟨g', o, cs, rfl, hB, hE, hb.far he _, hx⟩
theorem RowOk.far {w : World} {B E : Nat} {u : Value} (h : RowOk w B E u) {b : Nat} {t : TypeId} {cs : Array Value} (hb : Blk w b t cs) (hne : 5 ≠ t) (i : Nat) (v : Value) : RowOk (w.setCell ⟨b, i, none⟩ v) B E u := by
  obtain ⟨A, n, c, rfl, hn, hc, hm, hx⟩ := h
  refine ⟨A, n, c, rfl, hn, hc, hm, hx.imp id ?_⟩
  rintro ⟨g', o, cs', rfl, hB, hE, hb', hx⟩
  exact ⟨g', o, cs', rfl, hB, hE, hb'.far (hb'.ne_ hb hne) _, hx⟩
theorem RowOk.of_osl {w : World} {K : Nat → Prop} {B E : Nat} {u : Value} {l : List UInt8} (h : OSl w K 5 u (bv l)) (hl : l.length ≤ 100000000) (hK : ∀ k, K k → k < w.heap.size → B ≤ k ∧ k < E) : RowOk w B E u := by
  obtain ⟨A, n, c, rfl, hn, hc, hm, hx⟩ := h
  rw [bv_length] at hn
  refine ⟨A, n, c, rfl, by omega, hc, hm, ?_⟩
  rcases hx with ⟨rfl, rfl⟩ | ⟨g, o, cur, rfl, hg, hG, hs, hx⟩
  · exact .inl (by omega)
  · refine .inr ⟨g, o, cur, rfl, (hK g hg hG.lt).1, (hK g hg hG.lt).2, hG, fun i hi => ?_⟩
    rw [hx i (by rw [bv_length]; omega)]
    exact ⟨((bv l)[i]'(by rw [bv_length]; omega) |> fun _ => ((l[i]'(by omega)).toNat : Int)), by simp [bv]⟩
/-- The row of copies behind the source's making: its headers may be read, its rows be written. -/
def MineOk (w : World) (B E G n : Nat) : Prop := ∃ cs, Blk w G 30 cs ∧ cs.size = n ∧ B ≤ G ∧ G < E ∧ ∀ i, i < n → ∃ u, cs[i]? = some u ∧ RowOk w B E u
theorem MakeRel.sl {w wr : World} {G n : Nat} {L : List (List UInt8)} (h : MakeRel w G n L n wr) (hn : n = L.length) (hm : n ≤ 9223372036854775807) :
    ∃ vs, Sl wr (fun k => k < wr.heap.size) (.slice (some ⟨G, 0, none⟩) n n) vs ∧ Each wr (fun k => k < wr.heap.size) vs L := by
  obtain ⟨cs, hb, hs, hG, hx, _, hF⟩ := h
  subst hn
  refine ⟨cs.toList, ⟨_, _, _, rfl, by simpa using hs.symm, Nat.le_refl _, hm, .inr ⟨G, 0, rfl, hb.lt, fun i hi => ?_⟩⟩, ⟨by simpa using hs, fun i v l hv hl => ?_⟩⟩
  · rw [hb.cell]; simp at hi; simp [hi]
  · obtain ⟨hi, rfl⟩ := List.getElem?_eq_some_iff.1 hl
    obtain ⟨u, hu, ho⟩ := hx i hi
    have : u = v := by
      rw [Array.getElem?_toList] at hv
      rw [hu] at hv
      exact Option.some.inj hv
    subst this
    have e1 : L.getD i [] = L[i] := by simp [List.getD, hi]
    rw [e1] at ho
    exact ho.sl.mono fun k hk => hk.lt
theorem MakeRel.ok {w wr : World} {G n : Nat} {L : List (List UInt8)} (h : MakeRel w G n L n wr) (ht : tot L ≤ 100000000) : MineOk wr w.heap.size wr.heap.size G n := by
  obtain ⟨cs, hb, hs, hG, hx, _, hF⟩ := h
  refine ⟨cs, hb, hs, hG, hb.lt, fun i hi => ?_⟩
  obtain ⟨u, hu, ho⟩ := hx i hi
  refine ⟨u, hu, RowOk.of_osl ho ?_ fun k hk hlt => ⟨hk, hlt⟩⟩
  exact Nat.le_trans (len_tot L i) ht
theorem MineOk.kept {w w' : World} {B E G n : Nat} (h : MineOk w B E G n) (hf : ∀ k, B ≤ k → k < E → w'.heap[k]? = w.heap[k]?) : MineOk w' B E G n := by
  obtain ⟨cs, hb, hs, hG, hE, hx⟩ := h
  exact ⟨cs, (hf G hG hE).trans hb, hs, hG, hE, fun i hi => by obtain ⟨u, hu, ho⟩ := hx i hi; exact ⟨u, hu, ho.kept hf⟩⟩
theorem make_step {w wr w1 : World} {G n k N c1 : Nat} {L : List (List UInt8)} {cs : Array Value} {A1 : Option Addr} (hb : Blk wr G 30 cs) (hcs : cs.size = n) (hGw : w.heap.size ≤ G)
    (hdone : ∀ i, i < k → ∃ u, cs[i]? = some u ∧ OSl wr (fun g => w.heap.size ≤ g) 5 u (bv (L.getD i []))) (hnil : ∀ i, k ≤ i → i < n → cs[i]? = some (.slice none 0 0)) (hF : Frm (fun _ => False) w wr) (hk : k < n)
    (hown : w1.ownsRow wr.heap.size 5 1 (.slice A1 N c1) N (bv (L.getD k []))) (hg1 : (wr.alloc (.cells #[] 5)).grownBy w1 (some wr.heap.size)) :
    MakeRel w G n L (k + 1) (w1.setCell ⟨G, k, none⟩ (.slice A1 N c1)) := by
  have hF1 : Frm (fun _ => False) wr w1 := ((Frm.refl _ _).alloc _).grown hg1 fun x hx => .inr (by injection hx; omega)
  have hb1 : Blk w1 G 30 cs := hb.kept hF1 id
  refine ⟨_, hb1.set_ k _, by rw [Array.size_setIfInBounds]; exact hcs, hGw, fun i hi => ?_, fun i h1 h2 => ?_, (hF.trans hF1 (fun _ h => h.elim)).setCell _ (.inr hGw) _⟩
  · rw [Array.getElem?_setIfInBounds]
    by_cases hik : k = i
    · subst hik
      rw [if_pos rfl, if_pos (by omega)]
      exact ⟨_, rfl, (OSl.of_own hown fun g hg => Nat.le_trans hF.size (hown.lt g hg).1).kept' hb1 (by decide) _ _⟩
    · rw [if_neg hik]
      obtain ⟨u, hu, ho⟩ := hdone i (by omega)
      refine ⟨u, hu, ?_⟩
      obtain ⟨A, m, c, rfl, q1, q2, q3, q4⟩ := ho
      have ho' : OSl w1 (fun g => w.heap.size ≤ g) 5 (.slice A m c) (bv (L.getD i [])) := by
        refine ⟨A, m, c, rfl, q1, q2, q3, q4.imp id ?_⟩
        rintro ⟨g, o, cur, rfl, hg, hG, hx⟩
        exact ⟨g, o, cur, rfl, hg, hG.kept hF1 id, hx⟩
      exact ho'.kept' hb1 (by decide) _ _
  · rw [Array.getElem?_setIfInBounds, if_neg (by omega)]
    exact hnil i (by omega) h2
/-- Between two rounds of the loop that turns the copies. -/
def TurnRel (w : World) (E G n : Nat) (K : Nat → Prop) (b : Nat) (L0 : List (List UInt8)) (wr : World) : Prop :=
  MineOk wr w.heap.size E G n ∧ SrcAt wr K b L0 false 0 ∧ Frm (fun _ => False) w wr
/-- Between two rounds of the loop within it, over the copy u at place j. -/
def TurnIn (w : World) (E G n : Nat) (K : Nat → Prop) (b : Nat) (L0 : List (List UInt8)) (j : Nat) (u : Value) (wr : World) : Prop :=
  ∃ cs, Blk wr G 30 cs ∧ cs.size = n ∧ w.heap.size ≤ G ∧ G < E ∧ cs[j]? = some u ∧ (∀ i, i < n → ∃ u, cs[i]? = some u ∧ RowOk wr w.heap.size E u) ∧ SrcAt wr K b L0 false 0 ∧ Frm (fun _ => False) w wr
theorem turn_set {w wr : World} {E G n j g o : Nat} {K : Nat → Prop} {b : Nat} {L0 : List (List UInt8)} {u : Value} {cs : Array Value} (h : TurnIn w E G n K b L0 j u wr) (hg : Blk wr g 5 cs) (hB : w.heap.size ≤ g) (hE : g < E) (hK : ∀ k, K k → E ≤ k) (z : Int) :
    TurnIn w E G n K b L0 j u (wr.setCell ⟨g, o, none⟩ (.int .u8 z)).drew := by
  obtain ⟨cs', hb, hs, hBG, hGE, hj, hx, hS, hF⟩ := h
  refine ⟨cs', (hb.far (hb.ne_ hg (by decide)) _).drew, hs, hBG, hGE, hj, fun i hi => ?_, ?_, (hF.setCell _ (.inr hB) _).drew⟩
  · obtain ⟨u, hu, ho⟩ := hx i hi
    exact ⟨u, hu, (ho.set_ g o z).kept fun _ _ _ => rfl⟩
  · refine hS.kept (by simp) fun k hk => ?_
    have : E ≤ k := hK k hk
    exact Below.heap_setCell _ _ _ _ (show k ≠ g by omega)
theorem turn_nil {w wr : World} {E G n j : Nat} {K : Nat → Prop} {b : Nat} {L0 : List (List UInt8)} {u : Value} (h : TurnIn w E G n K b L0 j u wr) (hK : ∀ k, K k → E ≤ k) :
    TurnRel w E G n K b L0 (wr.setCell ⟨G, j, none⟩ (.slice none 0 0)) := by
  obtain ⟨cs, hb, hs, hBG, hGE, hj, hx, hS, hF⟩ := h
  refine ⟨⟨_, hb.set_ j _, by rw [Array.size_setIfInBounds]; exact hs, hBG, hGE, fun i hi => ?_⟩, ?_, hF.setCell _ (.inr hBG) _⟩
  · rw [Array.getElem?_setIfInBounds]
    by_cases hij : j = i
    · subst hij
      rw [if_pos rfl, if_pos (by omega)]
      exact ⟨_, rfl, RowOk.nil _ _ _⟩
    · rw [if_neg hij]
      obtain ⟨u, hu, ho⟩ := hx i hi
      exact ⟨u, hu, ho.far hb (by decide) _ _⟩
  · refine hS.kept (by simp) fun k hk => ?_
    have : E ≤ k := hK k hk
    exact Below.heap_setCell _ _ _ _ (show k ≠ G by omega)
set_option maxRecDepth 100000 in
set_option maxHeartbeats 4000000 in
theorem own_any (v0 : Value) (vs0 : List Value) (most : Int) (hmr : -9223372036854775808 ≤ most ∧ most ≤ 9223372036854775807) (L0 : List (List UInt8)) (w : World) (h : Sl w (fun k => k < w.heap.size) v0 vs0) (he : Each w (fun k => k < w.heap.size) vs0 L0) :
    Calls Try.prog 5 #[v0, .int .i64 most] w fun e w' => e = .returned (.bool true) ∧ Frm (fun _ => False) w w' := by
  obtain ⟨A0, n0, c0, rfl, hn0, hc0, hm0, hx0⟩ := id h
  have hgr := great_any (.slice A0 n0 c0) _ _ vs0 L0 w h he
  have Hs := Lib.hid (And.intro h (And.intro he (And.intro hn0 hx0)))
  have hnL : n0 ≤ 9223372036854775807 := by omega
  clear h he hn0 hx0 hc0 hm0
  obtain ⟨iB, hiB, hzB0, hzB1, hzB2⟩ := info_parts info5
  obtain ⟨iR, hiR, hzR0, hzR1, hzR2⟩ := info_parts info30
  have hmk : n0 ≤ 100 → ∀ W : World, (Instr.makeSlice 22 (.int .i64 n0) (.int .i64 n0)).run Try.prog W = .ok (.slice (some ⟨W.heap.size, 0, none⟩) n0 n0) (W.alloc (.cells (madeCells #[.slice none 0 0] n0) 30)) := fun hn W => by
    have := run_makeSlice (P := Try.prog) W 22 30 iR _ Try.underlying22 hiR hzR0 .i64 .i64 n0 n0 (by omega) (Int.le_refl _) (by rw [hzR1]; simp; omega) (by rw [hzR2]; omega) (by omega)
    rw [hzR1] at this
    simpa [Value.cells] using this
  go_enter Try.func5, Try.ntmps5
  have Hmk := Lib.hid hmk
  clear hmk
  go_wp2_with fail
  refine hgr.mono ?_
  rintro e w' ⟨gr, rfl, rfl, hg⟩
  clear hgr
  cases gr with
  | true =>
    clear hg
    go_wp2_with fail
    refine (wakes_any w).mono ?_
    rintro e w' ⟨rfl, hF⟩
    go_wp2_with fail
    go_ret
    exact ⟨rfl, hF⟩
  | false =>
    have hg1 := hg rfl
    clear hg
    have Hg := Lib.hid hg1
    clear hg1
    have hn80 : n0 ≤ 80 := by have h1 := Hs.out.2.2.1; have h2 := Hs.out.2.1.1; have := Hg.out.1; omega
    have hmk := Hmk.out (by omega)
    clear Hmk
    go_wp2_with fail
    refine (join_any (.slice A0 n0 c0) _ _ vs0 L0 w Hs.out.1 Hs.out.2.1 (fun k hk => hk) (fun k hk => hk) (by have := Hg.out; omega)).mono ?_
    rintro e w2 ⟨v2, rfl, hv2, hF2⟩
    have ec := run_conv (P := Try.prog) Try.underlying30 Try.underlying5 Try.underlying9 (hv2.apart (K2 := fun _ => False) (fun _ _ h => h))
    have hrel0 := make_start w w2 n0 L0 hF2
    change _ = Result.ok (Value.string (str L0.flatten)) _ at ec
    generalize hsA : str L0.flatten = sA at ec
    have HsA := Lib.hid hsA
    clear hsA hF2 hv2
    go_wp2_with fail
    clear ec hmk
    generalize hG : w2.heap.size = G at *
    have HG := Lib.hid hG
    clear hG
    go_loopw [7] (fun i wr => ∃ k : Nat, k ≤ n0 ∧ i = .int .i64 k ∧ MakeRel w G n0 L0 k wr) (fun i _ => n0 - (intOf i).toNat)
    case atStart => exact ⟨0, Nat.zero_le _, rfl, hrel0⟩
    case round =>
      clear hrel0
      obtain ⟨k, hk, rfl, cs, hb, hcs, hGw, hdone, hnil, hF⟩ := hrel
      by_cases hlt : k < n0
      · obtain ⟨g, o, rfl, hg, hcx⟩ := Hs.out.2.2.2.resolve_left (by omega)
        have hkv : k < vs0.length := by have := Hs.out.2.2.1; omega
        have hkL : k < L0.length := by have := Hs.out.2.1.1; omega
        have hc1 : wr.cell? ⟨g, o + k, none⟩ = some vs0[k] := hF.cell (hcx k hkv) id
        have hsl : Sl wr (fun k => k < w.heap.size) vs0[k] (bv (L0.getD k [])) := by
          have := Hs.out.2.1.2 k vs0[k] (L0.getD k []) (List.getElem?_eq_getElem hkv) (by simp [List.getD, hkL])
          exact this.kept fun x hx => hF.block x hx id
        have hl3 : (L0.getD k []).length ≤ 3000 := Nat.le_trans (len_tot L0 k) Hg.out.2
        have hnk := hnil k (Nat.le_refl _) hlt
        have hcG : wr.cell? ⟨G, k, none⟩ = some (.slice none 0 0) := (hb.cell k).trans hnk
        have hfG := hb.frozen k
        have hbl := hb.lt
        have hgl : g < wr.heap.size := Nat.lt_of_lt_of_le hg hF.size
        have Hh := Lib.hid (And.intro hdone (And.intro hnil (And.intro hF (And.intro hb (And.intro hnk (And.intro hsl hcx))))))
        clear hdone hnil hF hb hnk hcx
        generalize vs0[k] = u at *
        obtain ⟨A2, n2, c2, rfl, hn2, hc2, hm2, hx2⟩ := id hsl
        clear hn2 hx2
        have hslA : Sl (wr.alloc (.cells #[] 5)) (fun k => k < w.heap.size) (.slice A2 n2 c2) (bv (L0.getD k [])) := hsl.kept fun x hx => Below.heap_alloc _ _ _ (by omega)
        go_wp2_with (at_builtin; refine wpList_append_sl (by rfl) _ _ 30 (by rfl) wr.heap.size 5 iB (.int .u8 0) 1 Try.underlying30 hiB hzB0 hzB1 hzB2 (by rfl) _ 0 [] (by rfl) (own_new0 rfl (Nat.le_refl _)) (fun k => k < w.heap.size) _ _ (by rfl) hslA (bv_one _) (by unfold maxLen; rw [bv_length]; omega) (by rw [bv_length]; omega) (by simp) ?_; intro A1 N c1 w1 HN hNc hc1 hown hg1 hat; have hcG1 := (hg1.cell_far ⟨G, k, none⟩ (by simp; omega) (by intro e; have h : some G = some wr.heap.size := e; injection h; omega)).trans ((World.cell?_alloc_lt _ _ _ hbl).trans hcG); have hfG1 := (hg1.frozen_far ⟨G, k, none⟩ (by simp; omega) (by intro e; have h : some G = some wr.heap.size := e; injection h; omega)).trans ((World.frozen?_alloc_past _ _ _ hbl).trans hfG))
        go_roundw
        case rel => exact ⟨k + 1, by omega, by go_num, make_step Hh.out.2.2.2.1 hcs hGw Hh.out.1 Hh.out.2.1 Hh.out.2.2.1 hlt (by simpa using hown) hg1⟩
        case measure => simp [intOf]; omega
      · obtain rfl : k = n0 := by omega
        have hmine : MakeRel w G k L0 k wr := ⟨cs, hb, hcs, hGw, hdone, hnil, hF⟩
        have HF0 := Lib.hid hF
        clear hdone hnil hF hb
        obtain ⟨vs1, hsl, hea⟩ := hmine.sl (by have h1 := Hs.out.2.2.1; have h2 := Hs.out.2.1.1; omega) (by omega)
        have hok := hmine.ok (by have := Hg.out.2; omega)
        have Hm := Lib.hid (And.intro hsl (And.intro hea hok))
        clear hmine hsl hea hok
        go_wp2_with fail
        refine (new_any false (.slice (some ⟨G, 0, none⟩) k k) vs1 _ _ L0 wr Hm.out.1 Hm.out.2.1 (fun _ h => h) (fun _ h => h) (by have := Hg.out; omega) (by have := Hg.out; omega)).mono ?_
        rintro e w3 ⟨b, K, rfl, hS, hK, hF⟩
        have hrel1 : TurnRel w wr.heap.size G k K b L0 w3 := ⟨Hm.out.2.2.kept fun x _ hx => hF.block x hx id, hS, HF0.out.trans hF (fun _ h => h.elim)⟩
        have HK := Lib.hid hK
        clear hS hK hF
        have HKE : Hid (∀ x, K x → wr.heap.size ≤ x) := HK.out
        clear HK
        generalize hE : wr.heap.size = E at *
        have HE := Lib.hid (And.intro hE Hm.out)
        clear hE Hm
        go_wp2_with fail
        go_loopw [9] (fun i wt => ∃ j : Nat, j ≤ k ∧ i = .int .i64 j ∧ TurnRel w E G k K b L0 wt) (fun i _ => k - (intOf i).toNat)
        case atStart => exact ⟨0, Nat.zero_le _, rfl, hrel1⟩
        case round =>
          clear hrel1
          obtain ⟨j, hj, rfl, hrel⟩ := hrel
          by_cases hjk : j < k
          · have hrelO : ∃ A n c, TurnIn w E G k K b L0 j (.slice A n c) wr ∧ n ≤ 100000000 := by
              obtain ⟨⟨cs, hb, hs, hBG, hGE, hx⟩, hS, hF⟩ := hrel
              obtain ⟨u, hu, ho⟩ := hx j hjk
              obtain ⟨A, n, c, rfl, hn, _⟩ := id ho
              exact ⟨A, n, c, ⟨cs, hb, hs, hBG, hGE, hu, hx, hS, hF⟩, hn⟩
            obtain ⟨A1, n1, c1, hrelO, hn1⟩ := hrelO
            clear hrel
            go_wp2_with fail
            go_loopw [10] (fun i wt => ∃ q : Nat, q ≤ n1 ∧ i = .int .i64 q ∧ TurnIn w E G k K b L0 j (.slice A1 n1 c1) wt) (fun i _ => n1 - (intOf i).toNat)
            case atStart => exact ⟨0, Nat.zero_le _, rfl, hrelO⟩
            case round =>
              clear hrelO
              obtain ⟨q, hq, rfl, hrel⟩ := hrel
              by_cases hqn : q < n1
              · obtain ⟨cs, hb, hs, hBG, hGE, hj1, hx, hS, hF⟩ := id hrel
                obtain ⟨u, hu, ho⟩ := hx j hjk
                have : u = .slice A1 n1 c1 := Option.some.inj (hu.symm.trans hj1)
                subst this
                obtain ⟨_, _, _, hv, _, _, _, hrow⟩ := ho
                cases hv
                obtain ⟨g1, o1, cs1, rfl, hgB, hgE, hb1, hz⟩ := hrow.resolve_left (by omega)
                obtain ⟨z, hz⟩ := hz q hqn
                have hcG : wr.cell? ⟨G, j, none⟩ = some (.slice (some ⟨g1, o1, none⟩) n1 c1) := (hb.cell j).trans hj1
                have hcz : wr.cell? ⟨g1, o1 + q, none⟩ = some (.int .u8 z) := (hb1.cell _).trans hz
                have hfz := hb1.frozen (o1 + q)
                have hrelN := fun x : Int => turn_set (o := o1 + q) hrel hb1 hgB hgE HKE.out x
                have Hr := Lib.hid hrelN
                clear hb hs hj1 hx hS hF hu hz hb1 hrow hrelN hrel
                go_wp2_with fail
                go_region
                go_wp2_with fail
                go_roundw
                case rel => exact ⟨q + 1, by omega, by go_num, Hr.out _⟩
                case measure => simp [intOf]; omega
              · obtain rfl : q = n1 := by omega
                obtain ⟨cs, hb, hs, hBG, hGE, hj1, hx, hS, hF⟩ := id hrel
                have hcG : wr.cell? ⟨G, j, none⟩ = some (.slice A1 q c1) := (hb.cell j).trans hj1
                have hfG := hb.frozen j
                have hrelN := turn_nil hrel HKE.out
                clear hb hs hj1 hx hS hF hrel
                go_wp2_with fail
                go_roundw
                case rel => exact ⟨j + 1, by omega, by go_num, hrelN⟩
                case measure => simp [intOf]; omega
          · obtain rfl : j = k := by omega
            obtain ⟨_, hS, hF⟩ := hrel
            have hrel2 : AftRel w K b false L0 (pot L0 - 0) (.string (str [])) wr := ⟨L0, [], hS, rfl, rfl, by omega, hF⟩
            clear hS hF
            have hsz : sA.size ≤ 3000 := by rw [← HsA.out, str_size, tot_flat]; exact Hg.out.2
            have hpz : pot L0 = sA.size + j := by rw [← HsA.out, str_size, tot_flat]; have h1 := Hs.out.2.2.1; have h2 := Hs.out.2.1.1; unfold pot; omega
            have Hpz := Lib.hid hpz
            clear hpz
            generalize hsS : sA.size = sS at *
            go_upto_region 19 with fail
            go_cut [1] (fun m wc => wc = wr ∧ ∃ q : Int, 1 ≤ q ∧ q ≤ 5000 ∧ m = .int .i64 q)
            case first =>
              obtain ⟨hm1, hm2⟩ := hmr
              rcases (show most < 1 ∨ (1 ≤ most ∧ most ≤ 5000) ∨ 5000 < most by omega) with h5 | ⟨h5, h6⟩ | h5
              · go_wp2_with fail
                go_meet
                case rel => exact ⟨rfl, 1, by omega, by omega, rfl⟩
              · have h7 : ¬ most < 1 := by omega
                have h8 : ¬ 5000 < most := by omega
                go_wp2_with fail
                go_meet
                case rel => exact ⟨rfl, most, by omega, by omega, rfl⟩
              · have h7 : ¬ most < 1 := by omega
                go_wp2_with fail
                go_meet
                case rel => exact ⟨rfl, 5000, by omega, by omega, rfl⟩
            case rest =>
              obtain ⟨rfl, ask, hq1, hq2, rfl⟩ := hcut
              go_wp2_with fail
              go_loopw [11, 12] (fun t i wl => ∃ m : Nat, m ≤ sS + j ∧ i = .int .i64 m ∧ AftRel w K b false L0 (pot L0 - m) t wl) (fun _ i _ => sS + j - (intOf i).toNat)
              case atStart => exact ⟨0, Nat.zero_le _, rfl, hrel2⟩
              case round =>
                clear hrel2
                obtain ⟨m, hm, rfl, L1, T, hS, hT, rfl, hp, hF⟩ := hrel
                by_cases hmn : m < sS + j
                · have HF1 := Lib.hid (And.intro hF (And.intro hT hp))
                  have Hlt := Lib.hid hS.lt
                  have hsz1 : (str T).size ≤ 3000 := by have h2 := Hg.out.2; rw [← tot_flat, ← hT] at h2; simp at h2 ⊢; omega
                  clear hF hT hp
                  go_wp2_with fail
                  refine (next_any K b false T.length L1 ask wr hS).mono ?_
                  rintro e w4 ⟨va, rfl, hva, hS4, hF4⟩
                  have HF4 : Hid (Frm (fun _ => False) w w4) := HF1.out.1.trans hF4 (fun k hk => .inr (Nat.le_trans (by rw [← HE.out.1]; have := HF0.out.size; omega) (HKE.out k hk)))
                  have hva4 := hva.apart (K2 := fun _ => False) (fun _ _ h => h)
                  have ea := run_conv (P := Try.prog) Try.underlying30 Try.underlying5 Try.underlying9 hva4
                  change _ = Result.ok (Value.string (str (nextL L1 ask).1)) _ at ea
                  have hfl := next_flat L1 ask
                  have hpo := next_pot L1 ask hq1
                  have hsz2 : (str (nextL L1 ask).1).size ≤ 3000 := by
                    have h1 := HF1.out.2.1; have h2 := Hg.out.2
                    rw [← tot_flat, ← h1, ← hfl] at h2; simp at h2 ⊢; omega
                  have hro := RowOk.of_osl (B := wr.heap.size) (E := w4.heap.size) hva (by simp at hsz2; omega) (fun k h1 h2 => ⟨h1, h2⟩)
                  have HN := Lib.hid (And.intro hfl hpo)
                  have hrelO : Hid (RowOk w4 wr.heap.size w4.heap.size va ∧ SrcAt w4 K b (nextL L1 ask).2.2 false (T.length + (nextL L1 ask).1.length) ∧ Frm (fun _ => False) w w4) := ⟨hro, hS4, HF4.out⟩
                  obtain ⟨A2, n2, c2, rfl, hn2, _⟩ := hro
                  have hwz : w.heap.size ≤ wr.heap.size := HF1.out.1.size
                  clear hfl hpo hS4 hF4 hS hva hva4 HF4
                  generalize (nextL L1 ask).1 = ra at *
                  generalize (nextL L1 ask).2.1 = rb at *
                  generalize (nextL L1 ask).2.2 = L2 at *
                  go_wp2_with fail
                  clear ea
                  have hTra : str T ++ str ra = str (T ++ ra) := by
                    apply ByteArray.ext; apply Array.toList_inj.1
                    simp [str]
                  try rw [hTra]
                  generalize hsT : str (T ++ ra) = sT at *
                  have HsT := Lib.hid hsT
                  clear hsT hTra
                  generalize hB : wr.heap.size = B at *
                  have Hlt' : Hid (∀ x, K x → x < B) := hB ▸ Hlt.out
                  go_loopw [15] (fun i wv => ∃ q : Nat, q ≤ n2 ∧ i = .int .i64 q ∧ Hid (RowOk wv B w4.heap.size (.slice A2 n2 c2) ∧ SrcAt wv K b L2 false (T.length + ra.length) ∧ Frm (fun _ => False) w wv)) (fun i _ => n2 - (intOf i).toNat)
                  case atStart => exact ⟨0, Nat.zero_le _, rfl, hrelO⟩
                  case round =>
                    clear hrelO
                    obtain ⟨q, hq, rfl, hrel⟩ := hrel
                    by_cases hqn : q < n2
                    · obtain ⟨_, _, _, hv, _, _, _, hrow⟩ := hrel.out.1
                      cases hv
                      obtain ⟨g1, o1, cs1, rfl, hgB, hgE, hb1, hz⟩ := hrow.resolve_left (by omega)
                      obtain ⟨z, hz⟩ := hz q hqn
                      have hcz : wr.cell? ⟨g1, o1 + q, none⟩ = some (.int .u8 z) := (hb1.cell _).trans hz
                      have hfz := hb1.frozen (o1 + q)
                      have hrelN := fun x : Int => Lib.hid (And.intro (hrel.out.1.set_ g1 (o1 + q) x) (And.intro (hrel.out.2.1.kept (w' := wr.setCell ⟨g1, o1 + q, none⟩ (.int .u8 x)) (by simp) fun k hk => Below.heap_setCell _ _ _ _ (show k ≠ g1 by have := Hlt'.out k hk; omega)) (hrel.out.2.2.setCell ⟨g1, o1 + q, none⟩ (.inr (show w.heap.size ≤ g1 by omega)) (.int .u8 x))))
                      have Hr := Lib.hid hrelN
                      clear hz hb1 hrow hrelN hrel
                      go_wp2_with fail
                      go_roundw
                      case rel => exact ⟨q + 1, by omega, by go_num, Hr.out _⟩
                      case measure => simp [intOf]; omega
                    · obtain rfl : q = n2 := by omega
                      go_wp2_with fail
                      go_roundw
                      case rel =>
                        refine ⟨m + 1, by omega, by go_num, L2, T ++ ra, ?_, ?_, ?_, ?_, hrel.out.2.2⟩
                        · rw [List.length_append]; exact hrel.out.2.1
                        · rw [List.append_assoc, HN.out.1]; exact HF1.out.2.1
                        · rw [HsT.out]
                        · have h1 := HN.out.2; have h2 := HF1.out.2.2; omega
                      case measure => simp [intOf]; omega
                · obtain rfl : m = sS + j := by omega
                  have hL1 : L1 = [] := pot_nil (by have := Hpz.out; omega)
                  subst hL1
                  have hTs : str T = sA := by rw [← HsA.out, ← hT]; simp
                  have HF1 := Lib.hid hF
                  rw [hTs]
                  clear hS hT hp hF hTs
                  go_wp2_with fail
                  refine (wakes_any wr).mono ?_
                  rintro e w5 ⟨rfl, hF5⟩
                  go_wp2_with fail
                  go_ret
                  exact ⟨rfl, HF1.out.trans hF5 (fun _ h => h.elim)⟩
end Go.Proofs.Ytddhejgbidmmjaa
