/- The walk of teasellaw19.BlockOwn. -/
import Derived.Test.YtecpbnkkgdppoaaChunks
namespace Go.Proofs.Ytecpbnkkgdppoaa
open Go.RowKit
/-- Bytes in blocks of K, whatever they are. -/
def U8 (w : World) (K : Nat → Prop) (v : Value) : Prop := ∃ A n c, v = .slice A n c ∧ n ≤ 1000000 ∧ (n = 0 ∨ ∃ g o cs, A = some ⟨g, o, none⟩ ∧ K g ∧ Blk w g 5 cs ∧ ∀ i, i < n → ∃ x, cs[o + i]? = some (.int .u8 x))
theorem U8.of {w : World} {base : Nat} {v : Value} {l : List UInt8} {K : Nat → Prop} (h : w.ownsRow base 5 1 v l.length (bv l)) (hl : l.length ≤ 1000000) (hK : ∀ q, v.ownBlock = some q → K q) : U8 w K v := by
  obtain ⟨A, N, c, rfl, hn, _, _, hx⟩ := OSl.of_own (K := K) h hK
  rw [bv_length] at hn
  refine ⟨A, N, c, rfl, by omega, ?_⟩
  rcases hx with ⟨rfl, rfl⟩ | ⟨g, o, cs, rfl, hK, hb, _, hx⟩
  · exact .inl (by omega)
  · exact .inr ⟨g, o, cs, rfl, hK, hb, fun i hi => ⟨_, by rw [hx i (by rw [bv_length]; omega)]; simp [bv]; rfl⟩⟩
theorem U8.set {w : World} {K : Nat → Prop} {v : Value} {g : Nat} {cs : Array Value} (h : U8 w K v) (hb : Blk w g 5 cs) (j : Nat) (x : Int) : U8 (w.setCell ⟨g, j, none⟩ (.int .u8 x)) K v := by
  obtain ⟨A, n, c, rfl, hn, hx⟩ := h
  refine ⟨A, n, c, rfl, hn, hx.imp id ?_⟩
  rintro ⟨g', o, cs', rfl, hK, hb', hc⟩
  by_cases e : g' = g
  · subst e
    refine ⟨g', o, _, rfl, hK, hb'.set_ j _, fun i hi => ?_⟩
    obtain ⟨y, hy⟩ := hc i hi
    rw [Array.getElem?_setIfInBounds]
    split
    · obtain ⟨h1, _⟩ := Array.getElem?_eq_some_iff.1 hy
      exact ⟨x, by rw [if_pos (by omega)]⟩
    · exact ⟨y, hy⟩
  · exact ⟨g', o, cs', rfl, hK, hb'.far e _, hc⟩
theorem U8.kept {w w' : World} {K K2 : Nat → Prop} {v : Value} (h : U8 w K v) (hF : Frm K2 w w') (hd : ∀ q, K q → q < w.heap.size → ¬ K2 q) : U8 w' K v := by
  obtain ⟨A, n, c, rfl, hn, hx⟩ := h
  refine ⟨A, n, c, rfl, hn, hx.imp id ?_⟩
  rintro ⟨g, o, cs, rfl, hK, hb, hc⟩
  exact ⟨g, o, cs, rfl, hK, hb.kept hF (hd g hK hb.lt), hc⟩
/-- A row of blocks of one's own, whatever their bytes are. -/
def MR (w : World) (nb : Nat) (X : Nat → Prop) (v : Value) (ys : List Bk) : Prop := w.ownsRow nb 40 4 v ys.length (WB.cellsOf ys) ∧ ∀ y ∈ ys, U8 w (fun q => nb ≤ q ∧ ¬ X q) y.v
theorem MR.set {w : World} {nb g : Nat} {X : Nat → Prop} {v : Value} {ys : List Bk} {cs : Array Value} (h : MR w nb X v ys) (hb : Blk w g 5 cs) (j : Nat) (x : Int) : MR (w.setCell ⟨g, j, none⟩ (.int .u8 x)) nb X v ys :=
  ⟨((Frm.refl (fun q => q = g) w).setCell ⟨g, j, none⟩ (.inl rfl) _).own h.1 (fun q hq hk => own_blk_ne h.1 hb (by decide) (by rw [hq, hk])), fun y hy => (h.2 y hy).set hb j x⟩
theorem MR.kept {w w' : World} {nb : Nat} {X K : Nat → Prop} {v : Value} {ys : List Bk} (h : MR w nb X v ys) (hF : Frm K w w') (hK : ∀ q, K q → q < nb ∨ w.heap.size ≤ q) : MR w' nb X v ys := by
  refine ⟨hF.own h.1 fun q hq hk => ?_, fun y hy => (h.2 y hy).kept hF fun q hq hl hk => ?_⟩
  · have := World.ownsRow.lt h.1 q hq
    rcases hK q hk with h | h <;> omega
  · rcases hK q hk with h | h
    · have := hq.1; omega
    · omega
theorem MR.at {w : World} {nb m c : Nat} {X : Nat → Prop} {A : Option Addr} {ys : List Bk} (h : MR w nb X (.slice A m c) ys) (i : Nat) (hi : i < m) :
    ∃ g o A' n' c', A = some ⟨g, o, none⟩ ∧ w.cell? ⟨g, o + i * 4 + 3, none⟩ = some (.slice A' n' c') ∧ n' ≤ 1000000 ∧ (n' = 0 ∨ ∃ g' o' cs, A' = some ⟨g', o', none⟩ ∧ (nb ≤ g' ∧ ¬ X g') ∧ Blk w g' 5 cs ∧ ∀ i, i < n' → ∃ x, cs[o' + i]? = some (.int .u8 x)) := by
  have hm : m = ys.length := by
    obtain ⟨A', c', e, -, -⟩ := own_form h.1
    cases e; rfl
  have hl := cellsb_len ys
  obtain ⟨h0, h1, h2, h3⟩ := cells_bk ys i (by omega)
  have ho := h.1
  rw [hm] at ho
  obtain ⟨g, rfl, c3⟩ := own_at ho (i * 4 + 3) (by omega)
  rw [← List.getElem?_eq_getElem, h3] at c3
  obtain ⟨A', n', c', hv, hn, hx⟩ := h.2 ys[i] (List.getElem_mem (by omega))
  rw [hv] at c3
  exact ⟨g, 0, A', n', c', rfl, by rw [Nat.zero_add]; exact c3, hn, hx⟩
theorem MR.of {w : World} {nb : Nat} {X : Nat → Prop} {v : Value} {ys : List Bk} (h : w.ownsRow nb 40 4 v ys.length (WB.cellsOf ys)) (hg : ∀ y ∈ ys, kGood nb y w ∧ ∀ q, y.v.ownBlock = some q → ¬ X q) (hl : ∀ y ∈ ys, y.c.data.length ≤ 1000000) : MR w nb X v ys :=
  ⟨h, fun y hy => U8.of (hg y hy).1 (hl y hy) fun q hq => ⟨(World.ownsRow.lt (hg y hy).1 q hq).1, (hg y hy).2 q hq⟩⟩
theorem blk_len (S L F : Nat) (t : List UInt8) (n : Nat) : (blkN S L F t n).data.length ≤ t.length := by
  show (dataN S L t n).length ≤ _
  unfold dataN
  rw [List.length_drop, List.length_take]
  omega
theorem blocks_len (S L F : Nat) (t : List UInt8) (ys : List Bk) (h : ys.map (·.c) = blocksN S L F t) : ∀ y ∈ ys, y.c.data.length ≤ t.length := fun y hy => by
  have h1 : y.c ∈ blocksN S L F t := by rw [← h]; exact List.mem_map_of_mem hy
  obtain ⟨k, -, h2⟩ := List.mem_map.1 h1
  rw [← h2]; exact blk_len S L F t k
theorem news_dlen (S L F : Nat) (u t : List UInt8) (ys : List Bk) (h : ys.map (·.c) = newsN S L F u t) : ∀ y ∈ ys, y.c.data.length ≤ t.length := fun y hy => by
  have h1 : y.c ∈ newsN S L F u t := by rw [← h]; exact List.mem_map_of_mem hy
  obtain ⟨k, -, h2⟩ := List.mem_map.1 h1
  rw [← h2]; exact blk_len S L F t k
/-- What Of tells, with its rows. -/
theorem of_rows (S L F : Nat) (t : List UInt8) (A : Option Addr) (m c : Nat) (w : World) (hC : Cut S L F) (hsl : Sl w (fun q => q < w.heap.size) (.slice A m c) (bv t)) (ht : t.length ≤ 1000000) :
    Calls Try.prog 11 #[.int .i64 S, .int .i64 L, .int .i64 F, .slice A m c] w fun e w' => ∃ A' c' ys, e = .returned (.tuple #[.slice A' ys.length c', .int .i64 0]) ∧ ys.map (·.c) = blocksN S L F t ∧ BsAt w' (fun q => w.heap.size ≤ q ∧ q < w'.heap.size) A' ys.length c' ys ∧ MR w' w.heap.size (fun _ => False) (.slice A' ys.length c') ys ∧ Frm (fun _ => False) w w' := by
  refine (of_any S L F t A m c w hsl ht).mono fun e w' h => ?_
  unfold OfRes at h
  rw [if_pos hC.may] at h
  obtain ⟨v, rfl, ys, h1, h2, h3, h4⟩ := h
  obtain ⟨A', c', rfl, h5⟩ := BsAt.of_own (K := fun q => w.heap.size ≤ q ∧ q < w'.heap.size) h2 h3 fun q a b => ⟨a, b⟩
  simp only [Int.toNat_natCast] at h1
  exact ⟨A', c', ys, rfl, h1, h5, MR.of h2 (fun y hy => ⟨h3 y hy, fun q _ => id⟩) (fun y hy => Nat.le_trans (blocks_len S L F t ys h1 y hy) ht), h4⟩
/-- A row of bytes of the walk's own, whatever is in it. -/
def Mine (w : World) (lo hi : Nat) (A : Option Addr) (N : Nat) : Prop := N = 0 ∨ ∃ g o cs, A = some ⟨g, o, none⟩ ∧ (lo ≤ g ∧ g < hi) ∧ Blk w g 5 cs ∧ ∀ i, i < N → ∃ x, cs[o + i]? = some (.int .u8 x)
theorem Mine.of {w : World} {lo hi N c : Nat} {A : Option Addr} {xs : List UInt8} (h : OSl w (fun k => lo ≤ k ∧ k < hi) 5 (.slice A N c) (bv xs)) : Mine w lo hi A N := by
  obtain ⟨A', N', c', he, hn, _, _, hx⟩ := h
  cases he
  rcases hx with ⟨rfl, rfl⟩ | ⟨g, o, cs, rfl, hK, hb, _, hx⟩
  · exact .inl (by omega)
  · exact .inr ⟨g, o, cs, rfl, hK, hb, fun i hi => ⟨_, by rw [hx i (by omega)]; simp [bv]; rfl⟩⟩
theorem Mine.set_ {w : World} {lo hi N g o : Nat} (h : Mine w lo hi (some ⟨g, o, none⟩) N) (hN : N ≠ 0) (i : Nat) (x : Int) : Mine (w.setCell ⟨g, o + i, none⟩ (.int .u8 x)) lo hi (some ⟨g, o, none⟩) N := by
  obtain ⟨g', o', cs, hA, hB, hb, hc⟩ := h.resolve_left hN
  cases hA
  refine .inr ⟨g, o, _, rfl, hB, hb.set_ _ _, fun j hj => ?_⟩
  obtain ⟨y, hy⟩ := hc j hj
  rw [Array.getElem?_setIfInBounds]
  split
  · obtain ⟨h1, _⟩ := Array.getElem?_eq_some_iff.1 hy
    exact ⟨x, by rw [if_pos (by omega)]⟩
  · exact ⟨y, hy⟩
theorem Mine.kept {w w' : World} {lo hi N : Nat} {A : Option Addr} {K : Nat → Prop} (h : Mine w lo hi A N) (hF : Frm K w w') (hK : ∀ q, K q → ¬ (lo ≤ q ∧ q < hi)) : Mine w' lo hi A N := by
  refine h.imp id ?_
  rintro ⟨g, o, cs, rfl, hB, hb, hc⟩
  exact ⟨g, o, cs, rfl, hB, hb.kept hF fun hk => hK g hk hB, hc⟩
set_option maxRecDepth 100000 in
set_option maxHeartbeats 8000000 in
theorem bown_any (s l f : Int) (A : Option Addr) (n c : Nat) (t : List UInt8) (w : World) (h : Sl w (fun k => k < w.heap.size) (.slice A n c) (bv t)) :
    Calls Try.prog 7 #[.int .i64 s, .int .i64 l, .int .i64 f, .slice A n c] w fun e w' => e = .returned (.bool true) ∧ Frm (fun _ => False) w w' := by
  have hbd : n = t.length ∧ n ≤ c ∧ c ≤ 9223372036854775807 := by
    obtain ⟨A', n', c', he, hn, hc, hm, _⟩ := h
    cases he
    rw [bv_length] at hn
    exact ⟨hn, hc, hm⟩
  obtain ⟨hn, hnc, hcm⟩ := hbd
  have Hm := Lib.hid (fun w => may_any s l f w)
  cases hm : mayB s l f with
  | false =>
    rw [hm] at Hm
    clear h hn
    go_enter Try.func7, Try.ntmps7
    go_wp2_with fail
    refine (Hm.out w).mono ?_
    rintro e w' ⟨rfl, rfl⟩
    go_wp2_with fail
    refine (wakes_any w).mono ?_
    rintro e w' ⟨rfl, hF⟩
    go_wp2_with fail
    go_ret
    exact ⟨rfl, hF⟩
  | true =>
    rw [hm] at Hm
    by_cases h600 : (600 : Int) < (n : Int)
    · clear h hn hm
      go_enter Try.func7, Try.ntmps7
      go_wp2_with fail
      refine (Hm.out w).mono ?_
      rintro e w' ⟨rfl, rfl⟩
      go_wp2_with fail
      refine (wakes_any w).mono ?_
      rintro e w' ⟨rfl, hF⟩
      go_wp2_with fail
      go_ret
      exact ⟨rfl, hF⟩
    · obtain ⟨S, L, F, rfl, rfl, rfl, hC⟩ := mayB_cut hm
      obtain ⟨i0, hi, hz0, hz1, hz2⟩ := info_parts infoU
      have hn6 : n ≤ 600 := by omega
      have g1 : decide ((600 : Int) < n) = false := by simpa using h600
      have e0 := conv_new h
      have hcv := fun (W : World) (hW : Frm (fun _ => False) w W) => conv_new (w := W) (h.kept fun q hq => hW.block q hq id)
      have H := Lib.hid (And.intro h (And.intro hn (And.intro hC hcv)))
      clear h hn hC hm h600 hcv
      go_enter Try.func7, Try.ntmps7
      go_wp2_with fail
      refine (Hm.out w).mono ?_
      rintro e w' ⟨rfl, rfl⟩
      clear Hm
      go_wp2_with (at_builtin; refine wpList_append_sl (by rfl) _ _ 22 (by rfl) w.heap.size 5 i0 (.int .u8 0) 1 Try.underlying22 hi hz0 hz1 hz2 (by rfl) _ 0 [] (by rfl) (own_new0 rfl (Nat.le_refl _)) (fun k => k < w.heap.size) _ (bv t) (by rfl) (by exact H.out.1.keptTo fun k hk => ⟨((Frm.refl (fun _ => False) w).alloc _).block k hk id, hk⟩) (bv_one t) (by unfold maxLen; rw [bv_length]; have := H.out.2.1; omega) (by rw [bv_length]; have := H.out.2.1; omega) (by simp) ?_; intro A3 N3 c3 w3 HN3 hNc3 hc3 hown3 hg3 hat3)
      have hF3 : Frm (fun _ => False) w w3 := ((Frm.refl _ w).alloc _).grown hg3 (fun k hk => Or.inr (by have h : some w.heap.size = some k := hk; injection h; omega))
      have hN3 : N3 = n := by have := HN3.out; have := H.out.2.1; simp at *; omega
      subst hN3
      have hO3 : OSl w3 (fun k => w.heap.size ≤ k ∧ k < w3.heap.size) 5 (.slice A3 N3 c3) (bv t) := OSl.of_own (by simpa using hown3) (fun g hg => hown3.lt g hg)
      have hof := of_rows S L F t A N3 c w3 H.out.2.2.1 (H.out.1.keptTo fun q hq => ⟨hF3.block q hq id, Nat.lt_of_lt_of_le hq hF3.size⟩) (by have := H.out.2.1; omega)
      have H3 := Lib.hid (And.intro hO3 (And.intro hF3 hof))
      clear hown3 hg3 hat3 hF3 HN3 hO3 hof
      go_wp2_with fail
      refine H3.out.2.2.mono ?_
      rintro e w4 ⟨A4, c4, ys, rfl, hys, hat4, hM4, hF4⟩
      obtain ⟨Y, hY⟩ : ∃ Y, Y = ys.length := ⟨_, rfl⟩
      have hYn : Y = numN S t := by rw [hY]; have := congrArg List.length hys; simpa [blocksN] using this
      have hY6 : Y ≤ 600 := by rw [hYn]; have := num_le S t H.out.2.2.1.s1; have := H.out.2.1; omega
      rw [← hY] at hat4 hM4 ⊢
      have H4 := Lib.hid (And.intro hys (And.intro hat4 (And.intro hM4 (And.intro hF4 hYn))))
      clear hys hat4 hM4 hF4 hYn hY
      go_wp2_with fail
      refine (new_eq S L F w4 H.out.2.2.1).mono ?_
      rintro e w5 ⟨b, rfl, hb, hc5, hF5⟩
      have H5 := Lib.hid (And.intro hb (And.intro hc5 hF5))
      clear hb hc5 hF5
      go_wp2_with fail
      have hbl := H5.out.2.1.lt.1
      have hF6 : Frm (fun _ => False) w5 (w5.alloc (.cells #[.slice A3 N3 c3] 22)) := (Frm.refl _ w5).alloc _
      have hz6 : (w5.alloc (.cells #[.slice A3 N3 c3] 22)).heap.size = w5.heap.size + 1 := by simp
      have hF36 : Frm (fun _ => False) w3 (w5.alloc (.cells #[.slice A3 N3 c3] 22)) := (H4.out.2.2.2.1.trans H5.out.2.2 fun _ h => h.elim).trans hF6 fun _ h => h.elim
      have hF46 : Frm (fun _ => False) w4 (w5.alloc (.cells #[.slice A3 N3 c3] 22)) := H5.out.2.2.trans hF6 fun _ h => h.elim
      have hsl6 : Sl (w5.alloc (.cells #[.slice A3 N3 c3] 22)) (fun q => w.heap.size ≤ q ∧ q < w3.heap.size ∨ q = w5.heap.size) (.slice (some ⟨w5.heap.size, 0, none⟩) 1 1) [.slice A3 N3 c3] := (Sl.blk1 w5 _ _).mono fun q hq => .inr hq
      generalize hw6 : w5.alloc (.cells #[.slice A3 N3 c3] 22) = w6 at *
      have hO6 : OSl w6 (fun k => w.heap.size ≤ k ∧ k < w3.heap.size) 5 (.slice A3 N3 c3) (bv t) := H3.out.1.kept fun q hq => ⟨hF36.block q hq.2 id, hq⟩
      have hsz : w3.heap.size ≤ w4.heap.size := H4.out.2.2.2.1.size
      have hb4 : w4.heap.size ≤ b := H5.out.1
      have hco : CSt w6 (b + 1) b S L F (([] : List UInt8).length / S) (.slice none 0 0) (heldN S L []) := (cst0 H5.out.2.1).keptF hF6
      have hfd := feed_any (b + 1) b S L F [] (.slice none 0 0) (some ⟨w5.heap.size, 0, none⟩) 1 1 [.slice A3 N3 c3] [t] (fun q => w.heap.size ≤ q ∧ q < w3.heap.size ∨ q = w5.heap.size) w6 H.out.2.2.1 hco hsl6
        ⟨rfl, fun i v l hv hl => by
          cases i with
          | zero => simp at hv hl; subst hv hl; exact hO6.sl.mono fun q hq => .inl hq.1
          | succ i => simp at hv⟩ (fun q hq => ⟨by omega, by
            rintro (h | h)
            · omega
            · cases h⟩) (by have := H.out.2.1; simp; omega)
      simp only [List.nil_append, List.flatten_cons, List.flatten_nil, List.append_nil] at hfd
      have H6 := Lib.hid (And.intro hfd (And.intro hO6 (And.intro hF46 (And.intro hz6 hbl))))
      clear hfd hO6 hF6 hF36 hF46 hsl6 hco hz6 hbl hw6 hsz hb4
      refine H6.out.1.mono ?_
      rintro e w7 ⟨v7, ms, rfl, hm7, ho7, hg7, ⟨vc, hc7, hV⟩, hF7⟩
      obtain ⟨A7, c7, rfl, -, -⟩ := own_form ho7
      have hF7' : Frm (fun q => q = b) w6 w7 := hF7.mono fun q hq => hq.elim .inl fun h => by cases h
      have hV7 : ∀ q, vc.ownBlock = some q → w6.heap.size ≤ q := fun q hq => (hV q hq).elim (fun h => by cases h) id
      have hM7 : MR w7 w6.heap.size (fun q => vc.ownBlock = some q) (.slice A7 ms.length c7) ms := MR.of ho7 (fun y hy => ⟨(hg7 y hy).1, fun q hq hx => (hg7 y hy).2 q hq (hc7.row.2 hx)⟩) fun y hy => Nat.le_trans (news_dlen S L F [] t ms hm7 y hy) (by have := H.out.2.1; omega)
      have hMi : Mine w7 w.heap.size w3.heap.size A3 N3 := (Mine.of H6.out.2.1).kept hF7' fun q hq hk => by have := H5.out.1; have := H4.out.2.2.2.1.size; omega
      have hF47 : Frm (fun _ => False) w4 w7 := H6.out.2.2.1.trans hF7' fun q hq => .inr (by have := H5.out.1; omega)
      obtain ⟨Nm, hNm⟩ : ∃ Nm, Nm = ms.length := ⟨_, rfl⟩
      have hNmn : Nm = t.length / S := by rw [hNm]; have := congrArg List.length hm7; rwa [List.length_map, news_len] at this
      rw [← hNm] at hM7 ⊢
      have hNm6 : Nm ≤ 600 := by have := Nat.div_le_self t.length S; have := H.out.2.1; omega
      have hlo : w.heap.size ≤ w3.heap.size ∧ w3.heap.size ≤ w4.heap.size ∧ w4.heap.size ≤ b ∧ b < w6.heap.size ∧ w4.heap.size ≤ w6.heap.size := ⟨H3.out.2.1.size, H4.out.2.2.2.1.size, H5.out.1, by have := H6.out.2.2.2; omega, H6.out.2.2.1.size⟩
      have HM := Lib.hid hMi
      have H7 := Lib.hid (And.intro hM7 (And.intro hc7 (And.intro hV7 (And.intro hF47 (And.intro hNmn hlo)))))
      have HF34 := Lib.hid (And.intro H3.out.2.1 H4.out.2.2.2.1)
      have hMl := Lib.hid H4.out.2.2.1
      have hBl := Lib.hid (And.intro H4.out.1 (And.intro H4.out.2.1 H4.out.2.2.2.2))
      clear hM7 hc7 hV hV7 hF47 hF7 hF7' ho7 hg7 hm7 hMi hNm hNmn H6 H5 H4 H3 hlo
      generalize hlo : w.heap.size = lo at *
      generalize hhi : w3.heap.size = hi' at *
      generalize hnf : w6.heap.size = nbF at *
      have HE := Lib.hid (And.intro hlo (And.intro hhi hnf))
      clear hlo hhi hnf
      go_wp2_with fail
      go_loopw [16] (fun i wr => ∃ k : Nat, k ≤ N3 ∧ i = .int .i64 k ∧ Hid (Mine wr lo hi' A3 N3 ∧ Frm (fun k => lo ≤ k ∧ k < hi') w7 wr)) (fun i _ => N3 - (intOf i).toNat)
      case atStart => exact ⟨0, Nat.zero_le _, rfl, Lib.hid ⟨HM.out, Frm.refl _ _⟩⟩
      case round =>
        clear HM
        obtain ⟨k, hk, rfl, hrel⟩ := hrel
        by_cases hlt : k < N3
        · obtain ⟨ga, o, cs, rfl, hga, hb, hcs⟩ := hrel.out.1.resolve_left (by omega)
          obtain ⟨x, hx⟩ := hcs k hlt
          have c0 : wr.cell? ⟨ga, o + k, none⟩ = some (.int .u8 x) := (hb.cell _).trans hx
          have f0 : wr.frozen? ⟨ga, o + k, none⟩ = false := hb.frozen _
          clear hb hcs hx
          go_wp2_with fail
          go_roundw
          case rel => exact ⟨k + 1, by omega, by go_num, Lib.hid ⟨hrel.out.1.set_ (by omega) k _, hrel.out.2.setCell ⟨ga, o + k, none⟩ (.inl hga) _⟩⟩
          case measure => simp [intOf]; omega
        · obtain rfl : N3 = k := by omega
          have hM8 : MR wr nbF (fun q => vc.ownBlock = some q) (.slice A7 Nm c7) ms := H7.out.1.kept hrel.out.2 fun q hq => .inl (by have := H7.out.2.2.2.2.2; omega)
          have hc8 : CSt wr (b + 1) b S L F (t.length / S) vc (heldN S L t) := H7.out.2.1.kept hrel.out.2 (fun hk => by have := H7.out.2.2.2.2.2; omega) fun q hq hk => by have := H7.out.2.2.2.2.2; have := H7.out.2.2.1 q hq; omega
          have H8 := Lib.hid (And.intro hM8 (And.intro hc8 ((H7.out.2.2.2.1.mono (K' := fun k => lo ≤ k ∧ k < hi') fun _ h => h.elim).trans' hrel.out.2)))
          clear hM8 hc8 hrel hlt hk
          generalize wr = w8 at *
          go_wp2_with fail
          go_loopw [17] (fun i wr => ∃ k : Nat, k ≤ Nm ∧ i = .int .i64 k ∧ Hid (MR wr nbF (fun q => vc.ownBlock = some q) (.slice A7 Nm c7) ms ∧ Frm (fun q => nbF ≤ q ∧ ¬ (fun q => vc.ownBlock = some q) q) w8 wr)) (fun i _ => Nm - (intOf i).toNat)
          case atStart => exact ⟨0, Nat.zero_le _, rfl, Lib.hid ⟨H8.out.1, Frm.refl _ _⟩⟩
          case round =>
            obtain ⟨k, hk, rfl, hrel⟩ := hrel
            by_cases hlt : k < Nm
            · obtain ⟨gh, oh, Ab, nn, cb, hAe, hcell, hnn, -⟩ := hrel.out.1.at k hlt
              subst hAe
              have HR := Lib.hid (And.intro hrel.out.1 (And.intro hrel.out.2 hcell))
              clear hrel
              go_wp2_with fail
              go_loopw [18] (fun j wq => ∃ i : Nat, i ≤ nn ∧ j = .int .i64 i ∧ Hid (MR wq nbF (fun q => vc.ownBlock = some q) (.slice (some ⟨gh, oh, none⟩) Nm c7) ms ∧ Frm (fun q => nbF ≤ q ∧ ¬ (fun q => vc.ownBlock = some q) q) w8 wq ∧ wq.cell? ⟨gh, oh + k * 4 + 3, none⟩ = some (.slice Ab nn cb))) (fun j _ => nn - (intOf j).toNat)
              case atStart => exact ⟨0, Nat.zero_le _, rfl, Lib.hid ⟨HR.out.1, HR.out.2.1, HR.out.2.2⟩⟩
              case round =>
                clear HR hcell
                obtain ⟨i, hi', rfl, hrel⟩ := hrel
                have hcell := hrel.out.2.2
                by_cases hlt2 : i < nn
                · obtain ⟨g2, o2, A2', n2', c2', e2, hcell2, -, hx2⟩ := hrel.out.1.at k hlt
                  cases e2
                  rw [hcell] at hcell2
                  cases hcell2
                  obtain ⟨gd, od, cs, rfl, hKd, hbd, hcs⟩ := hx2.resolve_left (by omega)
                  obtain ⟨x, hx⟩ := hcs i hlt2
                  have c0 : wr.cell? ⟨gd, od + i, none⟩ = some (.int .u8 x) := (hbd.cell _).trans hx
                  have f0 : wr.frozen? ⟨gd, od + i, none⟩ = false := hbd.frozen _
                  have hne : gh ≠ gd := fun e => own_blk_ne hrel.out.1.1 hbd (by decide) (by rw [← e]; rfl)
                  have HS := Lib.hid (And.intro hbd (And.intro hKd (And.intro hne hcell)))
                  clear hbd hcs hx hx2 hKd hne
                  go_upto_region 20 with fail
                  refine plan_begin (by kernel_rfl) 17 (by kernel_rfl) ?_
                  go_plan_still 17, 0, 16, 1
                  go_plan_seq 17, 16, 1, 0
                  intro K hK
                  go_wp2_with fail
                  refine plan_end 17 (by kernel_rfl) ?_
                  go_wp2_with fail
                  go_roundw
                  case rel => exact ⟨i + 1, by omega, by go_num, Lib.hid ⟨(show MR wr.drew _ _ _ _ from hrel.out.1).set HS.out.1 (od + i) _, hrel.out.2.1.drew.setCell ⟨gd, od + i, none⟩ (.inl HS.out.2.1) _, cell_far (w := wr.drew) HS.out.2.2.2 HS.out.2.2.1⟩⟩
                  case measure => simp [intOf]; omega
                · obtain rfl : i = nn := by omega
                  go_wp2_with fail
                  go_roundw
                  case rel => exact ⟨k + 1, by omega, by go_num, Lib.hid ⟨hrel.out.1, hrel.out.2.1⟩⟩
                  case measure => simp [intOf]; omega
            · obtain rfl : Nm = k := by omega
              have hc9 : CSt wr (b + 1) b S L F (t.length / S) vc (heldN S L t) := H8.out.2.1.kept hrel.out.2 (fun hk => by have := hk.1; have := H7.out.2.2.2.2.2; omega) fun q hq hk => hk.2 hq
              have hF49 : Frm (fun q => lo ≤ q ∧ q < hi') w4 wr := H8.out.2.2.trans hrel.out.2 fun q hq => .inr (by have := hq.1; have := H7.out.2.2.2.2.2; omega)
              have hcl := close_eq (b + 1) b S L F t (lastN S L F t) wr H.out.2.2.1 ⟨vc, hc9⟩ (by have := H.out.2.1; omega) rfl
              have H9 := Lib.hid (And.intro hcl hF49)
              clear hcl hF49 hc9 hrel H8 hlt hk
              generalize wr = w9 at *
              go_wp2_with fail
              refine H9.out.1.mono ?_
              rintro e w10 ⟨Az, cz, zs, rfl, hz, hzb, -, hF10⟩
              obtain ⟨Nz, hNz⟩ : ∃ Nz, Nz = zs.length := ⟨_, rfl⟩
              rw [← hNz] at hzb ⊢
              have hnl := news_all S L F t H.out.2.2.1.s1
              have hYz : Y = Nm + Nz := by
                have h1 := congrArg List.length hnl
                rw [List.length_append, news_len] at h1
                have h2 := congrArg List.length hz
                rw [List.length_map] at h2
                have h3 := congrArg List.length hBl.out.1
                rw [List.length_map] at h3
                have h4 := hBl.out.2.1.1
                have h5 := H7.out.2.2.2.2.1
                omega
              have hFl : Frm (fun q => lo ≤ q ∧ q < hi') w4 w10 := H9.out.2.trans hF10 fun q hq => .inr (by have := H7.out.2.2.2.2.2; omega)
              have hl10 : BsAt w10 (fun q => q < w10.heap.size) A4 Y c4 ys := hBl.out.2.1.keptTo fun q hq => ⟨hFl.block q hq.2 fun hk => by have := HE.out.2.1; omega, Nat.lt_of_lt_of_le hq.2 hFl.size⟩
              have hMl10 : MR w10 hi' (fun _ => False) (.slice A4 Y c4) ys := hMl.out.kept hFl fun q hq => .inl hq.2
              have hld := hl10.drop Nm (by omega)
              have hdr := run_drop (P := Try.prog) (t := 24) Try.underlying24 sizeB A4 Y c4 (Nm : Int) (by omega) (by omega)
              rw [Int.toNat_natCast] at hdr
              obtain ⟨A6, hA6⟩ : ∃ A6, A6 = if c4 = Nm then A4 else A4.map (·.add (Nm * 4)) := ⟨_, rfl⟩
              rw [← hA6] at hdr hld
              have hall := all_true (fun q => q < w10.heap.size) Az A6 Nz cz (Y - Nm) (c4 - Nm) zs (ys.drop Nm) w10 (hzb.keptTo fun q hq => ⟨rfl, hq.2⟩) hld (fun q h => h) (by
                rw [hz, List.map_drop, hBl.out.1, ← hnl, List.drop_append_of_le_length (by rw [news_len]; have := H7.out.2.2.2.2.1; omega), List.drop_of_length_le (by rw [news_len]; have := H7.out.2.2.2.2.1; omega), List.nil_append])
              have x1 : IntKind.i64.wrap ((Nm : Int) + (Nz : Int)) = (Nm : Int) + (Nz : Int) := IntWalk.i64_in _ (by omega)
              have x2 : ((Y : Int) != (Nm : Int) + (Nz : Int)) = false := by simp; omega
              have H10 := Lib.hid (And.intro hall (And.intro hMl10 hFl))
              clear hall hMl10 hFl hld hl10 hA6 hYz hnl hz hzb hNz hF10 H9 hMl hBl
              go_wp2_with fail
              refine H10.out.1.mono ?_
              rintro e w11 ⟨rfl, hF11⟩
              have hMl11 : MR w11 hi' (fun _ => False) (.slice A4 Y c4) ys := H10.out.2.1.kept hF11 fun q hq => hq.elim
              have hFl11 : Frm (fun _ => False) w w11 := ((HF34.out.1.trans HF34.out.2 fun _ h => h.elim).trans H10.out.2.2 fun q hq => .inr (by have := HE.out.1; omega)).trans hF11 fun _ h => h.elim
              have H11 := Lib.hid (And.intro hMl11 hFl11)
              clear hMl11 hFl11 hF11 hdr x1 x2 H10
              go_wp2_with fail
              go_loopw [20] (fun i wr => ∃ k : Nat, k ≤ Y ∧ i = .int .i64 k ∧ Hid (MR wr hi' (fun _ => False) (.slice A4 Y c4) ys ∧ Frm (fun q => hi' ≤ q ∧ ¬ (fun _ => False) q) w11 wr)) (fun i _ => Y - (intOf i).toNat)
              case atStart => exact ⟨0, Nat.zero_le _, rfl, Lib.hid ⟨H11.out.1, Frm.refl _ _⟩⟩
              case round =>
                obtain ⟨k, hk, rfl, hrel⟩ := hrel
                by_cases hlt : k < Y
                · obtain ⟨gh, oh, Ab, nn, cb, hAe, hcell, hnn, -⟩ := hrel.out.1.at k hlt
                  subst hAe
                  have HR := Lib.hid (And.intro hrel.out.1 (And.intro hrel.out.2 hcell))
                  clear hrel
                  go_wp2_with fail
                  go_loopw [21] (fun j wq => ∃ i : Nat, i ≤ nn ∧ j = .int .i64 i ∧ Hid (MR wq hi' (fun _ => False) (.slice (some ⟨gh, oh, none⟩) Y c4) ys ∧ Frm (fun q => hi' ≤ q ∧ ¬ (fun _ => False) q) w11 wq ∧ wq.cell? ⟨gh, oh + k * 4 + 3, none⟩ = some (.slice Ab nn cb))) (fun j _ => nn - (intOf j).toNat)
                  case atStart => exact ⟨0, Nat.zero_le _, rfl, Lib.hid ⟨HR.out.1, HR.out.2.1, HR.out.2.2⟩⟩
                  case round =>
                    clear HR hcell
                    obtain ⟨i, hi', rfl, hrel⟩ := hrel
                    have hcell := hrel.out.2.2
                    by_cases hlt2 : i < nn
                    · obtain ⟨g2, o2, A2', n2', c2', e2, hcell2, -, hx2⟩ := hrel.out.1.at k hlt
                      cases e2
                      rw [hcell] at hcell2
                      cases hcell2
                      obtain ⟨gd, od, cs, rfl, hKd, hbd, hcs⟩ := hx2.resolve_left (by omega)
                      obtain ⟨x, hx⟩ := hcs i hlt2
                      have c0 : wr.cell? ⟨gd, od + i, none⟩ = some (.int .u8 x) := (hbd.cell _).trans hx
                      have f0 : wr.frozen? ⟨gd, od + i, none⟩ = false := hbd.frozen _
                      have hne : gh ≠ gd := fun e => own_blk_ne hrel.out.1.1 hbd (by decide) (by rw [← e]; rfl)
                      have HS := Lib.hid (And.intro hbd (And.intro hKd (And.intro hne hcell)))
                      clear hbd hcs hx hx2 hKd hne
                      go_upto_region 30 with fail
                      refine plan_begin (by kernel_rfl) 17 (by kernel_rfl) ?_
                      go_plan_still 17, 0, 16, 1
                      go_plan_seq 17, 16, 1, 0
                      intro K hK
                      go_wp2_with fail
                      refine plan_end 17 (by kernel_rfl) ?_
                      go_wp2_with fail
                      go_roundw
                      case rel => exact ⟨i + 1, by omega, by go_num, Lib.hid ⟨(show MR wr.drew _ _ _ _ from hrel.out.1).set HS.out.1 (od + i) _, hrel.out.2.1.drew.setCell ⟨gd, od + i, none⟩ (.inl HS.out.2.1) _, cell_far (w := wr.drew) HS.out.2.2.2 HS.out.2.2.1⟩⟩
                      case measure => simp [intOf]; omega
                    · obtain rfl : i = nn := by omega
                      go_wp2_with fail
                      go_roundw
                      case rel => exact ⟨k + 1, by omega, by go_num, Lib.hid ⟨hrel.out.1, hrel.out.2.1⟩⟩
                      case measure => simp [intOf]; omega
                · obtain rfl : Y = k := by omega
                  have hFw : Frm (fun _ => False) w wr := H11.out.2.trans hrel.out.2 fun q hq => .inr (by have := hq.1; have := HE.out.1; have := H7.out.2.2.2.2.2; omega)
                  have e9 := H.out.2.2.2 wr hFw
                  have HW := Lib.hid hFw
                  clear hFw hrel
                  go_wp2_with fail
                  refine (wakes_any _).mono ?_
                  rintro e w' ⟨rfl, hF⟩
                  go_wp2_with fail
                  go_ret
                  exact ⟨rfl, HW.out.trans hF fun _ h => h.elim⟩
end Go.Proofs.Ytecpbnkkgdppoaa
