/- The walks of source.Next and what it calls. -/
import Derived.Test.YtddhejgbidmmjaaLib
namespace Go.Proofs.Ytddhejgbidmmjaa
open Go.RowKit
theorem info5 : (Try.prog.info? 5).map (fun i => (i.zero, i.size, i.bytes)) = some (some (.int .u8 0), 1, 1) := by kernel_rfl
theorem info30 : (Try.prog.info? 30).map (fun i => (i.zero, i.size, i.bytes)) = some (some (.slice none 0 0), 1, 24) := by kernel_rfl

def ClonePost (l : List UInt8) (w : World) (e : Ending) (w' : World) : Prop :=
  ∃ v, e = .returned v ∧ OSl w' (fun k => w.heap.size ≤ k) 5 v (bv l) ∧ Frm (fun _ => False) w w'

set_option maxHeartbeats 400000 in
theorem clone_any (K : Nat → Prop) (v : Value) (l : List UInt8) (w : World) (h : Sl w K v (bv l)) (hb : l.length ≤ 100000000) :
    Calls Try.prog 17 #[v] w (ClonePost l w) := by
  obtain ⟨A, n, c, rfl, hn, hc, hm, hx⟩ := h
  simp at hn
  have Hn := Lib.hid hn
  obtain ⟨i0, hi, hz0, hz1, hz2⟩ := info_parts info5
  have he := fun w => Lib.run_eql_slice_nil (P := Try.prog) w 30 5 A n c 0 0 Try.underlying30
  cases A with
  | none =>
    have hl : n = 0 := by
      rcases hx with h0 | ⟨g, o, h, _⟩
      · exact h0
      · cases h
    have Hl := Lib.hid hl
    clear hl hn hx
    go_enter Try.func17, Try.ntmps17
    go_wp2
    go_ret
    have := Hn.out; have h2 := Hl.out
    refine ⟨.slice none 0 0, rfl, ⟨none, 0, 0, rfl, ?_, by omega, ?_, Or.inl ⟨rfl, rfl⟩⟩, Frm.refl _ _⟩
    · rw [bv_length]; omega
    · omega
  | some a =>
    have hnews : ∀ (j : Nat) u, (bv l)[j]? = some u → w.cell? (a.add j) = some u := by
      intro j u hu
      rcases hx with h0 | ⟨g, o, h, _, h2⟩
      · have : bv l = [] := by apply List.eq_nil_of_length_eq_zero; rw [bv_length]; omega
        rw [this] at hu; simp at hu
      · cases h
        obtain ⟨hj, rfl⟩ := List.getElem?_eq_some_iff.1 hu
        rw [← h2 j hj]
        unfold Addr.add; split
        · subst_vars; rfl
        · rfl
    have Hw := Lib.hid hnews
    clear hnews hx hn
    go_enter Try.func17, Try.ntmps17
    go_wp2_with (at_builtin; refine wpList_append_own _ rfl _ _ 30 rfl w.heap.size 5 i0 (.int .u8 0) 1 1 Try.underlying30 hi hz0 hz1 hz2 rfl (by decide) _ 0 [] rfl (World.ownsRow_made _ _ _ (Nat.le_refl _) (Nat.zero_le _) rfl) a n c (bv l) rfl ?c1 ?c2 (bv_one l) ?c3 ?c4 ?c5 ?_; rotate_left 5; intro v' w' hown hg hv)
    case c1 => have := Hn.out; simp; omega
    case c2 =>
      intro j u hu
      have h0 := Hw.out j u hu
      rw [World.cell?_alloc_lt _ _ _ (World.block_lt_of_cell? _ _ h0)]
      exact h0
    case c3 => unfold maxLen; have := Hn.out; omega
    case c4 => have := Hn.out; omega
    case c5 => simp
    go_wp2
    go_ret
    refine ⟨_, rfl, OSl.of_own (base := w.heap.size) (by simpa using hown) (fun g hg => (hown.lt g hg).1), ?_⟩
    exact ((Frm.refl _ _).alloc _).grown hg (fun k hk => Or.inr (by have h : some w.heap.size = some k := hk; injection h; omega))

def CutPost (bs br o n c : Nat) (A : Option Addr) (L C : Nat) (w : World) (e : Ending) (w' : World) : Prop :=
  ∃ o', (o' = o + 1 ∨ c = 1 ∧ o' = o) ∧ e = .returned (.slice A L C) ∧
      w' = (w.setCell ⟨br, o, none⟩ (.slice none 0 0)).setCell ⟨bs, 0, none⟩ (.slice (some ⟨br, o', none⟩) (n - 1) (c - 1))
theorem end_yes (p : Addr) (a : Option Addr) (c : Nat) (w : World) (h : w.cell? p = some (.slice a 0 c)) :
    Calls Try.prog 18 #[.pointer (some p)] w fun e w' => e = .returned (.bool true) ∧ w = w' := by
  go_enter Try.func18, Try.ntmps18
  go_wp2
  go_ret
  exact ⟨rfl, rfl⟩
theorem end_no (p : Addr) (a : Option Addr) (n c : Nat) (w : World) (h : w.cell? p = some (.slice a n c)) (hn : 0 < n) :
    Calls Try.prog 18 #[.pointer (some p)] w fun e w' => e = .returned (.bool false) ∧ w = w' := by
  have h0 : ((n : Int) == 0) = false := by simp; omega
  go_enter Try.func18, Try.ntmps18
  go_wp2
  go_ret
  exact ⟨rfl, rfl⟩
set_option maxHeartbeats 400000 in
theorem cut_all (bs br o n c L C : Nat) (A : Option Addr) (most : Int) (w : World) (h : w.cell? ⟨bs, 0, none⟩ = some (.slice (some ⟨br, o, none⟩) n c)) (hn : 0 < n)
   (hc : w.cell? ⟨br, o, none⟩ = some (.slice A L C)) (hm : L ≤ most) (hL : L ≤ C) (hC : C ≤ 9223372036854775807) (hnc : n ≤ c)
   (hf : w.frozen? ⟨br, o, none⟩ = false) (hfp : w.frozen? ⟨bs, 0, none⟩ = false) (hne : bs ≠ br) (hne' : br ≠ bs) :
    Calls Try.prog 19 #[.pointer (some ⟨bs, 0, none⟩), .int .i64 most] w (CutPost bs br o n c A L C w) := by
  go_enter Try.func19, Try.ntmps19
  go_wp2
  all_goals go_ret
  · exact ⟨o, .inr ⟨rfl, rfl⟩, rfl, rfl⟩
  · exact ⟨o + 1, .inl rfl, rfl, rfl⟩

set_option maxHeartbeats 400000 in
theorem cut_more (bs br o n c A oA L C : Nat) (most : Int) (w : World) (h : w.cell? ⟨bs, 0, none⟩ = some (.slice (some ⟨br, o, none⟩) n c)) (hn : 0 < n)
   (hc : w.cell? ⟨br, o, none⟩ = some (.slice (some ⟨A, oA, none⟩) L C)) (hm : most < L) (hm1 : 1 ≤ most) (hL : L ≤ C) (hC : C ≤ 9223372036854775807)
   (hf : w.frozen? ⟨br, o, none⟩ = false) (hne : bs ≠ br) (hne' : br ≠ bs) :
    Calls Try.prog 19 #[.pointer (some ⟨bs, 0, none⟩), .int .i64 most] w fun e w' => e = .returned (.slice (some ⟨A, oA, none⟩) most.toNat C) ∧
      w' = (w.setCell ⟨br, o, none⟩ (.slice (some ⟨A, oA + most.toNat, none⟩) (L - most.toNat) (C - most.toNat))).drew := by
  go_enter Try.func19, Try.ntmps19
  go_wp2
  go_region
  all_goals go_wp2
  all_goals go_ret
  all_goals exact ⟨rfl, rfl⟩

/-- A source: its block b, its reads L, whether its end is an error, what it told; all its blocks are in K. -/
def SrcAt (w : World) (K : Nat → Prop) (b : Nat) (L : List (List UInt8)) (brk : Bool) (told : Nat) : Prop :=
  ∃ v vs, Blk w b 44 #[v, .bool brk, .int .i64 told] ∧ K b ∧ (∀ k, K k → k < w.heap.size) ∧ OSl w K 30 v vs ∧ Each w (TK w K 5) vs L ∧ told + tot L ≤ 100000000 ∧ L.length ≤ 100000000

theorem SrcAt.kept {w w' : World} {K : Nat → Prop} {b : Nat} {L : List (List UInt8)} {brk : Bool} {told : Nat} (h : SrcAt w K b L brk told) (hs : w.heap.size ≤ w'.heap.size) (hf : ∀ k, K k → w'.heap[k]? = w.heap[k]?) : SrcAt w' K b L brk told := by
  obtain ⟨v, vs, hb, hK, hlt, ho, he, ht, hl⟩ := h
  exact ⟨v, vs, (hf b hK).trans hb, hK, fun k hk => Nat.lt_of_lt_of_le (hlt k hk) hs, ho.kept fun k hk => ⟨hf k hk, hk⟩,
    he.kept fun k hk => ⟨hf k hk.1, hk.kept (hf k hk.1) id⟩, ht, hl⟩

theorem SrcAt.lt {w : World} {K : Nat → Prop} {b : Nat} {L : List (List UInt8)} {brk : Bool} {told : Nat} (h : SrcAt w K b L brk told) : ∀ k, K k → k < w.heap.size := by
  obtain ⟨v, vs, hb, hK, hlt, _⟩ := h
  exact hlt
def nextL : List (List UInt8) → Int → List UInt8 × Bool × List (List UInt8)
  | [], _ => ([], true, [])
  | l :: L, most => if most < 1 then ([], false, l :: L) else if l.length ≤ most then (l, false, L) else (l.take most.toNat, false, l.drop most.toNat :: L)

def NextPost (K : Nat → Prop) (b : Nat) (brk : Bool) (told : Nat) (r : List UInt8 × Bool × List (List UInt8)) (w : World) (e : Ending) (w' : World) : Prop :=
  ∃ v, e = .returned (.tuple #[v, .bool r.2.1]) ∧ OSl w' (fun k => w.heap.size ≤ k) 5 v (bv r.1) ∧ SrcAt w' K b r.2.2 brk (told + r.1.length) ∧ Frm K w w'
theorem OSl.nil (w : World) (K : Nat → Prop) (e : TypeId) : OSl w K e (.slice none 0 0) [] := ⟨none, 0, 0, rfl, rfl, by omega, by omega, Or.inl ⟨rfl, rfl⟩⟩

/-- What the walks of a source with a read left lean on. -/
theorem SrcAt.open_ {w : World} {K : Nat → Prop} {b : Nat} {l : List UInt8} {L : List (List UInt8)} {brk : Bool} {told : Nat} (h : SrcAt w K b (l :: L) brk told) :
    ∃ g o n c cur A' L' C' vs, Blk w b 44 #[.slice (some ⟨g, o, none⟩) n c, .bool brk, .int .i64 told] ∧ Blk w g 30 cur ∧ K b ∧ K g ∧ b ≠ g ∧ n = vs.length + 1 ∧ n ≤ c ∧ c ≤ 9223372036854775807 ∧ o + c ≤ cur.size ∧
      cur[o]? = some (.slice A' L' C') ∧ (∀ i (h : i < vs.length), cur[o + 1 + i]? = some vs[i]) ∧ L' = l.length ∧ L' ≤ C' ∧ C' ≤ 9223372036854775807 ∧ Each w (TK w K 5) (.slice A' L' C' :: vs) (l :: L) ∧
      told + (l.length + tot L) ≤ 100000000 ∧ L.length < 100000000 ∧ (∀ k, K k → k < w.heap.size) := by
  obtain ⟨v, vs, hb, hK, hlt, ho, he, ht, hl⟩ := h
  obtain ⟨A, n, c, rfl, hn, hc, hm, hx⟩ := ho
  obtain ⟨u, vs, rfl⟩ : ∃ u us, vs = u :: us := by
    cases vs with
    | nil => exact absurd he.1 (by simp)
    | cons u us => exact ⟨u, us, rfl⟩
  rcases hx with ⟨_, hx⟩ | ⟨g, o, cur, rfl, hg, hG, hs, hx⟩
  · simp at hn; omega
  obtain ⟨A', L', C', rfl, hn', hc', hm', hx'⟩ := he.head
  refine ⟨g, o, n, c, cur, A', L', C', vs, hb, hG, hK, hg, hb.ne_ hG (by decide), hn, hc, hm, hs, hx 0 (by simp), fun i hi => ?_, by simpa using hn', hc', hm', he, by simpa using ht, by simp at hl; omega, hlt⟩
  have := hx (i + 1) (by simpa using hi)
  rw [show o + 1 + i = o + (i + 1) from by omega]
  simpa using this

def CutsPost (K : Nat → Prop) (b : Nat) (brk : Bool) (told : Nat) (l : List UInt8) (L : List (List UInt8)) (w : World) (e : Ending) (w' : World) : Prop :=
  ∃ v, e = .returned v ∧ Sl w' (TK w' K 5) v (bv l) ∧ SrcAt w' K b L brk told ∧ Frm K w w'
theorem cuts_all (K : Nat → Prop) (b : Nat) (brk : Bool) (told : Nat) (l : List UInt8) (L : List (List UInt8)) (most : Int) (w : World) (h : SrcAt w K b (l :: L) brk told) (hm2 : (l.length : Int) ≤ most) :
    Calls Try.prog 19 #[.pointer (some ⟨b, 0, none⟩), .int .i64 most] w (CutsPost K b brk told l L w) := by
  obtain ⟨g, o, n, c, cur, A', L', C', vs, hb, hG, hK, hg, hne, hn, hc, hm, hs, h0, hx, hL, hL', hC', he, ht, hl, hlt⟩ := h.open_
  refine (cut_all b g o n c L' C' A' most w (hb.cell 0) (by omega) ((hG.cell o).trans h0) (by omega) hL' hC' hc (hG.frozen o) (hb.frozen 0) hne hne.symm).mono ?_
  rintro e w' ⟨o', ho', rfl, rfl⟩
  have hb1 := (hb.far (p := ⟨g, o, none⟩) hne (.slice none 0 0)).set_ 0 (.slice (some ⟨g, o', none⟩) (n - 1) (c - 1))
  have hg1 := (hG.set_ o (.slice none 0 0)).far (p := ⟨b, 0, none⟩) hne.symm (.slice (some ⟨g, o', none⟩) (n - 1) (c - 1))
  have hfar : ∀ k, TK w K 5 k → (((w.setCell ⟨g, o, none⟩ (.slice none 0 0)).setCell ⟨b, 0, none⟩ (.slice (some ⟨g, o', none⟩) (n - 1) (c - 1))).heap[k]? = w.heap[k]?) := fun k hk => by
    rw [Below.heap_setCell _ _ _ _ (hk.ne_ hb (by decide)), Below.heap_setCell _ _ _ _ (hk.ne_ hG (by decide))]
  have hE := he.kept (K' := TK ((w.setCell ⟨g, o, none⟩ (.slice none 0 0)).setCell ⟨b, 0, none⟩ (.slice (some ⟨g, o', none⟩) (n - 1) (c - 1))) K 5) fun k hk => ⟨hfar k hk, hk.kept (hfar k hk) id⟩
  refine ⟨_, rfl, hE.head, ⟨_, vs, hb1, hK, fun k hk => by simpa using hlt k hk, ⟨_, n - 1, c - 1, rfl, by omega, by omega, by omega, Or.inr ⟨g, o', _, rfl, hg, hg1, ?_, fun i hi => ?_⟩⟩, hE.tail, by omega, by omega⟩,
    ((Frm.refl _ _).setCell _ (.inl hg) _).setCell _ (.inl hK) _⟩
  · rw [Array.size_setIfInBounds]; omega
  · have := hx i hi
    rcases ho' with rfl | ⟨rfl, rfl⟩
    · rw [Array.getElem?_setIfInBounds, if_neg (by omega)]
      exact this
    · omega
theorem cuts_more (K : Nat → Prop) (b : Nat) (brk : Bool) (told : Nat) (l : List UInt8) (L : List (List UInt8)) (most : Int) (w : World) (h : SrcAt w K b (l :: L) brk told) (hm1 : 1 ≤ most) (hm2 : most < l.length) :
    Calls Try.prog 19 #[.pointer (some ⟨b, 0, none⟩), .int .i64 most] w (CutsPost K b brk told (l.take most.toNat) (l.drop most.toNat :: L) w) := by
  obtain ⟨g, o, n, c, cur, A', L', C', vs, hb, hG, hK, hg, hne, hn, hc, hm, hs, h0, hx, hL, hL', hC', he, ht, hl, hlt⟩ := h.open_
  have hh := he.head
  obtain ⟨A, N, C, hv, hN, hNC, hCC, hxx⟩ := hh
  cases hv
  rcases hxx with hz | ⟨gA, oA, rfl, hkA, hcA⟩
  · omega
  refine (cut_more b g o n c gA oA L' C' most w (hb.cell 0) (by omega) ((hG.cell o).trans h0) (by omega) hm1 hL' hC' (hG.frozen o) hne hne.symm).mono ?_
  rintro e w' ⟨rfl, rfl⟩
  generalize hu : (Value.slice (some ⟨gA, oA + most.toNat, none⟩) (L' - most.toNat) (C' - most.toNat)) = u
  have hb1 := (hb.far (p := ⟨g, o, none⟩) hne u).drew
  have hg1 := (hG.set_ o u).drew
  have hfar : ∀ k, TK w K 5 k → (w.setCell ⟨g, o, none⟩ u).drew.heap[k]? = w.heap[k]? := fun k hk => by
    show (w.setCell ⟨g, o, none⟩ u).heap[k]? = _
    rw [Below.heap_setCell _ _ _ _ (hk.ne_ hG (by decide))]
  have hE := he.kept (K' := TK (w.setCell ⟨g, o, none⟩ u).drew K 5) fun k hk => ⟨hfar k hk, hk.kept (hfar k hk) id⟩
  have hcl : ∀ i (hi : i < l.length), (w.setCell ⟨g, o, none⟩ u).drew.cell? ⟨gA, oA + i, none⟩ = some (.int .u8 (l[i]).toNat) := fun i hi => by
    have := hcA i (by simpa using hi)
    rw [show (bv l)[i]'(by simpa using hi) = .int .u8 (l[i]).toNat from by simp [bv]] at this
    exact (World.cell?_of_block (w := w) (hfar gA hkA)).trans this
  have hkA' : TK (w.setCell ⟨g, o, none⟩ u).drew K 5 gA := hkA.kept (hfar gA hkA) id
  refine ⟨_, rfl, ⟨_, most.toNat, C', rfl, by simp; omega, by omega, hC', Or.inr ⟨gA, oA, rfl, hkA', fun i hi => ?_⟩⟩,
    ⟨_, u :: vs, hb1, hK, fun k hk => by simpa using hlt k hk, ⟨_, n, c, rfl, by simpa using hn, hc, hm, Or.inr ⟨g, o, _, rfl, hg, hg1, ?_, fun i hi => ?_⟩⟩, hE.tail.cons ?_, by simp; omega, by simp; omega⟩,
    ((Frm.refl _ _).setCell _ (.inl hg) _).drew⟩
  · simp at hi
    rw [hcl i (by omega)]; simp [bv]
  · rw [Array.size_setIfInBounds]; omega
  · cases i with
    | zero => simp [Array.getElem?_setIfInBounds]; omega
    | succ i =>
      have := hx i (by simpa using hi)
      rw [Array.getElem?_setIfInBounds, if_neg (by omega), show o + (i + 1) = o + 1 + i from by omega]
      simpa using this
  · subst hu
    refine ⟨_, _, _, rfl, by simp; omega, by omega, by omega, Or.inr ⟨gA, _, rfl, hkA', fun i hi => ?_⟩⟩
    simp at hi
    rw [Nat.add_assoc, hcl (most.toNat + i) (by omega)]
    simp [bv]

set_option maxHeartbeats 400000 in
theorem next_end (K : Nat → Prop) (b : Nat) (brk : Bool) (told : Nat) (most : Int) (w : World) (h : SrcAt w K b [] brk told) :
    Calls Try.prog 10 #[.pointer (some ⟨b, 0, none⟩), .int .i64 most] w (NextPost K b brk told ([], true, []) w) := by
  have h0 := h
  obtain ⟨v, vs, hb, hK, hlt, ho, he, ht, hl⟩ := h
  obtain ⟨A, n, c, rfl, hn, hc, hm, hx⟩ := ho
  have hc0 : w.cell? ⟨b, 0, none⟩ = some (.slice A n c) := hb.cell 0
  have hn0 : n = 0 := by rw [hn, he.1]; rfl
  have H := Lib.hid (And.intro h0 hn); subst hn0; clear h0 hn hx he hb ht hl
  go_enter Try.func10, Try.ntmps10
  go_wp2
  go_ret2
  exact ⟨_, rfl, OSl.nil _ _ _, H.out.1, Frm.refl _ _⟩

set_option maxHeartbeats 400000 in
theorem next_zero (K : Nat → Prop) (b : Nat) (brk : Bool) (told : Nat) (l : List UInt8) (L : List (List UInt8)) (most : Int) (w : World) (h : SrcAt w K b (l :: L) brk told) (hm1 : most < 1) :
    Calls Try.prog 10 #[.pointer (some ⟨b, 0, none⟩), .int .i64 most] w (NextPost K b brk told ([], false, l :: L) w) := by
  have h0 := h
  obtain ⟨v, vs, hb, hK, hlt, ho, he, ht, hl⟩ := h
  obtain ⟨A, n, c, rfl, hn, hc, hm, hx⟩ := ho
  have hc0 : w.cell? ⟨b, 0, none⟩ = some (.slice A n c) := hb.cell 0
  have hn0 : 0 < n := by rw [hn, he.1]; exact Nat.succ_pos _
  have H := Lib.hid (And.intro h0 hn); clear h0 hn hx he hb ht hl
  go_enter Try.func10, Try.ntmps10
  go_wp2
  go_ret2
  exact ⟨_, rfl, OSl.nil _ _ _, H.out.1, Frm.refl _ _⟩


set_option maxHeartbeats 400000 in
theorem next_go (K : Nat → Prop) (b : Nat) (brk : Bool) (told : Nat) (l l1 : List UInt8) (L L1 : List (List UInt8)) (most : Int) (w : World) (h : SrcAt w K b (l :: L) brk told) (hm1 : 1 ≤ most)
    (hcut : Calls Try.prog 19 #[.pointer (some ⟨b, 0, none⟩), .int .i64 most] w (CutsPost K b brk told l1 L1 w)) (hl : told + l1.length + tot L1 ≤ 100000000) :
    Calls Try.prog 10 #[.pointer (some ⟨b, 0, none⟩), .int .i64 most] w (NextPost K b brk told (l1, false, L1) w) := by
  obtain ⟨g, o, n, c, cur, A', L', C', vs, hb, hG, hK, hg, hne, hn, hc, hm, hs, h0, hx, hL, hL', hC', he, ht, hl0, hlt⟩ := h.open_
  have hc0 := hb.cell 0
  have hn0 : 0 < n := by omega
  have Hc := Lib.hid hcut
  clear hcut hx h0 hn hL he ht hs hG hb hne
  go_enter Try.func10, Try.ntmps10
  go_wp2_with (go_at_call 18; refine (end_no _ _ _ _ _ hc0 hn0).mono ?_; rintro e w' ⟨rfl, rfl⟩)
  refine Hc.out.mono ?_
  rintro e w1 ⟨v, rfl, hv, hS, hF⟩
  go_wp2_with fail
  refine (clone_any _ v l1 w1 hv (by omega)).mono ?_
  rintro e w2 ⟨v2, rfl, hv2, hF2⟩
  have hS2 : SrcAt w2 K b L1 brk told := by
    obtain ⟨_, _, _, _, hlt1, _⟩ := id hS
    exact hS.kept hF2.size fun k hk => hF2.block k (hlt1 k hk) id
  obtain ⟨v3, vs3, hb3, hK3, hlt3, ho3, he3, ht3, hl3⟩ := hS2
  obtain ⟨A2, n2, c2, rfl, hn2, hcc2, hmm2, hx2⟩ := id hv2
  have hc2 : w2.cell? ⟨b, 2, none⟩ = some (.int .i64 told) := hb3.cell 2
  have hf2 : w2.frozen? ⟨b, 2, none⟩ = false := hb3.frozen 2
  rw [bv_length] at hn2
  have hn2' : n2 ≤ 100000000 := by omega
  have ht3' : told ≤ 100000000 := by omega
  have H := Lib.hid (And.intro hn2 (And.intro hx2 (And.intro hb3 (And.intro ho3 (And.intro he3 (And.intro hv2 (And.intro hl3 ht3)))))))
  clear hn2 hx2 hb3 ho3 he3 ht3 hv2 hS hv hl3
  go_wp2_with fail
  go_ret2
  obtain ⟨hn2, hx2, hb3, ho3, he3, hv2, hl3, ht3⟩ := H.out
  have hbw : b < w.heap.size := hlt b hK
  have hbne : ∀ k, w1.heap.size ≤ k → k ≠ b := fun k hk => by have := hF.size; omega
  rw [show ((told : Int) + (n2 : Int)) = ((told + l1.length : Nat) : Int) from by omega]
  generalize hu : (Value.int .i64 ((told + l1.length : Nat) : Int)) = u
  have hfar : ∀ k, TK w2 K 5 k → (w2.setCell ⟨b, 2, none⟩ u).heap[k]? = w2.heap[k]? := fun k hk => Below.heap_setCell _ _ _ _ (hk.ne_ hb3 (by decide))
  have hfar2 : ∀ k, K k ∧ k ≠ b → (w2.setCell ⟨b, 2, none⟩ u).heap[k]? = w2.heap[k]? := fun k hk => Below.heap_setCell _ _ _ _ hk.2
  refine ⟨_, rfl, ?_, ⟨v3, vs3, ?_, hK, fun k hk => by simpa using hlt3 k hk, ho3.kept' hb3 (by decide) 2 u, he3.kept fun k hk => ⟨hfar k hk, hk.kept (hfar k hk) id⟩, hl, hl3⟩, ?_⟩
  · exact hv2.kept fun k hk => ⟨Below.heap_setCell _ _ _ _ (hbne k hk), by have := hF.size; omega⟩
  · have := hb3.set_ 2 u
    subst hu
    exact this
  · exact (hF.trans hF2 (fun _ h => h.elim)).setCell _ (.inl hK) _
theorem next_any (K : Nat → Prop) (b : Nat) (brk : Bool) (told : Nat) (L : List (List UInt8)) (most : Int) (w : World) (h : SrcAt w K b L brk told) :
    Calls Try.prog 10 #[.pointer (some ⟨b, 0, none⟩), .int .i64 most] w (NextPost K b brk told (nextL L most) w) := by
  cases L with
  | nil => exact next_end K b brk told most w h
  | cons l L =>
    by_cases h1 : most < 1
    · simp only [nextL, if_pos h1]; exact next_zero K b brk told l L most w h h1
    · obtain ⟨_, _, _, _, _, _, _, ht, _⟩ := id h
      simp at ht
      by_cases h2 : (l.length : Int) ≤ most
      · simp only [nextL, if_neg h1, if_pos h2]
        exact next_go K b brk told l l L L most w h (by omega) (cuts_all K b brk told l L most w h h2) (by omega)
      · simp only [nextL, if_neg h1, if_neg h2]
        exact next_go K b brk told l _ L _ most w h (by omega) (cuts_more K b brk told l L most w h (by omega) (by omega)) (by simp; omega)
end Go.Proofs.Ytddhejgbidmmjaa