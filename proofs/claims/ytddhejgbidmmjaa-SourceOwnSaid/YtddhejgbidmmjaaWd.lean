/- The walks of source's small functions and of the reference. -/
import Derived.Test.YtddhejgbidmmjaaWc
namespace Go.Proofs.Ytddhejgbidmmjaa
open Go.RowKit Go.Shelf
theorem Each.hdrs {w : World} {K : Nat → Prop} {vs : List Value} {L : List (List UInt8)} (h : Each w K vs L) : ∃ xs : List Hdr, vs = xs.map hdr ∧ sumH xs = tot L := by
  induction vs generalizing L with
  | nil =>
    have : L = [] := List.eq_nil_of_length_eq_zero (by have := h.1; simpa using this.symm)
    subst this
    exact ⟨[], rfl, rfl⟩
  | cons v vs ih =>
    cases L with
    | nil => exact absurd h.1 (by simp)
    | cons l L =>
      obtain ⟨xs, rfl, hs⟩ := ih h.tail
      obtain ⟨A, n, c, rfl, hn, _⟩ := h.head
      exact ⟨(A, n, c) :: xs, rfl, by rw [tot_cons, ← hs]; simp [sumH]; simpa using hn⟩
theorem left_any (K : Nat → Prop) (b : Nat) (L : List (List UInt8)) (brk : Bool) (told : Nat) (w : World) (h : SrcAt w K b L brk told) :
    Calls Try.prog 12 #[.pointer (some ⟨b, 0, none⟩)] w (LeftPost L.length (tot L) w) := by
  obtain ⟨v, vs, hb, hK, hlt, ho, he, ht, hl⟩ := h
  obtain ⟨xs, rfl, hs⟩ := he.hdrs
  obtain ⟨A, n, c, rfl, hn, hc, hm, hx⟩ := ho
  have hnL : n = L.length := hn.trans he.1
  rw [← hs, ← hnL]
  refine (callsIn_wide (n := 8)).1 (left_in Fence.wide 8 trivial trivial trivial rfl (by omega) b n c A xs (by simpa using hn) (by omega) (by omega) w (hb.cell 0) ?_)
  rcases hx with ⟨rfl, rfl⟩ | ⟨g, o, cur, rfl, hg, hG, hs, hx⟩
  · exact .inl (by omega)
  · refine .inr ⟨g, o, rfl, hlt g hg, fun j hj => ?_⟩
    have := hx j (by simpa using hj)
    rw [(hG.cell _).trans this]; simp
theorem told_any (K : Nat → Prop) (b : Nat) (L : List (List UInt8)) (brk : Bool) (told : Nat) (w : World) (h : SrcAt w K b L brk told) :
    Calls Try.prog 14 #[.pointer (some ⟨b, 0, none⟩)] w fun e w' => e = .returned (.int .i64 told) ∧ w = w' := by
  obtain ⟨v, vs, hb, _⟩ := h
  have hc : w.cell? ⟨b, 2, none⟩ = some (.int .i64 told) := hb.cell 2
  clear hb
  go_enter Try.func14, Try.ntmps14
  go_wp2
  go_ret
  exact ⟨rfl, rfl⟩
theorem told_nil (w : World) :
    Calls Try.prog 14 #[.pointer none] w fun e w' => e = .returned (.int .i64 0) ∧ w = w' := by
  go_enter Try.func14, Try.ntmps14
  go_wp2
  go_ret
  exact ⟨rfl, rfl⟩
theorem broken_any (K : Nat → Prop) (b : Nat) (L : List (List UInt8)) (brk : Bool) (told : Nat) (w : World) (h : SrcAt w K b L brk told) :
    Calls Try.prog 15 #[.pointer (some ⟨b, 0, none⟩)] w fun e w' => e = .returned (.bool brk) ∧ w = w' := by
  obtain ⟨v, vs, hb, _⟩ := h
  have hc : w.cell? ⟨b, 1, none⟩ = some (.bool brk) := hb.cell 1
  clear hb
  go_enter Try.func15, Try.ntmps15
  go_wp2
  go_ret
  exact ⟨rfl, rfl⟩
theorem broken_nil (w : World) :
    Calls Try.prog 15 #[.pointer none] w fun e w' => e = .returned (.bool false) ∧ w = w' := by
  go_enter Try.func15, Try.ntmps15
  go_wp2
  go_ret
  exact ⟨rfl, rfl⟩
theorem next_nil (most : Int) (w : World) :
    Calls Try.prog 10 #[.pointer none, .int .i64 most] w fun e w' => e = .returned (.tuple #[.slice none 0 0, .bool true]) ∧ w = w' := by
  go_enter Try.func10, Try.ntmps10
  go_wp2
  go_ret2
  exact ⟨rfl, rfl⟩

/-- The reference's source: its block b, its reads, what it told; its own blocks in K, all from base on; the bytes below base. -/
def RefAt (w : World) (base : Nat) (K : Nat → Prop) (b : Nat) (L : List (List UInt8)) (told : Nat) : Prop :=
  ∃ v vs, Blk w b 37 #[v, .int .i64 told] ∧ K b ∧ (∀ k, K k → base ≤ k ∧ k < w.heap.size) ∧ OSl w K 30 v vs ∧ Each w (fun k => k < base) vs L ∧ told + tot L ≤ 100000000 ∧ L.length ≤ 100000000
theorem RefAt.kept {w w' : World} {base : Nat} {K : Nat → Prop} {b : Nat} {L : List (List UInt8)} {told : Nat} (h : RefAt w base K b L told) (hs : w.heap.size ≤ w'.heap.size) (hf : ∀ k, K k ∨ k < base → w'.heap[k]? = w.heap[k]?) : RefAt w' base K b L told := by
  obtain ⟨v, vs, hb, hK, hlt, ho, he, ht, hl⟩ := h
  exact ⟨v, vs, (hf b (.inl hK)).trans hb, hK, fun k hk => ⟨(hlt k hk).1, Nat.lt_of_lt_of_le (hlt k hk).2 hs⟩, ho.kept fun k hk => ⟨hf k (.inl hk), hk⟩,
    he.kept fun k hk => ⟨hf k (.inr hk), hk⟩, ht, hl⟩
theorem RefAt.lt {w : World} {base : Nat} {K : Nat → Prop} {b : Nat} {L : List (List UInt8)} {told : Nat} (h : RefAt w base K b L told) : ∀ k, K k → base ≤ k ∧ k < w.heap.size := by
  obtain ⟨v, vs, hb, hK, hlt, _⟩ := h
  exact hlt
def RNewPost (base : Nat) (L : List (List UInt8)) (w : World) (e : Ending) (w' : World) : Prop :=
  ∃ b K, e = .returned (.pointer (some ⟨b, 0, none⟩)) ∧ RefAt w' base K b L 0 ∧ (∀ k, K k → w.heap.size ≤ k) ∧ Frm (fun _ => False) w w'
theorem rnew_done {w w' : World} {base : Nat} {v : Value} {vs : List Value} {L : List (List UInt8)} (hown : w'.ownsRow w.heap.size 30 1 v vs.length vs) (hF : Frm (fun _ => False) w w') (he : Each w (fun k => k < base) vs L) (hbase : base ≤ w.heap.size) (hL : L.length ≤ 1000000) (ht : tot L ≤ 100000000) :
    RNewPost base L w (.returned (.pointer (some ⟨w'.heap.size, 0, none⟩))) (w'.alloc (.cells #[v, .int .i64 0] 37)) := by
  have hs := hF.size
  refine ⟨w'.heap.size, fun k => w.heap.size ≤ k ∧ k < w'.heap.size + 1, rfl, ⟨v, vs, Blk.new _ _ _, ⟨hs, by omega⟩, fun k hk => ⟨by omega, by simpa using hk.2⟩, OSl.of_own (hown.alloc _) fun g hg => ⟨(hown.lt g hg).1, by have := (hown.lt g hg).2; omega⟩,
    he.kept fun k hk => ⟨(Below.heap_alloc _ _ _ (by omega)).trans (hF.block k (by omega) id), hk⟩, by omega, by omega⟩, fun k hk => hk.1, hF.alloc _⟩
set_option maxHeartbeats 400000 in
theorem rnew_any (base : Nat) (v0 : Value) (vs0 : List Value) (K0 : Nat → Prop) (L : List (List UInt8)) (w : World) (h : Sl w K0 v0 vs0) (he : Each w (fun k => k < base) vs0 L) (hk0 : ∀ k, K0 k → k < w.heap.size) (hbase : base ≤ w.heap.size) (hL : L.length ≤ 1000000) (ht : tot L ≤ 100000000) :
    Calls Try.prog 9 #[v0] w (RNewPost base L w) := by
  obtain ⟨i0, hi, hz0, hz1, hz2⟩ := info_parts info30
  have hl := he.1
  have hone : ∀ u ∈ vs0, u.oneCell' = true := by
    intro u hu
    obtain ⟨i, hi, rfl⟩ := List.getElem_of_mem hu
    obtain ⟨A, n, c, hv, _⟩ := he.2 i vs0[i] L[i] (List.getElem?_eq_getElem hi) (List.getElem?_eq_getElem (by omega))
    rw [hv]; rfl
  have hsl : Sl (w.alloc (.cells #[] 30)) K0 v0 vs0 := h.kept fun k hk => Below.heap_alloc _ _ _ (hk0 k hk)
  have Hl := Lib.hid hl
  clear hl
  go_enter Try.func9, Try.ntmps9
  go_wp2_with (at_builtin; refine wpList_append_sl (by rfl) _ _ 22 (by rfl) w.heap.size 30 i0 (.slice none 0 0) 24 Try.underlying22 hi hz0 hz1 hz2 (by rfl) _ 0 [] (by rfl) (World.ownsRow_made _ _ _ (Nat.le_refl _) (Nat.zero_le _) rfl) K0 v0 vs0 (by rfl) hsl hone (by unfold maxLen; have := Hl.out; omega) (by have := Hl.out; omega) (by simp) ?_; intro A1 N c1 w1 HN hNc hc1 hown hg hat)
  go_ret
  have hN : N = vs0.length := by have := HN.out; simpa using this
  subst hN
  exact rnew_done (by simpa using hown) (((Frm.refl _ _).alloc _).grown hg fun k hk => .inr (by have h : some w.heap.size = some k := hk; injection h; omega)) he hbase hL ht

theorem RefAt.open_ {w : World} {base : Nat} {K : Nat → Prop} {b : Nat} {l : List UInt8} {L : List (List UInt8)} {told : Nat} (h : RefAt w base K b (l :: L) told) :
    ∃ g o n c cur A' L' C' vs, Blk w b 37 #[.slice (some ⟨g, o, none⟩) n c, .int .i64 told] ∧ Blk w g 30 cur ∧ K b ∧ K g ∧ b ≠ g ∧ n = vs.length + 1 ∧ n ≤ c ∧ c ≤ 9223372036854775807 ∧ o + c ≤ cur.size ∧
      cur[o]? = some (.slice A' L' C') ∧ (∀ i (h : i < vs.length), cur[o + 1 + i]? = some vs[i]) ∧ L' = l.length ∧ L' ≤ C' ∧ C' ≤ 9223372036854775807 ∧ Each w (fun k => k < base) (.slice A' L' C' :: vs) (l :: L) ∧
      told + (l.length + tot L) ≤ 100000000 ∧ L.length < 100000000 ∧ (∀ k, K k → base ≤ k ∧ k < w.heap.size) := by
  obtain ⟨v, vs, hb, hK, hlt, ho, he, ht, hl⟩ := h
  obtain ⟨A, n, c, rfl, hn, hc, hm, hx⟩ := ho
  obtain ⟨u, vs, rfl⟩ : ∃ u us, vs = u :: us := by
    cases vs with
    | nil => exact absurd he.1 (by simp)
    | cons u us => exact ⟨u, us, rfl⟩
  rcases hx with ⟨_, hx⟩ | ⟨g, o, cur, rfl, hg, hG, hs, hx⟩
  · simp at hn; omega
  obtain ⟨A', L', C', rfl, hn', hc', hm', hx'⟩ := he.head
  refine ⟨g, o, n, c, cur, A', L', C', vs, hb, hG, hK, hg, hb.ne_ hG (by decide), hn, hc, hm, hs, hx 0 (by simp), fun i hi => ?_, by simpa using hn', hc', hm', he, by simpa using ht, by simp at hl; omega, hlt⟩
  have := hx (i + 1) (by simpa using hi)
  rw [show o + 1 + i = o + (i + 1) from by omega]
  simpa using this
def RNextPost (base : Nat) (K : Nat → Prop) (b : Nat) (told : Nat) (r : List UInt8 × Bool × List (List UInt8)) (w : World) (e : Ending) (w' : World) : Prop :=
  ∃ v, e = .returned (.tuple #[v, .bool r.2.1]) ∧ OSl w' (fun k => w.heap.size ≤ k) 5 v (bv r.1) ∧ RefAt w' base K b r.2.2 (told + r.1.length) ∧ Frm K w w'
set_option maxHeartbeats 400000 in
theorem rnext_end (base : Nat) (K : Nat → Prop) (b : Nat) (told : Nat) (most : Int) (w : World) (h : RefAt w base K b [] told) :
    Calls Try.prog 11 #[.pointer (some ⟨b, 0, none⟩), .int .i64 most] w (RNextPost base K b told ([], true, []) w) := by
  have h0 := h
  obtain ⟨v, vs, hb, hK, hlt, ho, he, ht, hl⟩ := h
  obtain ⟨A, n, c, rfl, hn, hc, hm, hx⟩ := ho
  have hc0 : w.cell? ⟨b, 0, none⟩ = some (.slice A n c) := hb.cell 0
  have hn0 : n = 0 := by rw [hn, he.1]; rfl
  have H := Lib.hid (And.intro h0 hn); subst hn0; clear h0 hn hx he hb ht hl
  go_enter Try.func11, Try.ntmps11
  go_wp2
  go_ret2
  exact ⟨_, rfl, OSl.nil _ _ _, H.out.1, Frm.refl _ _⟩
set_option maxHeartbeats 400000 in
theorem rnext_zero (base : Nat) (K : Nat → Prop) (b : Nat) (told : Nat) (l : List UInt8) (L : List (List UInt8)) (most : Int) (w : World) (h : RefAt w base K b (l :: L) told) (hm1 : most < 1) :
    Calls Try.prog 11 #[.pointer (some ⟨b, 0, none⟩), .int .i64 most] w (RNextPost base K b told ([], false, l :: L) w) := by
  have h0 := h
  obtain ⟨v, vs, hb, hK, hlt, ho, he, ht, hl⟩ := h
  obtain ⟨A, n, c, rfl, hn, hc, hm, hx⟩ := ho
  have hc0 : w.cell? ⟨b, 0, none⟩ = some (.slice A n c) := hb.cell 0
  have hn0 : 0 < n := by rw [hn, he.1]; exact Nat.succ_pos _
  have hn1 : ((n : Int) == 0) = false := by simp; omega
  have H := Lib.hid (And.intro h0 hn); clear h0 hn hx he hb ht hl
  go_enter Try.func11, Try.ntmps11
  go_wp2
  go_ret2
  exact ⟨_, rfl, OSl.nil _ _ _, H.out.1, Frm.refl _ _⟩
/-- The end of a step of the reference that used up the read. -/
theorem rnext_all_fin {base : Nat} {K : Nat → Prop} {b told g o o' n c : Nat} {cur : Array Value} {vs : List Value} {l : List UInt8} {L : List (List UInt8)} {u : Value} {w w1 : World} {A1 : Option Addr} {N c1 : Nat}
    (hb : Blk w b 37 #[.slice (some ⟨g, o, none⟩) n c, .int .i64 told]) (hG : Blk w g 30 cur) (hK : K b) (hg : K g) (hn : n = vs.length + 1) (hc : n ≤ c) (hm : c ≤ 9223372036854775807) (hs : o + c ≤ cur.size)
    (hx : ∀ i (h : i < vs.length), cur[o + 1 + i]? = some vs[i]) (he : Each w (fun k => k < base) (u :: vs) (l :: L)) (ht : told + (l.length + tot L) ≤ 100000000) (hl : L.length < 100000000) (hlt : ∀ k, K k → base ≤ k ∧ k < w.heap.size)
    (ho : o' = o + 1 ∨ c = 1 ∧ o' = o) (hown : w1.ownsRow w.heap.size 5 1 (.slice A1 N c1) N (bv l))
    (hgr : (((w.setCell ⟨b, 1, none⟩ (.int .i64 ((told + l.length : Nat) : Int))).setCell ⟨b, 0, none⟩ (.slice (some ⟨g, o', none⟩) (n - 1) (c - 1))).alloc (.cells #[] 5)).grownBy w1 (some w.heap.size)) :
    RNextPost base K b told (l, false, L) w (.returned (.tuple #[.slice A1 N c1, .bool false])) w1 := by
  have hF : Frm (fun k => k = b) w w1 := ((((Frm.refl (fun k => k = b) w).setCell ⟨b, 1, none⟩ (.inl rfl) (.int .i64 ((told + l.length : Nat) : Int))).setCell ⟨b, 0, none⟩ (.inl rfl) (.slice (some ⟨g, o', none⟩) (n - 1) (c - 1))).alloc (.cells #[] 5)).grown hgr (fun k hk => .inr (by injection hk; omega))
  have hF2 := Frm.of_grown hgr
  have hbl := hb.lt
  have hgl := hG.lt
  have hne := hb.ne_ hG (by decide)
  have hb2 : Blk w1 b 37 #[.slice (some ⟨g, o', none⟩) (n - 1) (c - 1), .int .i64 ((told + l.length : Nat) : Int)] := by
    have h1 := (hb.set_ 1 (.int .i64 ((told + l.length : Nat) : Int))).set_ 0 (.slice (some ⟨g, o', none⟩) (n - 1) (c - 1))
    have h2 := (h1.alloc (.cells #[] 5)).kept hF2 (by intro h; injection h; omega)
    simpa using h2
  have hg2 : Blk w1 g 30 cur := hG.kept hF (fun h => hne h.symm)
  clear hgr hF2 hb hG
  have hfar : ∀ k, k < base → w1.heap[k]? = w.heap[k]? := fun k hk => hF.block k (by have := hlt b hK; omega) (by have := (hlt b hK).1; omega)
  have hO : OSl w1 K 30 (.slice (some ⟨g, o', none⟩) (n - 1) (c - 1)) vs := ⟨_, n - 1, c - 1, rfl, by omega, by omega, by omega, .inr ⟨g, o', cur, rfl, hg, hg2, by omega, fun i hi => by
    rcases ho with rfl | ⟨rfl, rfl⟩
    · exact hx i hi
    · omega⟩⟩
  have hE : Each w1 (fun k => k < base) vs L := he.tail.kept fun k hk => ⟨hfar k hk, hk⟩
  exact ⟨_, rfl, OSl.of_own hown fun x hx => (hown.lt x hx).1, ⟨_, vs, hb2, hK, fun k hk => ⟨(hlt k hk).1, Nat.lt_of_lt_of_le (hlt k hk).2 hF.size⟩, hO, hE, by dsimp only; omega, by dsimp only; omega⟩, hF.mono fun k hk => .inl (hk ▸ hK)⟩
set_option maxHeartbeats 1000000 in
theorem rnext_all (base : Nat) (K : Nat → Prop) (b : Nat) (told : Nat) (l : List UInt8) (L : List (List UInt8)) (most : Int) (w : World) (h : RefAt w base K b (l :: L) told) (hm1 : 1 ≤ most) (hm2 : (l.length : Int) ≤ most) :
    Calls Try.prog 11 #[.pointer (some ⟨b, 0, none⟩), .int .i64 most] w (RNextPost base K b told (l, false, L) w) := by
  obtain ⟨i0, hi, hz0, hz1, hz2⟩ := info_parts info5
  obtain ⟨g, o, n, c, cur, A', L', C', vs, hb, hG, hK, hg, hne, hn, hc, hm, hs, h0, hx, hL, hL', hC', he, ht, hl, hlt⟩ := h.open_
  have hc0 : w.cell? ⟨b, 0, none⟩ = some (.slice (some ⟨g, o, none⟩) n c) := hb.cell 0
  have hf0 : w.frozen? ⟨b, 0, none⟩ = false := hb.frozen 0
  have hc1 : w.cell? ⟨b, 1, none⟩ = some (.int .i64 told) := hb.cell 1
  have hf1 : w.frozen? ⟨b, 1, none⟩ = false := hb.frozen 1
  have hr0 : w.cell? ⟨g, o, none⟩ = some (.slice A' L' C') := (hG.cell o).trans h0
  have hrf : w.frozen? ⟨g, o, none⟩ = false := hG.frozen o
  have hne' := hne.symm
  have hn0 : 0 < n := by omega
  have hn1 : ((n : Int) == 0) = false := by simp; omega
  have hmin : (if (L' : Int) < most then (L' : Int) else most) = L' := by split <;> omega
  have hLb : L' ≤ 100000000 := by omega
  have htb : told ≤ 100000000 := by omega
  have hbb : base ≤ b := (hlt b hK).1
  have hbz : base ≤ w.heap.size := by have := hlt b hK; omega
  have hS : ∀ w', Below base w w' → Sl w' (fun k => k < base) (.slice A' L' C') (bv l) := fun w' hB => he.head.kept fun k hk => hB.block k hk
  have hsz : ∀ (x y : Value) (p q : Addr), ((w.setCell p x).setCell q y).heap.size = w.heap.size := by simp
  have hsz2 : ∀ (x y : Value) (p q : Addr) (o : Obj), w.heap.size ≤ (((w.setCell p x).setCell q y).alloc o).heap.size := by simp
  have hsz3 : ∀ (x y : Value) (p q : Addr), base ≤ ((w.setCell p x).setCell q y).heap.size := by simpa using hbz
  have hsum : ((told : Int) + (L' : Int)) = ((told + l.length : Nat) : Int) := by omega
  have H := Lib.hid (And.intro hn (And.intro hs (And.intro h0 (And.intro hx (And.intro hL (And.intro he (And.intro ht (And.intro hb (And.intro hG (And.intro hS (And.intro hsum (And.intro hsz (And.intro hsz2 hsz3)))))))))))))
  clear hn hs h0 hx hL he ht h hb hG hS hsum hsz hsz2 hsz3
  have hcut : ∀ W, (Instr.slice 30 (.slice A' L' C') none (some (.int .i64 (L' : Int))) none).run Try.prog W = .ok (.slice A' L' C') W := fun W => by
    rw [run_take Try.underlying30 (Try.sizeOf5) A' L' C' L' (by omega) (by omega) W]
    simp
  go_enter Try.func11, Try.ntmps11
  go_wp2_with (at_builtin; go_loud (refine wpList_append_sl (by rfl) _ _ 30 (by rfl) w.heap.size 5 i0 (.int .u8 0) 1 Try.underlying30 hi hz0 hz1 hz2 (by rfl) _ 0 [] (by rfl) (own_new0 (H.out.2.2.2.2.2.2.2.2.2.2.2.1 _ _ _ _) (Nat.le_of_eq (H.out.2.2.2.2.2.2.2.2.2.2.2.1 _ _ _ _).symm)) (fun k => k < base) (.slice A' L' C') (bv l) (by rfl) (H.out.2.2.2.2.2.2.2.2.2.1 _ ((((Below.refl base w).setCell (p := ⟨b, 1, none⟩) hbb _).setCell (p := ⟨b, 0, none⟩) hbb _).alloc (H.out.2.2.2.2.2.2.2.2.2.2.2.2.2 _ _ _ _) _)) (bv_one l) (by unfold maxLen; rw [bv_length]; have := H.out.2.2.2.2.1; omega) (by rw [bv_length]; have := H.out.2.2.2.2.1; omega) (H.out.2.2.2.2.2.2.2.2.2.2.2.2.1 _ _ _ _ _) ?_; intro A1 N c1 w1 HN hNc hc1 hown hg hat))
  all_goals
    go_ret2
    obtain ⟨hn, hs, h0, hx, hL, he, ht, hb, hG, hS, hsum, _, _, _⟩ := H.out
    rw [hsum] at hg
  · have hcc : c = 1 := by assumption
    subst hcc
    exact rnext_all_fin (o' := o) hb hG hK ‹K g› hn hc hm hs hx he ht hl hlt (.inr ⟨rfl, rfl⟩) (by simpa using hown) hg
  · rw [if_neg (by assumption)] at hg
    exact rnext_all_fin (o' := o + 1) hb hG hK ‹K g› hn hc hm hs hx he ht hl hlt (.inl rfl) (by simpa using hown) hg

/-- The end of a step of the reference that left something of the read. -/
theorem rnext_more_fin {base : Nat} {K : Nat → Prop} {b told g o n c gA oA L' C' m : Nat} {cur : Array Value} {vs : List Value} {l : List UInt8} {L : List (List UInt8)} {w w1 : World} {A1 : Option Addr} {N c1 : Nat}
    (hb : Blk w b 37 #[.slice (some ⟨g, o, none⟩) n c, .int .i64 told]) (hG : Blk w g 30 cur) (hK : K b) (hg : K g) (hn : n = vs.length + 1) (hc : n ≤ c) (hm : c ≤ 9223372036854775807) (hs : o + c ≤ cur.size)
    (hx : ∀ i (h : i < vs.length), cur[o + 1 + i]? = some vs[i]) (he : Each w (fun k => k < base) (.slice (some ⟨gA, oA, none⟩) L' C' :: vs) (l :: L)) (ht : told + (l.length + tot L) ≤ 100000000) (hl : L.length < 100000000) (hlt : ∀ k, K k → base ≤ k ∧ k < w.heap.size)
    (hcA : ∀ i (hi : i < l.length), w.cell? ⟨gA, oA + i, none⟩ = some (.int .u8 (l[i]).toNat)) (hgA : gA < base) (hL : L' = l.length) (hLC : L' ≤ C') (hCC : C' ≤ 9223372036854775807) (hm1 : 1 ≤ m) (hm2 : m < L') (hown : w1.ownsRow w.heap.size 5 1 (.slice A1 N c1) N (bv (l.take m)))
    (hgr : (((w.setCell ⟨b, 1, none⟩ (.int .i64 ((told + m : Nat) : Int))).setCell ⟨g, o, none⟩ (.slice (some ⟨gA, oA + m, none⟩) (L' - m) (C' - m))).drew.alloc (.cells #[] 5)).grownBy w1 (some w.heap.size)) :
    RNextPost base K b told (l.take m, false, l.drop m :: L) w (.returned (.tuple #[.slice A1 N c1, .bool false])) w1 := by
  have hne := hb.ne_ hG (by decide)
  have hbl := hb.lt
  have hgl := hG.lt
  have hbb := hlt b hK
  have hgg := hlt g hg
  generalize hu : (Value.slice (some ⟨gA, oA + m, none⟩) (L' - m) (C' - m)) = u at hgr
  have hF : Frm (fun k => k = b ∨ k = g) w w1 := ((((Frm.refl (fun k => k = b ∨ k = g) w).setCell ⟨b, 1, none⟩ (.inl (.inl rfl)) (.int .i64 ((told + m : Nat) : Int))).setCell ⟨g, o, none⟩ (.inl (.inr rfl)) u).drew.alloc (.cells #[] 5)).grown hgr (fun k hk => .inr (by injection hk; omega))
  have hF2 := Frm.of_grown hgr
  have hb2 : Blk w1 b 37 #[.slice (some ⟨g, o, none⟩) n c, .int .i64 ((told + m : Nat) : Int)] := by
    have h1 := (hb.set_ 1 (.int .i64 ((told + m : Nat) : Int))).far (p := ⟨g, o, none⟩) hne u
    have h2 := (h1.drew.alloc (.cells #[] 5)).kept hF2 (by intro h; injection h; omega)
    simpa using h2
  have hg2 : Blk w1 g 30 (cur.setIfInBounds o u) := by
    have h1 := (hG.far (p := ⟨b, 1, none⟩) hne.symm (.int .i64 ((told + m : Nat) : Int))).set_ o u
    exact (h1.drew.alloc (.cells #[] 5)).kept hF2 (by intro h; injection h; omega)
  clear hgr hF2 hb hG
  have hfar : ∀ k, k < base → w1.heap[k]? = w.heap[k]? := fun k hk => hF.block k (by omega) (by rintro (h | h) <;> omega)
  have hO : OSl w1 K 30 (.slice (some ⟨g, o, none⟩) n c) (u :: vs) := ⟨_, n, c, rfl, by simpa using hn, by omega, by omega, .inr ⟨g, o, _, rfl, hg, hg2, by rw [Array.size_setIfInBounds]; omega, fun i hi => by
    cases i with
    | zero => simp [Array.getElem?_setIfInBounds]; omega
    | succ i =>
      have := hx i (by simpa using hi)
      rw [Array.getElem?_setIfInBounds, if_neg (by omega), show o + (i + 1) = o + 1 + i from by omega]
      simpa using this⟩⟩
  have hE : Each w1 (fun k => k < base) (u :: vs) (l.drop m :: L) := (he.tail.kept fun k hk => ⟨hfar k hk, hk⟩).cons (by
    subst hu
    refine ⟨_, _, _, rfl, by simp; omega, by omega, by omega, .inr ⟨gA, _, rfl, hgA, fun i hi => ?_⟩⟩
    simp at hi
    rw [Nat.add_assoc, World.cell?_of_block (w := w) (hfar gA hgA), hcA (m + i) (by omega)]
    simp [bv])
  refine ⟨_, rfl, OSl.of_own hown fun x hx => (hown.lt x hx).1, ⟨_, _, by simpa [List.length_take, Nat.min_eq_left (show m ≤ l.length by omega)] using hb2, hK, fun k hk => ⟨(hlt k hk).1, Nat.lt_of_lt_of_le (hlt k hk).2 hF.size⟩, hO, hE, by simp; omega, by simp; omega⟩, hF.mono fun k hk => .inl (hk.elim (fun h => h ▸ hK) (fun h => h ▸ hg))⟩
set_option maxHeartbeats 1000000 in
theorem rnext_more (base : Nat) (K : Nat → Prop) (b : Nat) (told : Nat) (l : List UInt8) (L : List (List UInt8)) (most : Int) (w : World) (h : RefAt w base K b (l :: L) told) (hm1 : 1 ≤ most) (hm2 : most < l.length) :
    Calls Try.prog 11 #[.pointer (some ⟨b, 0, none⟩), .int .i64 most] w (RNextPost base K b told (l.take most.toNat, false, l.drop most.toNat :: L) w) := by
  obtain ⟨i0, hi, hz0, hz1, hz2⟩ := info_parts info5
  obtain ⟨g, o, n, c, cur, A', L', C', vs, hb, hG, hK, hg, hne, hn, hc, hm, hs, h0, hx, hL, hL', hC', he, ht, hl, hlt⟩ := h.open_
  obtain ⟨m, rfl⟩ := Int.eq_ofNat_of_zero_le (show 0 ≤ most by omega)
  have hh := he.head
  obtain ⟨A, NN, CC, hv, hN, hNC, hCC, hxx⟩ := hh
  cases hv
  rcases hxx with hz | ⟨gA, oA, rfl, hkA, hcA⟩
  · omega
  have hcA' : ∀ i (hi : i < l.length), w.cell? ⟨gA, oA + i, none⟩ = some (.int .u8 (l[i]).toNat) := fun i hi => by
    rw [hcA i (by simpa using hi)]; simp [bv]
  have hc0 : w.cell? ⟨b, 0, none⟩ = some (.slice (some ⟨g, o, none⟩) n c) := hb.cell 0
  have hf0 : w.frozen? ⟨b, 0, none⟩ = false := hb.frozen 0
  have hc1 : w.cell? ⟨b, 1, none⟩ = some (.int .i64 told) := hb.cell 1
  have hf1 : w.frozen? ⟨b, 1, none⟩ = false := hb.frozen 1
  have hr0 : w.cell? ⟨g, o, none⟩ = some (.slice (some ⟨gA, oA, none⟩) L' C') := (hG.cell o).trans h0
  have hrf : w.frozen? ⟨g, o, none⟩ = false := hG.frozen o
  have hne' := hne.symm
  have hn0 : 0 < n := by omega
  have hn1 : ((n : Int) == 0) = false := by simp; omega
  have hmin : (if (L' : Int) < (m : Int) then (L' : Int) else (m : Int)) = m := by split <;> omega
  have hmL : ((m : Int) == (L' : Int)) = false := by simp; omega
  have hm3 : m < L' := by omega
  have hm4 : (m : Int) < (L' : Int) := by omega
  have hLb : L' ≤ 100000000 := by omega
  have htb : told ≤ 100000000 := by omega
  have hbb : base ≤ b := (hlt b hK).1
  have hgb : base ≤ g := (hlt g hg).1
  have hsl : ∀ w', Below base w w' → Sl w' (fun k => k < base) (.slice (some ⟨gA, oA, none⟩) m C') (bv (l.take m)) := fun w' hB =>
    ⟨_, _, _, rfl, by simp; omega, by omega, hC', .inr ⟨gA, oA, rfl, hkA, fun i hi => by
      simp at hi
      rw [hB.cell (p := ⟨gA, oA + i, none⟩) hkA, hcA' i (by omega)]; simp [bv]⟩⟩
  have hsz : ∀ (x y : Value) (p q : Addr), ((w.setCell p x).setCell q y).drew.heap.size = w.heap.size := by simp
  have hsz2 : ∀ (x y : Value) (p q : Addr) (o : Obj), w.heap.size ≤ (((w.setCell p x).setCell q y).drew.alloc o).heap.size := by simp
  have hsz3 : ∀ (x y : Value) (p q : Addr), base ≤ ((w.setCell p x).setCell q y).drew.heap.size := by have := hlt b hK; simp; omega
  have hln : (bv (l.take m)).length = m := by simp; omega
  have H := Lib.hid (And.intro hn (And.intro hs (And.intro h0 (And.intro hx (And.intro hL (And.intro he (And.intro ht (And.intro hb (And.intro hG (And.intro hsl (And.intro hcA' (And.intro hsz (And.intro hsz2 (And.intro hsz3 (And.intro hln (And.intro hm3 hkA))))))))))))))))
  clear hn hs h0 hx hL he ht h hb hG hsl hcA' hsz hsz2 hsz3 hln hcA hkA hN hm2
  go_enter Try.func11, Try.ntmps11
  go_wp2
  go_region
  go_wp2_with (at_builtin; go_loud (refine wpList_append_sl (by rfl) _ _ 30 (by rfl) w.heap.size 5 i0 (.int .u8 0) 1 Try.underlying30 hi hz0 hz1 hz2 (by rfl) _ 0 [] (by rfl) (own_new0 (H.out.2.2.2.2.2.2.2.2.2.2.2.1 _ _ _ _) (Nat.le_of_eq (H.out.2.2.2.2.2.2.2.2.2.2.2.1 _ _ _ _).symm)) (fun k => k < base) (.slice (some ⟨gA, oA, none⟩) m C') (bv (l.take m)) (by rfl) (H.out.2.2.2.2.2.2.2.2.2.1 _ ((((Below.refl base w).setCell (p := ⟨b, 1, none⟩) hbb _).setCell (p := ⟨g, o, none⟩) hgb _).drew.alloc (H.out.2.2.2.2.2.2.2.2.2.2.2.2.2.1 _ _ _ _) _)) (bv_one _) (by unfold maxLen; rw [H.out.2.2.2.2.2.2.2.2.2.2.2.2.2.2.1]; omega) (by rw [H.out.2.2.2.2.2.2.2.2.2.2.2.2.2.2.1]; omega) (H.out.2.2.2.2.2.2.2.2.2.2.2.2.1 _ _ _ _ _) ?_; intro A1 N c1 w1 HN hNc hc1 hown hg hat))
  go_ret2
  obtain ⟨hn, hs, h0, hx, hL, he, ht, hb, hG, hsl, hcA', _, _, _, hln, hm3, hkA⟩ := H.out
  rw [← Int.natCast_add] at hg
  exact rnext_more_fin hb hG hK ‹K g› hn hc hm hs hx he ht hl hlt hcA' hkA hL hL' hC' (by omega) hm3 (by simpa using hown) hg
theorem rnext_any (base : Nat) (K : Nat → Prop) (b : Nat) (told : Nat) (L : List (List UInt8)) (most : Int) (w : World) (h : RefAt w base K b L told) :
    Calls Try.prog 11 #[.pointer (some ⟨b, 0, none⟩), .int .i64 most] w (RNextPost base K b told (nextL L most) w) := by
  cases L with
  | nil => exact rnext_end base K b told most w h
  | cons l L =>
    by_cases h1 : most < 1
    · simp only [nextL, if_pos h1]; exact rnext_zero base K b told l L most w h h1
    · by_cases h2 : (l.length : Int) ≤ most
      · simp only [nextL, if_neg h1, if_pos h2]
        exact rnext_all base K b told l L most w h (by omega) h2
      · simp only [nextL, if_neg h1, if_neg h2]
        exact rnext_more base K b told l L most w h (by omega) (by omega)

theorem sumH_append (a b : List Hdr) : sumH (a ++ b) = sumH a + sumH b := by simp [sumH]
set_option maxHeartbeats 400000 in
theorem rleft_hdr (b n c : Nat) (A : Option Addr) (xs : List Hdr) (hxs : n = xs.length) (hreach : n ≤ 100000000) (hsum : sumH xs ≤ 100000000) (w : World)
    (hb : w.cell? ⟨b, 0, none⟩ = some (.slice A n c)) (hc : n = 0 ∨ ∃ g o, A = some ⟨g, o, none⟩ ∧ ∀ j (h : j < xs.length), w.cell? ⟨g, o + j, none⟩ = some (hdr xs[j])) :
    Calls Try.prog 13 #[.pointer (some ⟨b, 0, none⟩)] w fun e w' => e = .returned (.tuple #[.int .i64 n, .int .i64 (sumH xs)]) ∧ w = w' := by
  have Hx := Lib.hid hxs
  have Hc := Lib.hid hc
  have Hs := Lib.hid hsum
  clear hxs hc hsum
  go_enter Try.func13, Try.ntmps13
  go_wp2
  go_loop [4, 5] (fun t i => ∃ k : Nat, k ≤ n ∧ i = .int .i64 k ∧ t = .int .i64 (sumH (xs.take k))) (fun _ i => n - (intOf i).toNat)
  case atStart => exact ⟨0, Nat.zero_le _, rfl, rfl⟩
  case round =>
    obtain ⟨k, hk, rfl, rfl⟩ := hrel
    by_cases hlt : k < n
    · have hkx : k < xs.length := by have := Hx.out; omega
      obtain ⟨g, o, rfl, hcs⟩ := Hc.out.resolve_left (by omega)
      have hcx : w.cell? ⟨g, o + k, none⟩ = some (hdr xs[k]) := hcs k hkx
      have hts : xs.take (k + 1) = xs.take k ++ [xs[k]] := List.take_succ_eq_append_getElem hkx
      have hs1 : sumH (xs.take (k + 1)) = sumH (xs.take k) + xs[k].2.1 := by rw [hts, sumH_append]; simp [sumH]
      have hs2 : sumH (xs.take (k + 1)) ≤ sumH xs := by
        conv => rhs; rw [← List.take_append_drop (k + 1) xs]
        rw [sumH_append]; omega
      have hs3 := Hs.out
      have hb1 : sumH (xs.take k) ≤ 100000000 := by omega
      have hb2 : xs[k].2.1 ≤ 100000000 := by omega
      have Ht := Lib.hid hs1
      clear hts hcs hs1 hs2 hs3
      simp only [hdr] at hcx
      generalize xs[k] = x at *
      obtain ⟨a1, n1, c1⟩ := x
      dsimp only at hb2
      go_wp2
      go_round
      case rel => exact ⟨k + 1, by omega, by go_num, by rw [Ht.out]; go_num⟩
      case measure => simp [intOf]; omega
    · obtain rfl : k = n := by omega
      go_wp2
      go_ret2
      exact ⟨by rw [List.take_of_length_le (by have := Hx.out; omega)]; rfl, rfl⟩
end Go.Proofs.Ytddhejgbidmmjaa
