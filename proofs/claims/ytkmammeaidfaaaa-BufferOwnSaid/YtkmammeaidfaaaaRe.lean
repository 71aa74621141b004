/- The walks of teaselref18. -/
import Derived.Test.YtkmammeaidfaaaaPq
namespace Go.Proofs.Ytkmammeaidfaaaa
open Go.RowKit
/-- The reference's pool: its three blocks b, gu, gd; its rows lie in the other blocks of S, and are never written. -/
structure RAx (w : World) (S : Nat → Prop) (b gu gd m size : Nat) (vr : Value) (vs : List Value) (row : List Nat) (us : List Bool) (dt : List (List UInt8)) : Prop where
  hb : Blk w b 47 #[.int .i64 size, vr, .slice (some ⟨gu, 0, none⟩) m m, .slice (some ⟨gd, 0, none⟩) m m]
  hu : Blk w gu 4 (us.map Value.bool).toArray
  hd : Blk w gd 32 vs.toArray
  len : us.length = m ∧ vs.length = m ∧ dt.length = m
  sl : Sl w (fun k => S k ∧ k ≠ b ∧ k ≠ gu ∧ k ≠ gd) vr (row.map nv)
  rws : ∀ (i : Nat) v l, vs[i]? = some v → dt[i]? = some l → Sl w (fun k => S k ∧ k ≠ b ∧ k ≠ gu ∧ k ≠ gd) v (bv l) ∧ l.length ≤ size
  lie : S b ∧ S gu ∧ S gd ∧ ∀ k, S k → k < w.heap.size
  siz : 1 ≤ m ∧ m ≤ 16 ∧ size ≤ 288 ∧ row.length ≤ m ∧ ∀ i ∈ row, i < m
def RAt (w : World) (S : Nat → Prop) (b m size : Nat) (row : List Nat) (us : List Bool) (dt : List (List UInt8)) : Prop := ∃ gu gd vr vs, RAx w S b gu gd m size vr vs row us dt
def RLeft (S : Nat → Prop) (b m size : Nat) (row : List Nat) (us : List Bool) (dt : List (List UInt8)) (w w' : World) : Prop :=
  ∃ S', RAt w' S' b m size row us dt ∧ (∀ k, S' k → S k ∨ w.heap.size ≤ k) ∧ Frm S w w'
def RP (v : Value) (S : Nat → Prop) (b m size : Nat) (row : List Nat) (us : List Bool) (dt : List (List UInt8)) (w : World) (e : Ending) (w' : World) : Prop := e = .returned v ∧ RLeft S b m size row us dt w w'
section
variable {w w' : World} {S : Nat → Prop} {b gu gd m size : Nat} {vr : Value} {vs : List Value} {row : List Nat} {us : List Bool} {dt : List (List UInt8)}
theorem RAx.kept (h : RAx w S b gu gd m size vr vs row us dt) {K : Nat → Prop} (hF : Frm K w w') (hK : ∀ k, S k → ¬ K k) : RAx w' S b gu gd m size vr vs row us dt := by
  obtain ⟨h1, h2, h3, h4, h5, h6, ⟨s1, s2, s3, s6⟩, h8⟩ := h
  exact ⟨h1.kept hF (hK _ s1), h2.kept hF (hK _ s2), h3.kept hF (hK _ s3), h4, h5.keptTo fun k hk => ⟨hF.block k (s6 k hk.1) (hK k hk.1), hk⟩, fun i v l hv hl => ⟨(h6 i v l hv hl).1.keptTo fun k hk => ⟨hF.block k (s6 k hk.1) (hK k hk.1), hk⟩, (h6 i v l hv hl).2⟩, ⟨s1, s2, s3, fun k hk => Nat.lt_of_lt_of_le (s6 k hk) hF.size⟩, h8⟩
theorem RAx.keptF (h : RAx w S b gu gd m size vr vs row us dt) (hF : Frm (fun _ => False) w w') : RAx w' S b gu gd m size vr vs row us dt := h.kept hF fun _ _ => id
theorem RAx.drewN (h : RAx w S b gu gd m size vr vs row us dt) (n : Nat) : RAx (w.drewN n) S b gu gd m size vr vs row us dt := h.keptF ((Frm.refl _ w).drewN n)
theorem RAt.kept (h : RAt w S b m size row us dt) {K : Nat → Prop} (hF : Frm K w w') (hK : ∀ k, S k → ¬ K k) : RAt w' S b m size row us dt := by
  obtain ⟨gu, gd, vr, vs, h⟩ := h
  exact ⟨gu, gd, vr, vs, h.kept hF hK⟩
theorem RAt.keptF (h : RAt w S b m size row us dt) (hF : Frm (fun _ => False) w w') : RAt w' S b m size row us dt := h.kept hF fun _ _ => id
theorem RAt.drewN (h : RAt w S b m size row us dt) (n : Nat) : RAt (w.drewN n) S b m size row us dt := h.keptF ((Frm.refl _ w).drewN n)
theorem RAt.sz (h : RAt w S b m size row us dt) : (1 ≤ m ∧ m ≤ 16 ∧ size ≤ 288 ∧ row.length ≤ m ∧ ∀ i ∈ row, i < m) ∧ us.length = m ∧ dt.length = m := by
  obtain ⟨gu, gd, vr, vs, h⟩ := h
  exact ⟨h.siz, h.len.1, h.len.2.2⟩
theorem RAt.lt (h : RAt w S b m size row us dt) : S b ∧ ∀ k, S k → k < w.heap.size := by
  obtain ⟨gu, gd, vr, vs, h⟩ := h
  exact ⟨h.lie.1, h.lie.2.2.2⟩
theorem RAx.cells (h : RAx w S b gu gd m size vr vs row us dt) : w.cell? ⟨b, 0, none⟩ = some (.int .i64 size) ∧ w.cell? ⟨b, 1, none⟩ = some vr ∧ w.cell? ⟨b, 2, none⟩ = some (.slice (some ⟨gu, 0, none⟩) m m) ∧ w.cell? ⟨b, 3, none⟩ = some (.slice (some ⟨gd, 0, none⟩) m m) :=
  ⟨h.hb.cell 0, h.hb.cell 1, h.hb.cell 2, h.hb.cell 3⟩
theorem RAx.mark (h : RAx w S b gu gd m size vr vs row us dt) (n : Nat) (hn : n < m) : ∃ x, us[n]? = some x ∧ w.cell? ⟨gu, n, none⟩ = some (.bool x) := by
  have h1 : n < us.length := by have := h.len; omega
  refine ⟨us[n], List.getElem?_eq_getElem h1, ?_⟩
  rw [h.hu.cell]; simp [h1]
theorem RAx.at_ (h : RAx w S b gu gd m size vr vs row us dt) (n : Nat) (hn : n < m) : ∃ A c l, dt[n]? = some l ∧ vs[n]? = some (.slice A l.length c) ∧ w.cell? ⟨gd, n, none⟩ = some (.slice A l.length c) ∧
    Sl w (fun k => S k ∧ k ≠ b ∧ k ≠ gu ∧ k ≠ gd) (.slice A l.length c) (bv l) ∧ l.length ≤ c ∧ c ≤ 9223372036854775807 ∧ l.length ≤ size := by
  have h1 : n < vs.length := by have := h.len; omega
  have h2 : n < dt.length := by have := h.len; omega
  obtain ⟨ho, hs⟩ := h.rws n _ _ (List.getElem?_eq_getElem h1) (List.getElem?_eq_getElem h2)
  obtain ⟨A, n', c, e, hn', k1, k2, _⟩ := id ho
  rw [bv_length] at hn'
  subst hn'
  refine ⟨A, c, dt[n], List.getElem?_eq_getElem h2, by rw [List.getElem?_eq_getElem h1, e], ?_, by rw [← e]; exact ho, k1, k2, hs⟩
  rw [h.hd.cell]
  simp [h1, e]
theorem RAx.ne3 (h : RAx w S b gu gd m size vr vs row us dt) : b ≠ gu ∧ b ≠ gd ∧ gu ≠ gd := ⟨h.hb.ne_ h.hu (by decide), h.hb.ne_ h.hd (by decide), h.hu.ne_ h.hd (by decide)⟩
/-- A store into one of the three blocks turns no row. -/
theorem RAx.rowset (h : RAx w S b gu gd m size vr vs row us dt) {g i : Nat} (hg : g = b ∨ g = gu ∨ g = gd) (u : Value) {v : Value} {xs : List Value} (hv : Sl w (fun k => S k ∧ k ≠ b ∧ k ≠ gu ∧ k ≠ gd) v xs) : Sl (w.setCell ⟨g, i, none⟩ u) (fun k => S k ∧ k ≠ b ∧ k ≠ gu ∧ k ≠ gd) v xs :=
  hv.keptTo fun k hk => ⟨Below.heap_setCell _ _ _ _ (by simp; rcases hg with rfl | rfl | rfl; exact hk.2.1; exact hk.2.2.1; exact hk.2.2.2), hk⟩
theorem RAx.used (h : RAx w S b gu gd m size vr vs row us dt) (n : Nat) (x : Bool) : RAx (w.setCell ⟨gu, n, none⟩ (.bool x)) S b gu gd m size vr vs row (us.set n x) dt := by
  obtain ⟨n1, n2, n3⟩ := h.ne3
  exact ⟨h.hb.far n1 _, by simpa [List.map_set] using h.hu.set_ n (.bool x), h.hd.far n3.symm _, by simpa using h.len, h.rowset (.inr (.inl rfl)) _ h.sl, fun i v l hv hl => ⟨h.rowset (.inr (.inl rfl)) _ (h.rws i v l hv hl).1, (h.rws i v l hv hl).2⟩, ⟨h.lie.1, h.lie.2.1, h.lie.2.2.1, fun k hk => by simpa using h.lie.2.2.2 k hk⟩, h.siz⟩
/-- The row turned, to one that lies in old rows or new blocks. -/
theorem RAx.turn (h : RAx w S b gu gd m size vr vs row us dt) {w3 : World} (hF : Frm (fun _ => False) w w3) {v' : Value} {row' : List Nat} (hv : Sl w3 (fun k => (S k ∧ k ≠ b ∧ k ≠ gu ∧ k ≠ gd) ∨ (w.heap.size ≤ k ∧ k < w3.heap.size)) v' (row'.map nv)) (hl : row'.length ≤ m) (hi : ∀ i ∈ row', i < m) :
    ∃ S', RAx (w3.setCell ⟨b, 1, none⟩ v') S' b gu gd m size v' vs row' us dt ∧ (∀ k, S' k → S k ∨ w.heap.size ≤ k) ∧ Frm S w (w3.setCell ⟨b, 1, none⟩ v') := by
  obtain ⟨n1, n2, n3⟩ := h.ne3
  have h3 := h.keptF hF
  have hlt := h.lie.2.2.2
  refine ⟨fun k => S k ∨ (w.heap.size ≤ k ∧ k < w3.heap.size), ⟨by simpa using h3.hb.set_ 1 v', h3.hu.far n1.symm _, h3.hd.far n2.symm _, h.len, ?_, ?_, ⟨.inl h.lie.1, .inl h.lie.2.1, .inl h.lie.2.2.1, ?_⟩, h.siz.1, h.siz.2.1, h.siz.2.2.1, hl, hi⟩, ?_, ?_⟩
  · refine hv.keptTo fun k hk => ?_
    have hb := hlt _ h.lie.1; have hu := hlt _ h.lie.2.1; have hd := hlt _ h.lie.2.2.1
    rcases hk with hk | hk
    · exact ⟨Below.heap_setCell _ _ _ _ (by simp; exact hk.2.1), .inl hk.1, hk.2⟩
    · exact ⟨Below.heap_setCell _ _ _ _ (by simp; omega), .inr hk, by omega, by omega, by omega⟩
  · intro i v l hv hl
    exact ⟨(h3.rowset (.inl rfl) v' (h3.rws i v l hv hl).1).mono fun k hk => ⟨.inl hk.1, hk.2⟩, (h.rws i v l hv hl).2⟩
  · rintro k (hk | hk)
    · have := hlt k hk; have := hF.size; simp; omega
    · simpa using hk.2
  · rintro k (hk | hk)
    · exact .inl hk
    · exact .inr hk.1
  · exact (hF.mono fun _ h => h.elim).setCell ⟨b, 1, none⟩ (.inl h.lie.1) _
/-- A buffer's bytes turned. -/
theorem RAx.data (h : RAx w S b gu gd m size vr vs row us dt) {n : Nat} {w3 : World} (hF : Frm (fun _ => False) w w3) {v' : Value} {l' : List UInt8} (hv : Sl w3 (fun k => w.heap.size ≤ k ∧ k < w3.heap.size) v' (bv l')) (hl : l'.length ≤ size) :
    ∃ S', RAx (w3.setCell ⟨gd, n, none⟩ v') S' b gu gd m size vr (vs.set n v') row us (dt.set n l') ∧ (∀ k, S' k → S k ∨ w.heap.size ≤ k) ∧ Frm S w (w3.setCell ⟨gd, n, none⟩ v') := by
  obtain ⟨n1, n2, n3⟩ := h.ne3
  have h3 := h.keptF hF
  have hlt := h.lie.2.2.2
  refine ⟨fun k => S k ∨ (w.heap.size ≤ k ∧ k < w3.heap.size), ⟨h3.hb.far n2 _, h3.hu.far n3 _, by simpa using h3.hd.set_ n v', by simpa using h.len, (h3.rowset (.inr (.inr rfl)) v' h3.sl).mono fun k hk => ⟨.inl hk.1, hk.2⟩, ?_, ⟨.inl h.lie.1, .inl h.lie.2.1, .inl h.lie.2.2.1, ?_⟩, h.siz⟩, ?_, ?_⟩
  · intro i v l hv2 hl2
    by_cases hi : n = i
    · subst hi
      rw [List.getElem?_set] at hv2 hl2
      simp only [if_true] at hv2 hl2
      split at hv2
      · split at hl2
        · cases hv2; cases hl2
          refine ⟨hv.keptTo fun k hk => ?_, hl⟩
          have hb := hlt _ h.lie.1; have hu := hlt _ h.lie.2.1; have hd := hlt _ h.lie.2.2.1
          exact ⟨Below.heap_setCell _ _ _ _ (by simp; omega), .inr hk, by omega, by omega, by omega⟩
        · cases hl2
      · cases hv2
    · rw [List.getElem?_set_ne hi] at hv2 hl2
      exact ⟨(h3.rowset (.inr (.inr rfl)) v' (h3.rws i v l hv2 hl2).1).mono fun k hk => ⟨.inl hk.1, hk.2⟩, (h.rws i v l hv2 hl2).2⟩
  · rintro k (hk | hk)
    · have := hlt k hk; have := hF.size; simp; omega
    · simpa using hk.2
  · rintro k (hk | hk)
    · exact .inl hk
    · exact .inr hk.1
  · exact (hF.mono fun _ h => h.elim).setCell ⟨gd, n, none⟩ (.inl h.lie.2.2.1) _
theorem RLeft.trans {w1 : World} (h : Frm S w w1) {S1 : Nat → Prop} (hS : ∀ k, S1 k → S k ∨ w.heap.size ≤ k) (h' : RLeft S1 b m size row us dt w1 w') : RLeft S b m size row us dt w w' := by
  obtain ⟨S', h1, h2, h3⟩ := h'
  exact ⟨S', h1, fun k hk => (h2 k hk).elim (hS k) (fun hh => .inr (Nat.le_trans h.size hh)), h.trans h3 hS⟩
theorem RLeft.drewN (h : RLeft S b m size row us dt w w') (n : Nat) : RLeft S b m size row us dt w (w'.drewN n) := by
  obtain ⟨S', h1, h2, h3⟩ := h
  exact ⟨S', h1.drewN n, h2, h3.drewN n⟩
end
theorem rmay_any (many size : Int) (w : World) : Calls Try.prog 10 #[.int .i64 many, .int .i64 size] w fun e w' => e = .returned (.bool (mayB many size)) ∧ w = w' := by
  by_cases h1 : 1 ≤ many
  · by_cases h2 : many ≤ 16
    · by_cases h3 : 1 ≤ size
      · have hd : mayB many size = decide (size ≤ 288) := by unfold mayB; rw [decide_eq_decide]; omega
        rw [hd]; clear hd
        go_enter Try.func10, Try.ntmps10
        go_wp2
        go_ret
        exact ⟨rfl, rfl⟩
      · have hd : mayB many size = false := by unfold mayB; simp; omega
        rw [hd]; clear hd
        go_enter Try.func10, Try.ntmps10
        go_wp2
        go_ret
        exact ⟨rfl, rfl⟩
    · have hd : mayB many size = false := by unfold mayB; simp; omega
      rw [hd]; clear hd
      go_enter Try.func10, Try.ntmps10
      go_wp2
      go_ret
      exact ⟨rfl, rfl⟩
  · have hd : mayB many size = false := by unfold mayB; simp; omega
    rw [hd]; clear hd
    go_enter Try.func10, Try.ntmps10
    go_wp2
    go_ret
    exact ⟨rfl, rfl⟩
theorem uses_any (S : Nat → Prop) (b m size : Nat) (row : List Nat) (us : List Bool) (dt : List (List UInt8)) (n : Int) (w : World) (h : RAt w S b m size row us dt) :
    Calls Try.prog 27 #[.pointer (some ⟨b, 0, none⟩), .int .i64 n] w fun e w' => e = .returned (.bool (inUse us n)) ∧ w = w' := by
  obtain ⟨gu, gd, vr, vs, h⟩ := h
  obtain ⟨c0, c1, c2, c3⟩ := h.cells
  by_cases h0 : 0 ≤ n
  · obtain ⟨k, rfl⟩ := Int.eq_ofNat_of_zero_le h0
    have hd0 : decide ((0 : Int) ≤ (k : Int)) = true := by simp
    by_cases hk : k < m
    · obtain ⟨x, hx, cm⟩ := h.mark k hk
      have e : inUse us (k : Int) = x := by simp [inUse, List.getD, hx]
      rw [e]
      clear h c0 c1 c3 e hx
      go_enter Try.func27, Try.ntmps27
      go_wp2
      go_ret
      exact ⟨rfl, rfl⟩
    · have e : inUse us (k : Int) = false := by
        have : us.length ≤ k := by have := h.len; omega
        simp [inUse, List.getD, this]
      rw [e]
      clear h c0 c1 c3 e
      go_enter Try.func27, Try.ntmps27
      go_wp2
      go_ret
      exact ⟨rfl, rfl⟩
  · have hd0 : decide ((0 : Int) ≤ n) = false := by simpa using h0
    have e : inUse us n = false := by simp only [inUse, hd0, Bool.false_and]
    rw [e]
    clear h c0 c1 c2 c3 e
    go_enter Try.func27, Try.ntmps27
    go_wp2
    go_ret
    exact ⟨rfl, rfl⟩
theorem rtake_no (S : Nat → Prop) (b m size : Nat) (us : List Bool) (dt : List (List UInt8)) (w : World) (h : RAt w S b m size [] us dt) :
    Calls Try.prog 13 #[.pointer (some ⟨b, 0, none⟩)] w fun e w' => e = .returned (.tuple #[.int .i64 0, .bool false]) ∧ w = w' := by
  obtain ⟨gu, gd, vr, vs, h⟩ := h
  obtain ⟨c0, c1, c2, c3⟩ := h.cells
  obtain ⟨A, n, c, rfl, hn, _⟩ := h.sl
  simp only [List.map_nil, List.length_nil] at hn
  subst hn
  clear h c0 c2 c3
  go_enter Try.func13, Try.ntmps13
  go_wp2_with fail
  go_ret2
  exact ⟨rfl, rfl⟩
theorem rtake_ok (S : Nat → Prop) (b m size n : Nat) (row : List Nat) (us : List Bool) (dt : List (List UInt8)) (w : World) (h : RAt w S b m size (n :: row) us dt) :
    Calls Try.prog 13 #[.pointer (some ⟨b, 0, none⟩)] w (RP (.tuple #[.int .i64 n, .bool true]) S b m size row (us.set n true) (dt.set n []) w) := by
  have hnm : n < m := h.sz.1.2.2.2.2 n (by simp)
  have hm16 := h.sz.1.2.1
  have hrl := h.sz.1.2.2.2.1
  obtain ⟨gu, gd, vr, vs, h⟩ := h
  obtain ⟨c0, c1, c2, c3⟩ := h.cells
  obtain ⟨A, N, c, rfl, hN, hNc, hcm, hx⟩ := id h.sl
  simp only [List.map_cons, List.length_cons, List.length_map] at hN hrl
  have hdr := run_drop (P := Try.prog) (sz := 1) Try.underlying41 (fun w => by kernel_rfl) A N c 1 (by omega) (by omega)
  simp only [show (1 : Int).toNat = 1 from rfl, Nat.mul_one] at hdr
  obtain ⟨g, o, rfl, hg, hcs⟩ := hx.resolve_left (by omega)
  have cx : w.cell? ⟨g, o, none⟩ = some (.int .i64 n) := by have := hcs 0 (by simp); simpa [nv] using this
  have hsd := h.sl.drop 1 (by omega)
  have hz : ((N : Int) == 0) = false := by simp; omega
  have hN0 : 0 < N := by omega
  obtain ⟨y, hy, cm⟩ := h.mark n hnm
  have fb := h.hb.frozen 1
  have fu := h.hu.frozen n
  have fd := h.hd.frozen n
  obtain ⟨n1, n2, n3⟩ := h.ne3
  obtain ⟨Ad, cd, ld, hld, hvd, cr, _⟩ := h.at_ n hnm
  simp only [List.map_cons, List.drop_succ_cons, List.drop_zero] at hsd
  generalize (if c = 1 then some (⟨g, o, none⟩ : Addr) else (some (⟨g, o, none⟩ : Addr)).map (·.add 1)) = A2 at *
  have H := Lib.hid (And.intro h (And.intro hsd hN))
  clear h hsd hN hx hcs hy hld hvd c0
  go_enter Try.func13, Try.ntmps13
  go_wp2_with fail
  go_ret2
  obtain ⟨h, hsd, hN⟩ := H.out
  obtain ⟨S1, q1, q2, q3⟩ := h.turn (Frm.refl _ w) (row' := row) (hsd.mono fun k hk => .inl hk) (by omega) (fun i hi => h.siz.2.2.2.2 i (by simp [hi]))
  obtain ⟨S2, p1, p2, p3⟩ := (q1.used n true).data (n := n) (Frm.refl _ _) (v' := .slice none 0 0) (l' := []) (Sl.nil_ _ _) (by simp)
  exact ⟨rfl, S2, ⟨gu, gd, _, _, p1⟩, fun k hk => (p2 k hk).elim (q2 k) (fun hh => .inr (by simpa using hh)), (q3.setCell ⟨gu, n, none⟩ (.inl h.lie.2.1) _).trans p3 (fun k hk => q2 k hk)⟩
theorem rgive_no (S : Nat → Prop) (b m size : Nat) (row : List Nat) (us : List Bool) (dt : List (List UInt8)) (n : Int) (w : World) (h : RAt w S b m size row us dt) (hu : inUse us n = false) :
    Calls Try.prog 15 #[.pointer (some ⟨b, 0, none⟩), .int .i64 n] w fun e w' => e = .returned (.bool false) ∧ w = w' := by
  have H := uses_any S b m size row us dt n w h
  rw [hu] at H
  have H := Lib.hid H
  clear h hu
  go_enter Try.func15, Try.ntmps15
  go_wp2_with fail
  refine H.out.mono ?_
  rintro e w' ⟨rfl, rfl⟩
  go_wp2_with fail
  go_ret
  exact ⟨rfl, rfl⟩
set_option maxHeartbeats 1000000 in
theorem rgive_ok (S : Nat → Prop) (b m size n : Nat) (row : List Nat) (us : List Bool) (dt : List (List UInt8)) (w : World) (h : RAt w S b m size row us dt) (hu : us[n]? = some true) (hl : row.length < m) :
    Calls Try.prog 15 #[.pointer (some ⟨b, 0, none⟩), .int .i64 n] w (RP (.bool true) S b m size (n :: row) (us.set n false) (dt.set n []) w) := by
  have hhas := uses_any S b m size row us dt n w h
  have e : inUse us (n : Int) = true := by simp [inUse, List.getD, hu]
  rw [e] at hhas
  have hnm : n < m := by have := (List.getElem?_eq_some_iff.1 hu).1; have := h.sz.2.1; omega
  have hm16 := h.sz.1.2.1
  obtain ⟨i0, hi, hz0, hz1, hz2⟩ := info_parts infoI
  obtain ⟨gu, gd, vr, vs, h⟩ := h
  obtain ⟨c0, c1, c2, c3⟩ := h.cells
  obtain ⟨A, N, c, rfl, hN, hNc, hcm, hx⟩ := id h.sl
  obtain ⟨y, hy, cm⟩ := h.mark n hnm
  have fb := h.hb.frozen 1
  have fu := h.hu.frozen n
  have fd := h.hd.frozen n
  obtain ⟨n1, n2, n3⟩ := h.ne3
  obtain ⟨Ad, cd, ld, hld, hvd, cr, _⟩ := h.at_ n hnm
  have hbl := h.hb.lt
  rw [List.length_map] at hN
  have H := Lib.hid (And.intro h hN)
  have Hh := Lib.hid hhas
  clear hx hy hld hvd c0 hu e hhas hN h
  go_enter Try.func15, Try.ntmps15
  go_wp2_with fail
  refine Hh.out.mono ?_
  rintro e w' ⟨rfl, rfl⟩
  clear Hh
  go_upto_region 5 with fail
  have hq1 := H.out.1.used n false
  obtain ⟨S2, p1, p2, p3⟩ := hq1.data (n := n) (Frm.refl _ _) (v' := .slice none 0 0) (l' := []) (Sl.nil_ _ _) (by simp)
  have hfr : Frm S w ((w.setCell ⟨gu, n, none⟩ (.bool false)).setCell ⟨gd, n, none⟩ (.slice none 0 0)) := ((Frm.refl S w).setCell ⟨gu, n, none⟩ (.inl H.out.1.lie.2.1) _).setCell ⟨gd, n, none⟩ (.inl H.out.1.lie.2.2.1) _
  have hsz : ((w.setCell ⟨gu, n, none⟩ (.bool false)).setCell ⟨gd, n, none⟩ (.slice none 0 0)).heap.size = w.heap.size := by simp
  replace p2 : ∀ k, S2 k → S k ∨ w.heap.size ≤ k := fun k hk => by simpa using p2 k hk
  have H2 := Lib.hid (And.intro p1 (And.intro p2 (And.intro hfr hsz)))
  have hsl2 := p1.sl
  obtain ⟨d0, d1, d2, d3⟩ := p1.cells
  have fb2 := p1.hb.frozen 1
  have hbl2 := p1.hb.lt
  clear hq1 p1 p2 p3 hfr hsz c1 c2 c3 cm fb fu fd cr hbl
  generalize (w.setCell ⟨gu, n, none⟩ (.bool false)).setCell ⟨gd, n, none⟩ (.slice none 0 0) = w2 at *
  have Hs := Lib.hid hsl2
  clear hsl2
  go_wp2_with (at_builtin; refine wpList_append_sl (by rfl) _ _ 41 (by rfl) w2.heap.size 3 i0 (.int .i64 0) 8 Try.underlying41 hi hz0 hz1 hz2 (by rfl) _ 1 [.int .i64 n] (by rfl) (own_new1 rfl (Nat.le_refl _)) (fun k => k < w2.heap.size) _ (row.map nv) (by rfl) (by exact Hs.out.keptTo fun k hk => ⟨Below.heap_alloc _ _ _ (H2.out.1.lie.2.2.2 k hk.1), H2.out.1.lie.2.2.2 k hk.1⟩) (by intro u hu; obtain ⟨x, _, rfl⟩ := List.mem_map.1 hu; rfl) (by unfold maxLen; rw [List.length_map]; omega) (by rw [List.length_map]; omega) (by simp) ?_; intro A3 N3 c3' w3 HN3 hNc3 hc3 hown3 hg3 hat3; have hF3 : Frm (fun _ => False) w2 w3 := ((Frm.refl _ w2).alloc _).grown hg3 (fun k hk => Or.inr (by have h : some w2.heap.size = some k := hk; injection h; omega)); have e1 := hF3.cell d1 id; have f1 := (hF3.frozen (a := ⟨b, 1, none⟩) hbl2 id).trans fb2; have H3 := Lib.hid (And.intro hown3 hF3); clear hown3 hF3 hg3 hat3)
  go_ret
  obtain ⟨hown3, hF3⟩ := H3.out
  obtain ⟨p1, p2, hfr, hsz⟩ := H2.out
  obtain ⟨S3, r1, r2, r3⟩ := p1.turn hF3 (v' := .slice A3 N3 c3') (row' := n :: row) (by
    have := (OSl.of_own (K := fun k => w2.heap.size ≤ k ∧ k < w3.heap.size) (e := 3) (v := .slice A3 N3 c3') (xs := nv n :: row.map nv) (by simpa [nv] using hown3) (fun g hg => hown3.lt g hg)).sl
    exact this.mono fun k hk => .inr hk.1) (by simp; omega) (by intro i hi; rcases List.mem_cons.1 hi with rfl | h; exact hnm; exact H.out.1.siz.2.2.2.2 i h)
  exact ⟨rfl, S3, ⟨gu, gd, _, _, r1⟩, fun k hk => (r2 k hk).elim (fun h => p2 k h) (fun hh => .inr (by omega)), hfr.trans r3 (fun k hk => p2 k hk)⟩
end Go.Proofs.Ytkmammeaidfaaaa
