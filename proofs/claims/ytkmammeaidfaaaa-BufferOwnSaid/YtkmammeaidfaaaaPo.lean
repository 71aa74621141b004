/- The walks of package buffer: the free row, the buffers. -/
import Derived.Test.YtkmammeaidfaaaaLib
import Derived.BigRegion
import Derived.StillTailTactics
namespace Go.Proofs.Ytkmammeaidfaaaa
open Go.RowKit
theorem infoI : (Try.prog.info? 3).map (fun i => (i.zero, i.size, i.bytes)) = some (some (.int .i64 0), 1, 8) := by kernel_rfl
theorem infoB : (Try.prog.info? 5).map (fun i => (i.zero, i.size, i.bytes)) = some (some (.int .u8 0), 1, 1) := by kernel_rfl
def nv (n : Nat) : Value := .int .i64 (n : Int)
/-- The buffers' rows: each of the call's own, no two of them one. -/
def Rws (w : World) (size : Nat) (vs : List Value) (dt : List (List UInt8)) : Prop :=
  (∀ (i : Nat) v l, vs[i]? = some v → dt[i]? = some l → w.ownsRow 0 5 1 v l.length (bv l) ∧ l.length ≤ size) ∧ ∀ (i j : Nat) v u k, vs[i]? = some v → vs[j]? = some u → v.ownBlock = some k → u.ownBlock = some k → i = j
/-- A pool: its block b, how many buffers, their room; the free numbers (the last is next), which are in use, the bytes. It lies in the blocks of S. -/
structure PAx (w : World) (S : Nat → Prop) (b gu gd m size : Nat) (vf : Value) (vs : List Value) (fr : List Nat) (us : List Bool) (dt : List (List UInt8)) : Prop where
  hb : Blk w b 56 #[vf, .int .i64 size, .slice (some ⟨gu, 0, none⟩) m m, .slice (some ⟨gd, 0, none⟩) m m]
  hu : Blk w gu 4 (us.map Value.bool).toArray
  hd : Blk w gd 32 vs.toArray
  len : us.length = m ∧ vs.length = m ∧ dt.length = m
  own : w.ownsRow 0 3 1 vf fr.length (fr.map nv)
  rws : Rws w size vs dt
  lie : S b ∧ S gu ∧ S gd ∧ (∀ k, vf.ownBlock = some k → S k) ∧ (∀ v ∈ vs, ∀ k, v.ownBlock = some k → S k) ∧ ∀ k, S k → k < w.heap.size
  siz : 1 ≤ m ∧ m ≤ 16 ∧ size ≤ 288 ∧ fr.length ≤ m ∧ ∀ i ∈ fr, i < m
def PAt (w : World) (S : Nat → Prop) (b m size : Nat) (fr : List Nat) (us : List Bool) (dt : List (List UInt8)) : Prop := ∃ gu gd vf vs, PAx w S b gu gd m size vf vs fr us dt
/-- What a call leaves: its answer, the pool in blocks that it had or that are new, all else as it was. -/
def Left (S : Nat → Prop) (b m size : Nat) (fr : List Nat) (us : List Bool) (dt : List (List UInt8)) (w w' : World) : Prop :=
  ∃ S', PAt w' S' b m size fr us dt ∧ (∀ k, S' k → S k ∨ w.heap.size ≤ k) ∧ Frm S w w'
def PP (v : Value) (S : Nat → Prop) (b m size : Nat) (fr : List Nat) (us : List Bool) (dt : List (List UInt8)) (w : World) (e : Ending) (w' : World) : Prop := e = .returned v ∧ Left S b m size fr us dt w w'
section
variable {w w' : World} {S : Nat → Prop} {b gu gd m size : Nat} {vf : Value} {vs : List Value} {fr : List Nat} {us : List Bool} {dt : List (List UInt8)}
theorem Rws.kept (h : Rws w size vs dt) {K : Nat → Prop} (hF : Frm K w w') (hK : ∀ v ∈ vs, ∀ k, v.ownBlock = some k → ¬ K k) : Rws w' size vs dt :=
  ⟨fun i v l hv hl => ⟨hF.own (h.1 i v l hv hl).1 fun g hg => hK v (List.mem_of_getElem? hv) g hg, (h.1 i v l hv hl).2⟩, h.2⟩
theorem PAx.kept (h : PAx w S b gu gd m size vf vs fr us dt) {K : Nat → Prop} (hF : Frm K w w') (hK : ∀ k, S k → ¬ K k) : PAx w' S b gu gd m size vf vs fr us dt := by
  obtain ⟨h1, h2, h3, h4, h5, h6, ⟨s1, s2, s3, s4, s5, s6⟩, h8⟩ := h
  exact ⟨h1.kept hF (hK _ s1), h2.kept hF (hK _ s2), h3.kept hF (hK _ s3), h4, hF.own h5 fun g hg => hK g (s4 g hg), h6.kept hF fun v hv k hk => hK k (s5 v hv k hk), ⟨s1, s2, s3, s4, s5, fun k hk => Nat.lt_of_lt_of_le (s6 k hk) hF.size⟩, h8⟩
theorem PAx.keptF (h : PAx w S b gu gd m size vf vs fr us dt) (hF : Frm (fun _ => False) w w') : PAx w' S b gu gd m size vf vs fr us dt := h.kept hF fun _ _ => id
theorem PAx.drewN (h : PAx w S b gu gd m size vf vs fr us dt) (n : Nat) : PAx (w.drewN n) S b gu gd m size vf vs fr us dt := h.keptF ((Frm.refl _ w).drewN n)
theorem PAt.kept (h : PAt w S b m size fr us dt) {K : Nat → Prop} (hF : Frm K w w') (hK : ∀ k, S k → ¬ K k) : PAt w' S b m size fr us dt := by
  obtain ⟨gu, gd, vf, vs, h⟩ := h
  exact ⟨gu, gd, vf, vs, h.kept hF hK⟩
theorem PAt.keptF (h : PAt w S b m size fr us dt) (hF : Frm (fun _ => False) w w') : PAt w' S b m size fr us dt := h.kept hF fun _ _ => id
theorem PAt.drewN (h : PAt w S b m size fr us dt) (n : Nat) : PAt (w.drewN n) S b m size fr us dt := h.keptF ((Frm.refl _ w).drewN n)
theorem PAt.sz (h : PAt w S b m size fr us dt) : (1 ≤ m ∧ m ≤ 16 ∧ size ≤ 288 ∧ fr.length ≤ m ∧ ∀ i ∈ fr, i < m) ∧ us.length = m ∧ dt.length = m := by
  obtain ⟨gu, gd, vf, vs, h⟩ := h
  exact ⟨h.siz, h.len.1, h.len.2.2⟩
theorem PAt.lt (h : PAt w S b m size fr us dt) : S b ∧ ∀ k, S k → k < w.heap.size := by
  obtain ⟨gu, gd, vf, vs, h⟩ := h
  exact ⟨h.lie.1, h.lie.2.2.2.2.2⟩
theorem PAt.left (h : PAt w S b m size fr us dt) (hF : Frm (fun _ => False) w w') : Left S b m size fr us dt w w' := ⟨S, h.keptF hF, fun _ => .inl, hF.mono fun _ h => h.elim⟩
theorem Left.trans {w1 : World} (h : Frm S w w1) {S1 : Nat → Prop} (hS : ∀ k, S1 k → S k ∨ w.heap.size ≤ k) (h' : Left S1 b m size fr us dt w1 w') : Left S b m size fr us dt w w' := by
  obtain ⟨S', h1, h2, h3⟩ := h'
  exact ⟨S', h1, fun k hk => (h2 k hk).elim (hS k) (fun hh => .inr (Nat.le_trans h.size hh)), h.trans h3 hS⟩
theorem Left.drewN (h : Left S b m size fr us dt w w') (n : Nat) : Left S b m size fr us dt w (w'.drewN n) := by
  obtain ⟨S', h1, h2, h3⟩ := h
  exact ⟨S', h1.drewN n, h2, h3.drewN n⟩
/-- A row that is not of the pool's own kind is no row of the buffers. -/
theorem PAx.row_ne (h : PAx w S b gu gd m size vf vs fr us dt) {t : TypeId} {g : Nat} {cs : Array Value} (hb : Blk w g t cs) (ht : t ≠ 5) : ∀ v ∈ vs, v.ownBlock ≠ some g := fun v hv => by
  obtain ⟨i, hi, rfl⟩ := List.getElem_of_mem hv
  have hl : i < dt.length := by have := h.len; omega
  exact own_blk_ne (h.rws.1 i _ _ (List.getElem?_eq_getElem hi) (List.getElem?_eq_getElem hl)).1 hb (Ne.symm ht)
theorem own_far {w : World} {g i : Nat} {t t' : TypeId} {cs : Array Value} {v u : Value} {n sz : Nat} {xs : List Value} (ho : w.ownsRow 0 t sz v n xs) (hb : Blk w g t' cs) (hne : t ≠ t') : (w.setCell ⟨g, i, none⟩ u).ownsRow 0 t sz v n xs :=
  ((Frm.refl (fun k => k = g) w).setCell ⟨g, i, none⟩ (.inl rfl) u).own ho fun g' hg e => by subst e; exact own_blk_ne ho hb hne hg
/-- The free row turned. -/
theorem PAx.free (h : PAx w S b gu gd m size vf vs fr us dt) {w3 : World} {v' : Value} {fr' : List Nat} {K : Nat → Prop} (hF : Frm K w w3) (hK : ∀ k, K k → vf.ownBlock = some k)
    (ho : w3.ownsRow 0 3 1 v' fr'.length (fr'.map nv)) (hat : ∀ k, v'.ownBlock = some k → vf.ownBlock = some k ∨ w.heap.size ≤ k) (hl : fr'.length ≤ m) (hi : ∀ i ∈ fr', i < m) : Left S b m size fr' us dt w (w3.setCell ⟨b, 0, none⟩ v') := by
  obtain ⟨g1, g2, g3, h4, h5, h6, ⟨s1, s2, s3, s4, s5, s6⟩, h8⟩ := id h
  have hb : ¬ K b := fun hk => own_blk_ne h5 g1 (by decide) (hK _ hk)
  have hu : ¬ K gu := fun hk => own_blk_ne h5 g2 (by decide) (hK _ hk)
  have hd : ¬ K gd := fun hk => own_blk_ne h5 g3 (by decide) (hK _ hk)
  have k1 := (g1.kept hF hb).set_ 0 v'
  have hFr : Frm S w (w3.setCell ⟨b, 0, none⟩ v') := (hF.mono fun k hk => .inl (s4 k (hK k hk))).setCell ⟨b, 0, none⟩ (.inl s1) v'
  have hrow : ∀ v ∈ vs, ∀ k, v.ownBlock = some k → ¬ K k := fun v hv k hk hK' => by
    obtain ⟨i, hi, rfl⟩ := List.getElem_of_mem hv
    have hl : i < dt.length := by omega
    obtain ⟨cs, hb'⟩ := own_blk (h6.1 i _ _ (List.getElem?_eq_getElem hi) (List.getElem?_eq_getElem hl)).1 k hk
    exact own_blk_ne h5 hb' (by decide) (hK _ hK')
  refine ⟨fun k => S k ∨ v'.ownBlock = some k, ⟨gu, gd, v', vs, by simpa using k1, (g2.kept hF hu).far (g2.ne_ g1 (by decide)) _, (g3.kept hF hd).far (g3.ne_ g1 (by decide)) _, h4, own_far ho (g1.kept hF hb) (by decide), ?_, ⟨.inl s1, .inl s2, .inl s3, fun k hk => .inr hk, fun v hv k hk => .inl (s5 v hv k hk), ?_⟩, h8.1, h8.2.1, h8.2.2.1, hl, hi⟩, ?_, hFr⟩
  · have h7 := h6.kept hF hrow
    exact ⟨fun i v l hv hl => ⟨own_far (h7.1 i v l hv hl).1 (g1.kept hF hb) (by decide), (h7.1 i v l hv hl).2⟩, h7.2⟩
  · rintro k (hk | hk)
    · have := s6 k hk; have := hFr.size; omega
    · simpa using (ho.lt k hk).2
  · rintro k (hk | hk)
    · exact .inl hk
    · rcases hat k hk with h | h
      · exact .inl (s4 k h)
      · exact .inr h
/-- A buffer's mark turned. -/
theorem PAx.used (h : PAx w S b gu gd m size vf vs fr us dt) (n : Nat) (x : Bool) : PAx (w.setCell ⟨gu, n, none⟩ (.bool x)) S b gu gd m size vf vs fr (us.set n x) dt ∧ Frm S w (w.setCell ⟨gu, n, none⟩ (.bool x)) := by
  obtain ⟨g1, g2, g3, h4, h5, h6, ⟨s1, s2, s3, s4, s5, s6⟩, h8⟩ := id h
  refine ⟨⟨g1.far (g1.ne_ g2 (by decide)) _, by simpa [List.map_set] using g2.set_ n (.bool x), g3.far (g3.ne_ g2 (by decide)) _, by simpa using h4, own_far h5 g2 (by decide), ⟨fun i v l hv hl => ⟨own_far (h6.1 i v l hv hl).1 g2 (by decide), (h6.1 i v l hv hl).2⟩, h6.2⟩, ⟨s1, s2, s3, s4, s5, fun k hk => by simpa using s6 k hk⟩, h8⟩, (Frm.refl S w).setCell ⟨gu, n, none⟩ (.inl s2) _⟩
/-- A buffer's bytes turned. -/
theorem PAx.data (h : PAx w S b gu gd m size vf vs fr us dt) {n : Nat} (hn : n < vs.length) {w3 : World} {v' : Value} {l' : List UInt8} {K : Nat → Prop} (hF : Frm K w w3) (hK : ∀ k, K k → vs[n].ownBlock = some k)
    (ho : w3.ownsRow 0 5 1 v' l'.length (bv l')) (hat : ∀ k, v'.ownBlock = some k → vs[n].ownBlock = some k ∨ w.heap.size ≤ k) (hl : l'.length ≤ size) : Left S b m size fr us (dt.set n l') w (w3.setCell ⟨gd, n, none⟩ v') := by
  obtain ⟨g1, g2, g3, h4, h5, h6, ⟨s1, s2, s3, s4, s5, s6⟩, h8⟩ := id h
  have hln : n < dt.length := by omega
  have hon := (h6.1 n _ _ (List.getElem?_eq_getElem hn) (List.getElem?_eq_getElem hln)).1
  have hmem : vs[n] ∈ vs := List.getElem_mem hn
  have hb : ¬ K b := fun hk => own_blk_ne hon g1 (by decide) (hK _ hk)
  have hu : ¬ K gu := fun hk => own_blk_ne hon g2 (by decide) (hK _ hk)
  have hd : ¬ K gd := fun hk => own_blk_ne hon g3 (by decide) (hK _ hk)
  have hfr : ∀ k, vf.ownBlock = some k → ¬ K k := fun k hk hk' => by
    obtain ⟨cs, hb'⟩ := own_blk hon k (hK k hk')
    exact own_blk_ne h5 hb' (by decide) hk
  have hFr : Frm S w (w3.setCell ⟨gd, n, none⟩ v') := (hF.mono fun k hk => .inl (s5 _ hmem k (hK k hk))).setCell ⟨gd, n, none⟩ (.inl s3) v'
  have hcase : ∀ (i : Nat) v, (vs.set n v')[i]? = some v → (i = n ∧ v = v') ∨ (i ≠ n ∧ vs[i]? = some v) := fun i v hv => by
    by_cases hi : n = i
    · subst hi; rw [List.getElem?_set_self hn] at hv; exact .inl ⟨rfl, (Option.some.inj hv).symm⟩
    · rw [List.getElem?_set_ne hi] at hv; exact .inr ⟨Ne.symm hi, hv⟩
  have hold : ∀ (i : Nat) v k, i ≠ n → vs[i]? = some v → v.ownBlock = some k → vs[n].ownBlock ≠ some k := fun i v k hi hv hk h => hi (h6.2 i n v _ k hv (List.getElem?_eq_getElem hn) hk h)
  have holt : ∀ (i : Nat) v k, vs[i]? = some v → v.ownBlock = some k → k < w.heap.size := fun i v k hv hk => s6 k (s5 v (List.mem_of_getElem? hv) k hk)
  refine ⟨fun k => S k ∨ v'.ownBlock = some k, ⟨gu, gd, vf, vs.set n v', (g1.kept hF hb).far (g1.ne_ g3 (by decide)) _, (g2.kept hF hu).far (g2.ne_ g3 (by decide)) _, by simpa using (g3.kept hF hd).set_ n v', by simpa using h4, own_far (hF.own h5 hfr) (g3.kept hF hd) (by decide), ⟨?_, ?_⟩, ⟨.inl s1, .inl s2, .inl s3, fun k hk => .inl (s4 k hk), ?_, ?_⟩, h8⟩, ?_, hFr⟩
  · intro i v l hv hl2
    rcases hcase i v hv with ⟨rfl, rfl⟩ | ⟨hi, hv⟩
    · rw [List.getElem?_set_self hln] at hl2
      cases hl2
      exact ⟨own_far ho (g3.kept hF hd) (by decide), hl⟩
    · rw [List.getElem?_set_ne (Ne.symm hi)] at hl2
      have := h6.1 i v l hv hl2
      exact ⟨own_far (hF.own this.1 fun k hk hk' => hold i v k hi hv hk (hK k hk')) (g3.kept hF hd) (by decide), this.2⟩
  · intro i j v u k hv hu hk1 hk2
    rcases hcase i v hv with ⟨rfl, rfl⟩ | ⟨hi, hv'⟩ <;> rcases hcase j u hu with ⟨rfl, rfl⟩ | ⟨hj, hu'⟩
    · rfl
    · rcases hat k hk1 with h | h
      · exact absurd h (hold j u k hj hu' hk2)
      · have := holt j u k hu' hk2; omega
    · rcases hat k hk2 with h | h
      · exact absurd h (hold i v k hi hv' hk1)
      · have := holt i v k hv' hk1; omega
    · exact h6.2 i j v u k hv' hu' hk1 hk2
  · intro v hv k hk
    rcases List.mem_or_eq_of_mem_set hv with h | h
    · exact .inl (s5 v h k hk)
    · subst h; exact .inr hk
  · rintro k (hk | hk)
    · have := s6 k hk; have := hFr.size; omega
    · simpa using (ho.lt k hk).2
  · rintro k (hk | hk)
    · exact .inl hk
    · rcases hat k hk with h | h
      · exact .inl (s5 _ hmem k h)
      · exact .inr h
end
theorem push_any (S : Nat → Prop) (b m size n : Nat) (fr : List Nat) (us : List Bool) (dt : List (List UInt8)) (w : World) (h : PAt w S b m size fr us dt) (hn : n < m) (hl : fr.length < m) :
    Calls Try.prog 24 #[.pointer (some ⟨b, 0, none⟩), .int .i64 n] w fun e w' => (∃ v, e = .returned v) ∧ Left S b m size (fr ++ [n]) us dt w w' := by
  obtain ⟨i0, hi, hz0, hz1, hz2⟩ := info_parts infoI
  obtain ⟨gu, gd, vf, vs, h⟩ := h
  obtain ⟨h1, h2, h3, h4, h5, h6, hS, h8⟩ := id h
  obtain ⟨Af, cf, rfl, hc1, hc2⟩ := own_form h5
  have c0 := h1.cell 0
  have f0 := h1.frozen 0
  have hbl := h1.lt
  have hfl : fr.length < 16 := by omega
  have H := Lib.hid (And.intro h (And.intro h1 (And.intro h5 h8)))
  simp only [List.getElem?_toArray, List.getElem?_cons_zero] at c0
  clear h h1 h2 h3 h4 h5 h6 hS h8
  generalize hL : fr.length = L at *
  have HL := Lib.hid hL
  clear hL
  go_enter Try.func24, Try.ntmps24
  go_wp2_with (at_builtin; refine wpList_append_sl (by rfl) _ _ 41 (by rfl) 0 3 i0 (.int .i64 0) 8 Try.underlying41 hi hz0 hz1 hz2 (by rfl) _ L _ (by rfl) (by exact H.out.2.2.1.alloc _) (fun q => q = w.heap.size) _ [.int .i64 n] (by rfl) (by exact Sl.blk1 w _ _) (by simp [Value.oneCell']) (by unfold maxLen; simp; omega) (by simp; omega) (by omega) ?_; intro A3 N3 c3 w3 HN3 hNc3 hc3 hown3 hg3 hat3; have hF3 : Frm (fun k => (Value.slice Af L cf).ownBlock = some k) w w3 := ((Frm.refl _ w).alloc _).grown hg3 (fun k hk => .inl hk); have e0 := hF3.cell c0 (by exact own_blk_ne H.out.2.2.1 H.out.2.1 (by decide)); have g0 := (hF3.frozen (a := ⟨b, 0, none⟩) hbl (by exact own_blk_ne H.out.2.2.1 H.out.2.1 (by decide))).trans f0; have H3 := Lib.hid (And.intro hown3 (And.intro hat3 hF3)); clear hown3 hat3 hF3 hg3)
  go_end0
  obtain ⟨hown3, hat3, hF3⟩ := H3.out
  refine ⟨⟨_, rfl⟩, H.out.1.free hF3 (fun k hk => hk) (fr' := fr ++ [n]) ?_ ?_ (by have := HL.out; simp; omega) ?_⟩
  · have e : (fr ++ [n]).length = N3 := by have := HN3.out; have := HL.out; simp at *; omega
    rw [e]
    simpa [nv] using hown3
  · intro k hk
    rcases hat3 with e | e
    · exact .inl (e ▸ hk)
    · rw [e] at hk; cases hk; right; simp
  · intro i hi
    rcases List.mem_append.1 hi with h | h
    · exact H.out.2.2.2.2.2.2.2 i h
    · simp at h; omega
theorem pop_no (S : Nat → Prop) (b m size : Nat) (us : List Bool) (dt : List (List UInt8)) (w : World) (h : PAt w S b m size [] us dt) :
    Calls Try.prog 25 #[.pointer (some ⟨b, 0, none⟩)] w fun e w' => e = .returned (.tuple #[.int .i64 0, .bool false]) ∧ w = w' := by
  obtain ⟨gu, gd, vf, vs, h⟩ := h
  obtain ⟨h1, h2, h3, h4, h5, h6, hS, h8⟩ := id h
  obtain ⟨Af, cf, rfl, hc1, hc2⟩ := own_form h5
  have c0 := h1.cell 0
  simp only [List.getElem?_toArray, List.getElem?_cons_zero, List.length_nil] at c0
  clear h h1 h2 h3 h4 h5 h6 hS h8
  go_enter Try.func25, Try.ntmps25
  go_wp2_with fail
  go_ret2
  exact ⟨rfl, rfl⟩
theorem pop_ok (S : Nat → Prop) (b m size n : Nat) (fr : List Nat) (us : List Bool) (dt : List (List UInt8)) (w : World) (h : PAt w S b m size (fr ++ [n]) us dt) :
    Calls Try.prog 25 #[.pointer (some ⟨b, 0, none⟩)] w (PP (.tuple #[.int .i64 n, .bool true]) S b m size fr us dt w) := by
  obtain ⟨gu, gd, vf, vs, h⟩ := h
  obtain ⟨h1, h2, h3, h4, h5, h6, hS, h8⟩ := id h
  obtain ⟨Af, cf, rfl, hc1, hc2⟩ := own_form h5
  have c0 := h1.cell 0
  have f0 := h1.frozen 0
  obtain ⟨g, rfl, cn⟩ := own_at h5 fr.length (by simp)
  have hot := own_take h5 (k := fr.length) (by simp)
  simp only [List.map_append, List.map_cons, List.map_nil, Nat.mul_one] at hot cn
  rw [List.getElem_append_right (by simp)] at cn
  rw [List.take_left' (by simp)] at hot
  simp only [List.length_map, Nat.sub_self, List.getElem_cons_zero, nv] at cn
  have htk := run_take (P := Try.prog) (sz := 1) Try.underlying41 (fun w => by kernel_rfl) (some ⟨g, 0, none⟩) (fr.length + 1) cf (fr.length : Int) (by omega) (by simp at hc1; omega) w
  simp only [Int.toNat_natCast] at htk
  simp only [List.getElem?_toArray, List.getElem?_cons_zero, List.length_append, List.length_cons, List.length_nil, Nat.zero_add] at c0 hc1
  have hz : (((fr.length + 1 : Nat) : Int) == 0) = false := by simp; omega
  have hb := h8.2.2.2.1
  have hm16 := h8.2.1
  rw [List.length_append] at hb
  have H := Lib.hid (And.intro h (And.intro h1 (And.intro hot h8)))
  clear h h1 h2 h3 h4 h5 h6 hS h8 hot
  generalize hL : fr.length = L at *
  have HL := Lib.hid hL
  have hsub : ((L + 1 : Nat) : Int) - 1 = (L : Int) := by omega
  clear hL
  simp only [List.length_cons, List.length_nil] at hb
  go_enter Try.func25, Try.ntmps25
  go_wp2_with fail
  go_ret2
  have hL := HL.out
  obtain ⟨h, h1, hot, h8⟩ := H.out
  refine ⟨rfl, h.free (Frm.refl (fun _ => False) w) (fun _ h => h.elim) (fr' := fr) ?_ ?_ (by omega) fun i hi => h8.2.2.2.2 i (by simp [hi])⟩
  · rw [hL]; exact hot
  · intro k hk; left; cases hk; rfl
end Go.Proofs.Ytkmammeaidfaaaa
