/- The walk of teasellaw26.SinkTook. -/
import Derived.Test.YtgjkjcdohfccaaaTells
namespace Go.Proofs.Ytgjkjcdohfccaaa
open Go.RowKit
/-- A row of bools of the call's own. -/
def Mine (w : World) (A : Option Addr) (N : Nat) : Prop := N = 0 ∨ ∃ g cs, A = some ⟨g, 0, none⟩ ∧ Blk w g 4 cs ∧ ∀ i, i < N → ∃ x, cs[i]? = some (.bool x)
theorem Mine.of {w : World} {B N c : Nat} {A : Option Addr} {an : List Bool} (h : w.ownsRow B 4 1 (.slice A N c) N (bvs an)) : Mine w A N := by
  rcases h.2 with ⟨h0, _⟩ | ⟨g, cap, cur, hv, _, hg, _, _, _, ht⟩
  · injection h0 with _ h1 _; exact .inl h1
  · injection hv with h1 _ _
    refine .inr ⟨g, cur, h1, hg, fun i hi => ?_⟩
    have hl : i < (bvs an).length := by have := h.1; omega
    have h3 : (cur.toList.take (N * 1))[i]? = (bvs an)[i]? := by rw [ht]
    rw [List.getElem?_take, if_pos (by omega), List.getElem?_eq_getElem hl, Array.getElem?_toList] at h3
    exact ⟨an[i]'(by simpa using hl), by rw [h3]; simp [bvs]⟩
theorem Mine.set_ {w : World} {g N : Nat} (h : Mine w (some ⟨g, 0, none⟩) N) (hN : N ≠ 0) (i : Nat) (x : Bool) : Mine (w.setCell ⟨g, i, none⟩ (.bool x)) (some ⟨g, 0, none⟩) N := by
  obtain ⟨g', cs, hA, hb, hc⟩ := h.resolve_left hN
  cases hA
  refine .inr ⟨g, _, rfl, hb.set_ i _, fun j hj => ?_⟩
  obtain ⟨y, hy⟩ := hc j hj
  rw [Array.getElem?_setIfInBounds]
  split
  · subst_vars
    obtain ⟨h1, _⟩ := Array.getElem?_eq_some_iff.1 hy
    exact ⟨x, by rw [if_pos h1]⟩
  · exact ⟨y, hy⟩
/-- A row of hits of the call's own. -/
def Theirs (w : World) (A : Option Addr) (N : Nat) : Prop := N = 0 ∨ ∃ g cs, A = some ⟨g, 0, none⟩ ∧ Blk w g 29 cs ∧ N * 2 ≤ cs.size
theorem Theirs.of {w : World} {B N c : Nat} {A : Option Addr} {xs : List Value} (h : w.ownsRow B 29 2 (.slice A N c) N xs) : Theirs w A N := by
  rcases h.2 with ⟨h0, _⟩ | ⟨g, cap, cur, hv, _, hg, h1, _, h2, ht⟩
  · injection h0 with _ h1 _; exact .inl h1
  · injection hv with h3 _ h4
    refine .inr ⟨g, cur, h3, hg, ?_⟩
    have := Nat.mul_le_mul_right 2 h1
    omega
theorem Theirs.set_ {w : World} {g N : Nat} (h : Theirs w (some ⟨g, 0, none⟩) N) (hN : N ≠ 0) (i : Nat) (x : Value) : Theirs (w.setCell ⟨g, i, none⟩ x) (some ⟨g, 0, none⟩) N := by
  obtain ⟨g', cs, hA, hb, hc⟩ := h.resolve_left hN
  cases hA
  exact .inr ⟨g, _, rfl, hb.set_ i _, by rw [Array.size_setIfInBounds]; exact hc⟩
/-- Three rows apart. -/
def D3 (g1 g2 gw : Option Nat) : Prop := (∀ k, g1 = some k → g2 ≠ some k) ∧ (∀ k, g1 = some k → gw ≠ some k) ∧ ∀ k, g2 = some k → gw ≠ some k
/-- The two sinks and what is wanted, apart. -/
def TRel (w : World) (B1 b1 B2 b2 BW : Nat) (a1 a2 g1 g2 : Option Nat) (an : List Bool) (tk1 tk2 tw : List (Int × Int)) (o1 o2 : Nat) (v : Value) (wr : World) : Prop :=
  SAt wr B1 b1 a1 g1 an tk1 o1 ∧ SAt wr B2 b2 a2 g2 an tk2 o2 ∧ wr.ownsRow BW 29 2 v tw.length (flat tw) ∧ D3 g1 g2 v.ownBlock ∧ Frm (fun _ => False) w wr ∧ b1 ≠ b2 ∧ BW ≤ wr.heap.size ∧ w.heap.size ≤ B1 ∧ w.heap.size ≤ B2 ∧ w.heap.size ≤ BW
section
variable {w wr w2 : World} {B1 b1 B2 b2 BW o1 o2 : Nat} {a1 a2 g1 g2 g' : Option Nat} {an : List Bool} {tk1 tk2 tw tk' : List (Int × Int)} {v : Value}
theorem TRel.keptF (h : TRel w B1 b1 B2 b2 BW a1 a2 g1 g2 an tk1 tk2 tw o1 o2 v wr) (hF : Frm (fun _ => False) wr w2) : TRel w B1 b1 B2 b2 BW a1 a2 g1 g2 an tk1 tk2 tw o1 o2 v w2 := by
  obtain ⟨h1, h2, h3, h4, h5, h6, h7, h8, h9, h10⟩ := h
  exact ⟨h1.keptF hF, h2.keptF hF, hF.own h3 (fun _ _ => id), h4, h5.trans hF (fun _ h => h.elim), h6, Nat.le_trans h7 hF.size, h8, h9, h10⟩
theorem TRel.offer1 (h : TRel w B1 b1 B2 b2 BW a1 a2 g1 g2 an tk1 tk2 tw o1 o2 v wr) (hS : SAt w2 B1 b1 a1 g' an tk' (o1 + 1)) (hg : g' = g1 ∨ ∃ q, g' = some q ∧ wr.heap.size ≤ q) (hF : Frm (fun k => k = b1 ∨ g1 = some k) wr w2) :
    TRel w B1 b1 B2 b2 BW a1 a2 g' g2 an tk' tk2 tw (o1 + 1) o2 v w2 := by
  obtain ⟨h1, h2, h3, ⟨d1, d2, d3⟩, h5, h6, h7, h8, h9, h10⟩ := h
  have hs := hF.size
  have hbv : ∀ q, v.ownBlock = some q → ¬ (q = b1 ∨ g1 = some q) := fun q hq => by
    rintro (rfl | h)
    · obtain ⟨va, vt, k1, _⟩ := h1
      exact own_blk_ne h3 k1 (by decide) hq
    · exact d2 q h hq
  refine ⟨hS, h2.apart h1 hF (fun e => h6 e.symm) (fun q hq h => d1 q h hq), hF.own h3 hbv, ⟨?_, ?_, d3⟩, offer_frm h1 h8 h5 hF, h6, by omega, h8, h9, h10⟩
  · rcases hg with rfl | ⟨q, rfl, hq⟩
    · exact d1
    · intro k hk h; cases hk; have := h2.lt.2.1 q h; omega
  · rcases hg with rfl | ⟨q, rfl, hq⟩
    · exact d2
    · intro k hk h; cases hk; have := h3.lt q h; omega
theorem TRel.offer2 (h : TRel w B1 b1 B2 b2 BW a1 a2 g1 g2 an tk1 tk2 tw o1 o2 v wr) (hS : SAt w2 B2 b2 a2 g' an tk' (o2 + 1)) (hg : g' = g2 ∨ ∃ q, g' = some q ∧ wr.heap.size ≤ q) (hF : Frm (fun k => k = b2 ∨ g2 = some k) wr w2) :
    TRel w B1 b1 B2 b2 BW a1 a2 g1 g' an tk1 tk' tw o1 (o2 + 1) v w2 := by
  obtain ⟨h1, h2, h3, ⟨d1, d2, d3⟩, h5, h6, h7, h8, h9, h10⟩ := h
  have hs := hF.size
  have hbv : ∀ q, v.ownBlock = some q → ¬ (q = b2 ∨ g2 = some q) := fun q hq => by
    rintro (rfl | h)
    · obtain ⟨va, vt, k1, _⟩ := h2
      exact own_blk_ne h3 k1 (by decide) hq
    · exact d3 q h hq
  refine ⟨h1.apart h2 hF h6 (fun q hq h => d1 q hq h), hS, hF.own h3 hbv, ⟨?_, d2, ?_⟩, offer_frm h2 h9 h5 hF, h6, by omega, h8, h9, h10⟩
  · rcases hg with rfl | ⟨q, rfl, hq⟩
    · exact d1
    · intro k hk h; cases h; have := h1.lt.2.1 _ hk; omega
  · rcases hg with rfl | ⟨q, rfl, hq⟩
    · exact d3
    · intro k hk h; cases hk; have := h3.lt q h; omega
theorem TRel.want (h : TRel w B1 b1 B2 b2 BW a1 a2 g1 g2 an tk1 tk2 tw o1 o2 v wr) {A1 : Option Addr} {N1 c1 : Nat} {x y : Int} {o : Obj} (hN : N1 = tw.length + 1) (hown : w2.ownsRow BW 29 2 (.slice A1 N1 c1) N1 (flat tw ++ [.int .i64 x, .int .i64 y])) (hg : (wr.alloc o).grownBy w2 v.ownBlock) (hat : (Value.slice A1 N1 c1).ownBlock = v.ownBlock ∨ (Value.slice A1 N1 c1).ownBlock = some (wr.alloc o).heap.size) :
    TRel w B1 b1 B2 b2 BW a1 a2 g1 g2 an tk1 tk2 (tw ++ [(x, y)]) o1 o2 (.slice A1 N1 c1) w2 := by
  obtain ⟨h1, h2, h3, ⟨d1, d2, d3⟩, h5, h6, h7, h8, h9, h10⟩ := h
  have hF : Frm (fun k => v.ownBlock = some k) wr w2 := ((Frm.refl _ wr).alloc o).grown hg (fun k hk => .inl hk)
  have hs := hF.size
  subst hN
  have hb : ∀ {B b off : Nat} {a g : Option Nat} {tk : List (Int × Int)}, SAt wr B b a g an tk off → (∀ k, g = some k → v.ownBlock ≠ some k) → SAt w2 B b a g an tk off := fun {B b off a g tk} hS hd => by
    obtain ⟨va, vt, k1, k2, k3, k4, k5, k6, k7, k8, k9⟩ := hS
    refine ⟨va, vt, k1.kept hF (own_blk_ne h3 k1 (by decide)), k2, k3.keptTo fun k hk => ?_, k4, hF.own k5 (fun k hk => hd k (k4 ▸ hk)), k6, k7, k8, Nat.le_trans k9 hs⟩
    obtain ⟨q1, q2, cs, fr, q3⟩ := hk
    have := hF.block k (lt_heap q3) (own_ne h3 q3 (by decide))
    exact ⟨this, q1, q2, cs, fr, by rw [this]; exact q3⟩
  refine ⟨hb h1 d2, hb h2 d3, by simpa [flat_append, flat] using hown, ⟨d1, ?_, ?_⟩, h5.trans hF (fun k hk => .inr (by have := (h3.lt k hk).1; omega)), h6, by omega, h8, h9, h10⟩
  · intro k hk h
    rcases hat with e | e
    · exact d2 k hk (e ▸ h)
    · rw [e] at h; have := h1.lt.2.1 k hk; simp at h; omega
  · intro k hk h
    rcases hat with e | e
    · exact d3 k hk (e ▸ h)
    · rw [e] at h; have := h2.lt.2.1 k hk; simp at h; omega
end
set_option maxRecDepth 100000 in
set_option maxHeartbeats 4000000 in
theorem took_law (va vl : Value) (an : List Bool) (l : List (Int × Int)) (w : World) (h : Sl w (fun k => k < w.heap.size) va (bvs an)) (h' : SlZ w (fun k => k < w.heap.size) 2 vl (flat l)) :
    Calls Try.prog 5 #[va, vl] w fun e w' => e = .returned (.bool true) ∧ Frm (fun _ => False) w w' := by
  obtain ⟨A, n, c, rfl, hn, hc, hm, hx⟩ := id h
  obtain ⟨A2, m, c2, rfl, hn2, hc2, hm2, hx2⟩ := h'.hits
  rw [bvs_length] at hn
  have H := Lib.hid (And.intro h (And.intro h' (And.intro hn (And.intro hn2 hx2))))
  clear h h' hn hx hn2 hx2
  by_cases h40 : (40 : Int) < n
  · go_enter Try.func5, Try.ntmps5
    go_wp2_with fail
    refine (wakes_any w).mono ?_
    rintro e w' ⟨rfl, hF⟩
    go_wp2_with fail
    go_ret
    exact ⟨rfl, hF⟩
  by_cases h100 : (100 : Int) < m
  · go_enter Try.func5, Try.ntmps5
    go_wp2_with fail
    refine (wakes_any w).mono ?_
    rintro e w' ⟨rfl, hF⟩
    go_wp2_with fail
    go_ret
    exact ⟨rfl, hF⟩
  obtain ⟨i0, hi, hz0, hz1, hz2⟩ := info_parts infoB
  obtain ⟨j0, hj, hy0, hy1, hy2⟩ := infoH
  go_enter Try.func5, Try.ntmps5
  go_wp2_with (at_builtin; refine wpList_append_sl (by rfl) _ _ 22 (by rfl) w.heap.size 4 i0 (.bool false) 1 Try.underlying22 hi hz0 hz1 hz2 (by rfl) _ 0 [] (by rfl) (own_new0 rfl (Nat.le_refl _)) (fun k => k < w.heap.size) _ (bvs an) (by rfl) (by exact H.out.1.keptTo fun k hk => ⟨Below.heap_alloc _ _ _ hk, hk⟩) (bvs_one an) (by unfold maxLen; rw [bvs_length]; have := H.out.2.2.1; omega) (by rw [bvs_length]; have := H.out.2.2.1; omega) (by simp) ?_; intro A1 N c1 w1 HN hNc hc1 hown hg1 hat)
  have hF1 : Frm (fun _ => False) w w1 := ((Frm.refl _ _).alloc _).grown hg1 (fun k hk => Or.inr (by have h : some w.heap.size = some k := hk; injection h; omega))
  have hN : N = n := by have := HN.out; have := H.out.2.2.1; simp at *; omega
  subst hN
  have H1 := Lib.hid (And.intro hown hF1)
  clear hown hF1 hg1 hat HN
  have hsl1 : Sl w1 (TK w1 (fun k => w.heap.size ≤ k) 4) (.slice A1 N c1) (bvs an) := (OSl.of_own (by simpa using H1.out.1) (fun g hg => (H1.out.1.lt g hg).1)).sl
  have hnew1 := new_eq hsl1 (fun k hk => hk.lt) (by have := H.out.2.2.1; omega)
  have Hn1 := Lib.hid (And.intro hnew1 hsl1)
  clear hnew1 hsl1
  go_wp2_with fail
  refine Hn1.out.1.mono ?_
  rintro e w2 ⟨b1, a1, B1, rfl, hS1, hF2, hB1, ha1⟩
  have H2 := Lib.hid (And.intro hS1 (And.intro hF2 (And.intro hB1 ha1)))
  clear hS1 hF2 hB1 ha1 Hn1
  have hFw2 : Hid (Frm (fun _ => False) w w2) := Lib.hid (H1.out.2.trans H2.out.2.1 (fun _ h => h.elim))
  go_wp2_with fail
  refine (new_eq (w := w2) (H.out.1.keptTo (K' := fun k => k < w.heap.size) fun q hq => ⟨hFw2.out.block q hq id, hq⟩) (fun q hq => Nat.lt_of_lt_of_le hq hFw2.out.size) (by have := H.out.2.2.1; omega)).mono ?_
  rintro e w3 ⟨b2, a2, B2, rfl, hS2, hF3, hB2, ha2⟩
  have H3 := Lib.hid (And.intro hS2 (And.intro hF3 (And.intro hB2 (And.intro ha2 (And.intro (H2.out.1.keptF hF3) (And.intro (H2.out.1.lt) (Mine.of (hF3.own (H2.out.2.1.own (by simpa using H1.out.1) (fun _ _ => id)) (fun _ _ => id)))))))))
  clear hS2 hF3 hB2 ha2
  go_wp2_with fail
  go_loopw [8] (fun i wr => ∃ k : Nat, k ≤ N ∧ i = .int .i64 k ∧ Hid (Mine wr A1 N ∧ Frm (fun k => (Value.slice A1 N c1).ownBlock = some k) w3 wr)) (fun i _ => N - (intOf i).toNat)
  case atStart => exact ⟨0, Nat.zero_le _, rfl, Lib.hid ⟨H3.out.2.2.2.2.2.2, Frm.refl _ _⟩⟩
  case round =>
    obtain ⟨k, hk, rfl, hrel⟩ := hrel
    by_cases hlt : k < N
    · obtain ⟨g, cs, rfl, hb, hcs⟩ := hrel.out.1.resolve_left (by omega)
      obtain ⟨x, hx⟩ := hcs k hlt
      have c0 : wr.cell? ⟨g, k, none⟩ = some (.bool x) := (hb.cell k).trans hx
      have f0 : wr.frozen? ⟨g, k, none⟩ = false := hb.frozen k
      clear hb hcs hx
      go_wp2_with fail
      go_roundw
      case rel => exact ⟨k + 1, by omega, by go_num, Lib.hid ⟨hrel.out.1.set_ (by omega) k (!x), hrel.out.2.setCell ⟨g, k, none⟩ (.inl rfl) _⟩⟩
      case measure => simp [intOf]; omega
    · obtain ⟨hM, hF4⟩ := hrel.out
      have hown := fun q (hq : (Value.slice A1 N c1).ownBlock = some q) => H1.out.1.lt q hq
      have hs2 := H2.out.2.1.size
      have hs3 := H3.out.2.1.size
      have hl1 := H3.out.2.2.2.2.2.1
      have hl2 := H3.out.1.lt
      have hB1 := H2.out.2.2.1
      have hB2 := H3.out.2.2.1
      have S1 : SAt wr B1 b1 a1 none an [] 0 := H3.out.2.2.2.2.1.kept hF4 (fun h => by have := hown _ h; omega) (fun _ h => by cases h) (fun q hq h => by have := hown _ h; have := H2.out.2.2.2 q hq; omega)
      have S2 : SAt wr B2 b2 a2 none an [] 0 := H3.out.1.kept hF4 (fun h => by have := hown _ h; omega) (fun _ h => by cases h) (fun q hq h => by have := hown _ h; have := H3.out.2.2.2.1 q hq; omega)
      have hFw : Frm (fun _ => False) w wr := (hFw2.out.trans H3.out.2.1 (fun _ h => h.elim)).trans hF4 (fun q hq => .inr (hown q hq).1)
      have HT : Hid (TRel w B1 b1 B2 b2 wr.heap.size a1 a2 none none an [] [] [] 0 0 (.slice none 0 0) wr) := Lib.hid ⟨S1, S2, World.ownsRow_nil _ _ _ _, ⟨fun _ h => (by cases h), fun _ h => (by cases h), fun _ h => (by cases h)⟩, hFw, by omega, Nat.le_refl _, by have := H1.out.2.size; omega, by have := H1.out.2.size; omega, hFw.size⟩
      clear hM hF4 hown hs2 hs3 hl1 hl2 hB1 hB2 S1 S2 hFw hrel H1 H2 H3 hFw2
      generalize wr.heap.size = BW at *
      go_wp2_with fail
      clear hlt hk
      generalize ((k : Nat) : Int) = k8
      go_loopw [9, 10] (fun t i wr => ∃ k : Nat, ∃ g1 g2, k ≤ m ∧ i = .int .i64 k ∧ Hid (TRel w B1 b1 B2 b2 BW a1 a2 g1 g2 an (tkL an (l.take k)) (tkL an (l.take k)) (tkL an (l.take k)) k k t wr)) (fun _ i _ => m - (intOf i).toNat)
      case atStart => exact ⟨0, none, none, Nat.zero_le _, rfl, HT⟩
      case round =>
        obtain ⟨k, g1, g2, hk, rfl, hrel⟩ := hrel
        by_cases hlt : k < m
        · obtain ⟨ga, o, rfl, hga, hcs⟩ := H.out.2.2.2.2.resolve_left (by omega)
          have hkl : k < l.length := by have := H.out.2.2.2.1; omega
          obtain ⟨q0, q1⟩ := hcs k hkl
          have hts : l.take (k + 1) = l.take k ++ [l[k]] := List.take_succ_eq_append_getElem hkl
          have htk := tkL_snoc an (l.take k) l[k]
          rw [← hts, List.length_take, Nat.min_eq_left (by omega)] at htk
          have htl := tkL_len an (l.take k)
          rw [List.length_take] at htl
          have htl' : (tkL an (l.take k)).length ≤ 100 := by omega
          generalize l[k] = p at *
          obtain ⟨x, y⟩ := p
          dsimp only at q0 q1
          have c0 := hrel.out.2.2.2.2.1.cell q0 id
          have c1 := hrel.out.2.2.2.2.1.cell q1 id
          have ho := offer_eq (x := x) (y := y) (s := says an k) hrel.out.1 (by omega) rfl htk.symm
          have Ho := Lib.hid (And.intro ho (And.intro htk (And.intro q0 (And.intro q1 htl'))))
          clear q0 q1 hcs hts htk htl ho htl'
          have HS : Hid (∃ s, says an k = s) := ⟨_, rfl⟩
          generalize hsk : says an k = s at *
          go_wp2_with fail
          refine Ho.out.1.mono ?_
          rintro e w5 ⟨rfl, g1', hS, hg, hF⟩
          have h5 := Lib.hid (hrel.out.offer1 hS hg hF)
          clear hS hg hF c0 c1
          have c0 := h5.out.2.2.2.2.1.cell Ho.out.2.2.1 id
          have c1 := h5.out.2.2.2.2.1.cell Ho.out.2.2.2.1 id
          go_wp2_with fail
          refine (offer_eq (x := x) (y := y) (s := s) h5.out.2.1 (by omega) hsk Ho.out.2.1.symm).mono ?_
          rintro e w6 ⟨rfl, g2', hS, hg, hF⟩
          have h6 := Lib.hid (h5.out.offer2 hS hg hF)
          clear hS hg hF c0 c1
          have c0 := h6.out.2.2.2.2.1.cell Ho.out.2.2.1 id
          have c1 := h6.out.2.2.2.2.1.cell Ho.out.2.2.2.1 id
          clear h5 hsk
          have hss : (s != s) = false := by simp
          cases s
          · have hT := h6.out
            have htk := Ho.out.2.1
            rw [if_neg (by simp)] at htk
            rw [← htk] at hT
            have HT' := Lib.hid (And.intro hT htk)
            clear hT htk
            go_wp2_with fail
            go_roundw
            case rel => exact ⟨k + 1, g1', g2', by omega, by go_num, Lib.hid HT'.out.1⟩
            case measure => simp [intOf]; omega
          · have hls := h6.out.2.2.2.2.2.2.1
            have htk := Ho.out.2.1
            rw [if_pos rfl] at htk
            have hlen := Ho.out.2.2.2.2
            have Htk := Lib.hid htk
            clear htk
            go_wp2_with (at_builtin; refine wpList_append_slz (by rfl) _ _ 23 (by rfl) BW 29 j0 _ 2 16 Try.underlying23 hj hy0 hy1 hy2 (by rfl) (by decide) _ _ _ (by rfl) (by exact h6.out.2.2.1.alloc _) (fun q => q = w6.heap.size) _ 1 [.int .i64 x, .int .i64 y] (by rfl) (by exact SlZ.blk2 w6 _ _ _) (by rfl) (by simp [Value.oneCell']) (by unfold maxLen; omega) (by omega) (by simp; omega) ?_; intro A7 N7 c7 w7 HN7 hNc7 hc7 hown7 hg7 hat7)
            go_roundw
            case rel => exact ⟨k + 1, g1', g2', by omega, by go_num, by
              have h7 := h6.out.want HN7.out hown7 hg7 hat7
              rw [← Htk.out] at h7
              exact Lib.hid h7⟩
            case measure => simp [intOf]; omega
        · obtain rfl : k = m := by omega
          have htl := tkL_len an (l.take k)
          rw [List.length_take] at htl
          have hrel0 := hrel.out
          clear hrel
          generalize tkL an (l.take k) = tk at *
          obtain ⟨Aw, cw, rfl, _, _⟩ := own_form hrel0.2.2.1
          have HR := Lib.hid hrel0
          have htl' : tk.length ≤ 100 := by omega
          clear hrel0 htl
          go_wp2_with fail
          refine (took_any _ _ _ _ _ _ _ _ HR.out.1).mono ?_
          rintro e w5 ⟨v5, rfl, hv, hF⟩
          obtain ⟨At, ct, rfl, _, _⟩ := own_form hv
          have HV := Lib.hid (And.intro hv hF)
          have hfin : ∀ wq, Frm (fun x => (Value.slice At tk.length ct).ownBlock = some x) w5 wq → TRel w B1 b1 B2 b2 BW a1 a2 g1 g2 an tk tk tk k k (.slice Aw tk.length cw) wq := fun wq hF' => HR.out.keptF (hF.trans hF' (fun x hx => .inr (hv.lt x hx).1))
          have Hfin := Lib.hid hfin
          clear hv hF hfin HR
          generalize htt : tk.length = T at *
          have Htt := Lib.hid htt
          clear htt
          go_wp2_with fail
          go_loopw [13] (fun i wq => ∃ q : Nat, q ≤ T ∧ i = .int .i64 q ∧ Hid (Theirs wq At T ∧ Frm (fun x => (Value.slice At T ct).ownBlock = some x) w5 wq)) (fun i _ => T - (intOf i).toNat)
          case atStart => exact ⟨0, Nat.zero_le _, rfl, Lib.hid ⟨Theirs.of HV.out.1, Frm.refl _ _⟩⟩
          case round =>
            obtain ⟨q, hq, rfl, hrel⟩ := hrel
            by_cases hlt : q < T
            · obtain ⟨g, cs, rfl, hb, hcs⟩ := hrel.out.1.resolve_left (by omega)
              obtain ⟨u, hu⟩ : ∃ u, cs[q * 2]? = some u := ⟨_, Array.getElem?_eq_getElem (by omega)⟩
              have c0 : wr.cell? ⟨g, q * 2, none⟩ = some u := (hb.cell _).trans hu
              have f0 : wr.frozen? ⟨g, q * 2, none⟩ = false := hb.frozen _
              clear hb hcs hu
              go_wp2_with fail
              go_roundw
              case rel => exact ⟨q + 1, by omega, by go_num, Lib.hid ⟨hrel.out.1.set_ (by omega) (q * 2) _, hrel.out.2.setCell ⟨g, q * 2, none⟩ (.inl rfl) _⟩⟩
              case measure => simp [intOf]; omega
            · obtain rfl : q = T := by omega
              have h6 := Lib.hid (Hfin.out wr hrel.out.2)
              clear Hfin hrel HV
              go_wp2_with fail
              refine (took_any _ _ _ _ _ _ _ _ h6.out.1).mono ?_
              rintro e w7 ⟨v7, rfl, hv, hF⟩
              have h7 := Lib.hid (h6.out.keptF hF)
              have HV := Lib.hid (SlZ.of_own (K := fun _ => True) hv (fun _ _ => trivial))
              obtain ⟨A7, c7, rfl, _, _⟩ := own_form hv
              clear h6 hv hF
              go_wp2_with fail
              refine (same_any _ _ _ _ tk tk _ HV.out (SlZ.of_own (K := fun _ => True) h7.out.2.2.1 (fun _ _ => trivial))).mono ?_
              rintro e w' ⟨rfl, q2, rfl⟩
              rw [show decide (tk = tk) = true from by simp]
              have h8 := Lib.hid (h7.out.keptF ((Frm.refl _ _).drewN q2))
              clear h7 HV
              generalize w7.drewN q2 = w8 at *
              go_wp2_with fail
              refine (took_any _ _ _ _ _ _ _ _ h8.out.2.1).mono ?_
              rintro e w9 ⟨v9, rfl, hv, hF⟩
              have h9 := Lib.hid (h8.out.keptF hF)
              have HV := Lib.hid (SlZ.of_own (K := fun _ => True) hv (fun _ _ => trivial))
              obtain ⟨A9, c9, rfl, _, _⟩ := own_form hv
              clear h8 hv hF
              go_wp2_with fail
              refine (same_any _ _ _ _ tk tk _ HV.out (SlZ.of_own (K := fun _ => True) h9.out.2.2.1 (fun _ _ => trivial))).mono ?_
              rintro e w' ⟨rfl, q3, rfl⟩
              rw [show decide (tk = tk) = true from by simp]
              have h10 := Lib.hid (h9.out.keptF ((Frm.refl _ _).drewN q3))
              clear h9 HV
              generalize w9.drewN q3 = w10 at *
              go_wp2_with fail
              refine (wakes_any _).mono ?_
              rintro e w' ⟨rfl, hF⟩
              go_wp2_with fail
              go_ret
              exact ⟨rfl, h10.out.2.2.2.2.1.trans hF (fun _ h => h.elim)⟩
end Go.Proofs.Ytgjkjcdohfccaaa
