/- Whole blocks of what comes: the iterator of the cutter. -/
import Derived.Test.YtecpbnkkgdppoaaCt
namespace Go.Proofs.Ytecpbnkkgdppoaa
open Go.RowKit Go.Shelf
attribute [local go_sem] Oper.semAt_some
/-- The cutter's row. -/
def Row (W : World) (b q : Nat) : Prop := ∃ v, W.cell? ⟨b, 5, none⟩ = some v ∧ v.ownBlock = some q
/-- The cutter, and the row that it had at first. -/
def KC (b : Nat) (v0 : Value) (q : Nat) : Prop := q = b ∨ v0.ownBlock = some q
/-- What the iterator turns. -/
def RC (b : Nat) (v0 : Value) (n₀ : Nat) (X Y : World) : Prop :=
  RW (KC b v0) n₀ 5 X Y ∧ Frm (fun q => q = b ∨ Row X b q) X Y ∧ (∀ q, Row Y b q → Row X b q ∨ X.heap.size ≤ q) ∧ ∃ cs, Blk Y b 63 cs
/-- A block that was handed over: its bytes lie apart from the cutter's. -/
def wGood (b n₀ : Nat) (x : Bk) (W : World) : Prop := kGood n₀ x W ∧ b < n₀ ∧ n₀ ≤ W.heap.size ∧ (∃ cs, Blk W b 63 cs) ∧ ∀ q, x.v.ownBlock = some q → ¬ Row W b q
/-- The cutter of which t came: its row is the one that it had, or a new one. -/
def CutFrom (W : World) (B b S L F : Nat) (v0 : Value) (n₀ : Nat) (t : List UInt8) : Prop := ∃ v, CSt W B b S L F (t.length / S) v (heldN S L t) ∧ ∀ q, v.ownBlock = some q → v0.ownBlock = some q ∨ n₀ ≤ q
theorem CSt.row {w : World} {B b S L F n q : Nat} {v : Value} {xs : List UInt8} (h : CSt w B b S L F n v xs) : Row w b q ↔ v.ownBlock = some q := by
  constructor
  · rintro ⟨u, h1, h2⟩
    rw [h.cells.2.2.2.2.2] at h1
    cases h1
    exact h2
  · intro h2
    exact ⟨v, h.cells.2.2.2.2.2, h2⟩
theorem wGood.step {b n₀ : Nat} {v0 : Value} {x : Bk} {X Y : World} (h : wGood b n₀ x X) (k : RC b v0 n₀ X Y) : wGood b n₀ x Y := by
  obtain ⟨h1, h2, h3, ⟨cs, h4⟩, h5⟩ := h
  obtain ⟨-, k2, k3, hY⟩ := k
  refine ⟨k2.own h1 fun q hq => ?_, h2, Nat.le_trans h3 k2.size, hY, fun q hq hr => ?_⟩
  · rintro (hk | hk)
    · exact own_blk_ne h1 h4 (by decide) (by rw [hq, hk])
    · exact h5 q hq hk
  · rcases k3 q hr with hk | hk
    · exact h5 q hq hk
    · have := (World.ownsRow.lt h1 q hq).2; omega
theorem wGood_stays (b n₀ : Nat) : Stays n₀ 5 (wGood b n₀) := fun x X Y h k => by
  obtain ⟨h1, h2, h3, ⟨cs, h4⟩, h5⟩ := h
  have hb : Blk Y b 63 cs := h4.kept k (by rintro ⟨hk, -⟩; omega)
  refine ⟨KpW.own k h1, h2, Nat.le_trans h3 (Frm.size k), ⟨cs, hb⟩, fun q hq hr => h5 q hq ?_⟩
  obtain ⟨v, e1, e2⟩ := hr
  exact ⟨v, by rw [h4.cell 5, ← hb.cell 5]; exact e1, e2⟩
theorem cell_al {w : World} {a : Addr} {v : Value} (h : w.cell? a = some v) (o : Obj) : (w.alloc o).cell? a = some v := (World.cell?_alloc_lt w _ _ (World.block_lt_of_cell? _ _ h)).trans h
theorem cell_dr {w : World} {a : Addr} {v : Value} (h : w.cell? a = some v) : w.drew.cell? a = some v := h
theorem cell_ald {w : World} {a : Addr} {v : Value} (h : w.cell? a = some v) (o : Obj) : (w.alloc o).drew.cell? a = some v := cell_al h o
theorem cell_dal {w : World} {a : Addr} {v : Value} (h : w.cell? a = some v) (o : Obj) : (w.drew.alloc o).cell? a = some v := cell_al (w := w.drew) h o
theorem cell_s4 {w : World} {g p i : Nat} {v u0 u1 u2 u3 : Value} (h : w.cell? ⟨p, i, none⟩ = some v) (hp : p ≠ g) : ((((w.setCell ⟨g, 0, none⟩ u0).setCell ⟨g, 1, none⟩ u1).setCell ⟨g, 2, none⟩ u2).setCell ⟨g, 3, none⟩ u3).cell? ⟨p, i, none⟩ = some v :=
  cell_far (cell_far (cell_far (cell_far h hp) hp) hp) hp
theorem RC.turns {X Y : World} {B b S L F n n' n₀ : Nat} {v v' v0 : Value} {xs ys : List UInt8} (hX : CSt X B b S L F n v xs) (hY : CSt Y B b S L F n' v' ys) (hT : Turns1 b v v' X Y) (hV : ∀ q, v.ownBlock = some q → v0.ownBlock = some q ∨ n₀ ≤ q) : RC b v0 n₀ X Y := by
  obtain ⟨h1, h2⟩ := hT
  refine ⟨h1.mono fun q hq => .inl ?_, h1.mono fun q hq => .inl (hq.imp id hX.row.2), fun q hq => ?_, ⟨_, hY.1⟩⟩
  · rcases hq with hq | hq
    · exact .inl (.inl hq)
    · rcases hV q hq with h | h
      · exact .inl (.inr h)
      · obtain ⟨cs, hb⟩ := own_blk hX.2.1 q hq
        exact .inr ⟨h, _, _, hb⟩
  · have := hY.row.1 hq
    rcases h2 with h | h
    · exact .inl (hX.row.2 (h ▸ this))
    · exact .inr (h q this)
theorem RC.same {X Y : World} {b n₀ : Nat} {v0 : Value} {cs : Array Value} (hb : Blk X b 63 cs) (hF : Frm (fun _ => False) X Y) : RC b v0 n₀ X Y := by
  refine ⟨hF.mono fun _ h => h.elim, hF.mono fun _ h => h.elim, fun q hq => .inl ?_, ⟨_, hb.kept hF id⟩⟩
  obtain ⟨v, e1, e2⟩ := hq
  exact ⟨v, by rw [hb.cell 5, ← (hb.kept hF id).cell 5]; exact e1, e2⟩
theorem HV.next {X Y : World} {b n₀ : Nat} {v v' v0 : Value} (hV : ∀ q, v.ownBlock = some q → v0.ownBlock = some q ∨ n₀ ≤ q) (hT : Turns1 b v v' X Y) (hn : n₀ ≤ X.heap.size) : ∀ q, v'.ownBlock = some q → v0.ownBlock = some q ∨ n₀ ≤ q := fun q hq => by
  rcases hT.2 with h | h
  · exact hV q (h ▸ hq)
  · exact .inr (Nat.le_trans hn (h q hq))
/-- Between two bytes. -/
def WI (B b n₀ S L F : Nat) (v0 : Value) (t0 : List UInt8) (J : List Bk → World → Prop) (W wr : World) (u : List UInt8) : Prop :=
  ∃ pre v, J pre wr ∧ pre.map (·.c) = newsN S L F t0 u ∧ CSt wr B b S L F (u.length / S) v (heldN S L u) ∧ (∀ q, v.ownBlock = some q → v0.ownBlock = some q ∨ n₀ ≤ q) ∧ Frm (fun q => KC b v0 q ∨ n₀ ≤ q) W wr
/-- What is known of the chunks and of the boxes. -/
structure WL (W : World) (B b n₀ Bl Bw S L F m c : Nat) (A : Option Addr) (v0 : Value) (t0 : List UInt8) (vs : List Value) (Ls : List (List UInt8)) (Kc : Nat → Prop) : Prop where
  cut : Cut S L F
  bl : W.cell? ⟨Bl, 0, none⟩ = some (.slice A m c)
  bw : W.cell? ⟨Bw, 0, none⟩ = some (.pointer (some ⟨b, 0, none⟩))
  sl : Sl W Kc (.slice A m c) vs
  each : Each W Kc vs Ls
  kc : ∀ q, Kc q → q < n₀ ∧ ¬ KC b v0 q
  lt : Bl < n₀ ∧ Bw < n₀ ∧ b < n₀ ∧ ¬ KC b v0 Bl ∧ ¬ KC b v0 Bw ∧ B ≤ n₀ ∧ n₀ ≤ W.heap.size
  small : (t0 ++ Ls.flatten).length ≤ 1000000
set_option maxRecDepth 100000 in
set_option maxHeartbeats 4000000 in
theorem whole1_in (n : Nat) (hn : 3 ≤ n) (l Bl Bw b n₀ B S L F : Nat) (t0 : List UInt8) (v0 : Value) (A : Option Addr) (m c : Nat) (vs : List Value) (Ls : List (List UInt8)) (Kc : Nat → Prop) (J : List Bk → World → Prop)
    (hJ : ∀ pre X Y, J pre X → RC b v0 n₀ X Y → J pre Y)
    (hY : ∀ pre x W1, J pre W1 → wGood b n₀ x W1 → pre.length < (newsN S L F t0 (t0 ++ Ls.flatten)).length → YieldAt Fence.wide (n - 1) Try.prog l #[bEnc x] W1 fun e W' => e = .returned (.bool true) ∧ J (pre ++ [x]) W' ∧ KpW n₀ 5 W1 W')
    (W : World) (hW : WL W B b n₀ Bl Bw S L F m c A v0 t0 vs Ls Kc) (hCu : CSt W B b S L F (t0.length / S) v0 (heldN S L t0)) (h0 : J [] W) :
    CallsIn Fence.wide n Try.prog 41 #[.func (.yield l) #[] #[], .pointer (some ⟨Bl, 0, none⟩), .pointer (some ⟨Bw, 0, none⟩)] W fun e W' => (∃ v, e = .returned v) ∧
      ∃ ys, (ys.map (·.c) = newsN S L F t0 (t0 ++ Ls.flatten) ∧ CutFrom W' B b S L F v0 n₀ (t0 ++ Ls.flatten)) ∧ J ys W' := by
  obtain ⟨i0, hi, hz0, hz1, hz2⟩ := info_parts infoU
  have hm : m = vs.length := by obtain ⟨A', m', c', e, e1, -⟩ := hW.sl; cases e; exact e1
  have hmc : m ≤ c := by obtain ⟨A', m', c', e, -, e1, -⟩ := hW.sl; cases e; exact e1
  have hcm : c ≤ 9223372036854775807 := by obtain ⟨A', m', c', e, -, -, e1, -⟩ := hW.sl; cases e; exact e1
  have c0 := hW.bl
  have HT : Hid (WI B b n₀ S L F v0 t0 J W W (t0 ++ (Ls.take 0).flatten)) := Lib.hid ⟨[], v0, h0, by simp [newsN], by simpa using hCu, fun q hq => .inl hq, Frm.refl _ _⟩
  have HY := Lib.hid (And.intro hJ hY)
  have HW := Lib.hid (And.intro hW (And.intro hm hCu))
  clear hJ hY hW hm hCu h0
  refine callsIn_of_wp Try.func41 rfl trivial ?_ rfl
  simp only [Try.ntmps41, List.size_toArray, List.length_cons, List.length_nil, Nat.reduceAdd, Nat.reduceSub, Array.replicate_succ, Array.replicate_zero, List.push_toArray, List.append_toArray, List.nil_append, List.cons_append]
  gi_wp2
  gi_loopw [11] (fun i wr => ∃ k : Nat, k ≤ m ∧ i = .int .i64 k ∧ Hid (WI B b n₀ S L F v0 t0 J W wr (t0 ++ (Ls.take k).flatten))) (fun i _ => m - (intOf i).toNat)
  case atStart => exact ⟨0, Nat.zero_le _, rfl, HT⟩
  case round =>
    clear HT
    obtain ⟨k, hk, rfl, hT⟩ := hrel
    by_cases hlt : k < m
    · obtain ⟨hW, hm, -⟩ := HW.out
      obtain ⟨-, -, -, -, -, -, hF⟩ := id hT.out
      have hkl : k < vs.length := by omega
      have hkL : k < Ls.length := by rw [← hW.each.1]; exact hkl
      obtain ⟨A', m', c', e, -, -, -, hx⟩ := id hW.sl
      cases e
      obtain ⟨g, o, rfl, hg, hcs⟩ := hx.resolve_left (by omega)
      have hfar : ∀ q, Kc q → ¬ (KC b v0 q ∨ n₀ ≤ q) := fun q hq h => by have := hW.kc q hq; rcases h with h | h; exact this.2 h; omega
      have e0 := hF.cell (hcs k hkl) (hfar g hg)
      have hck := hW.each.2 k vs[k] Ls[k] (List.getElem?_eq_getElem hkl) (List.getElem?_eq_getElem hkL)
      have hflat : (Ls.take (k + 1)).flatten = (Ls.take k).flatten ++ Ls[k] := by rw [List.take_succ_eq_append_getElem hkL, List.flatten_append]; simp
      have hsum : ∀ q, (t0 ++ (Ls.take k).flatten ++ Ls[k].take q).length ≤ 1000000 ∧ (t0 ++ (Ls.take k).flatten ++ Ls[k].take q) <+: (t0 ++ Ls.flatten) := fun q => by
        have hp : (t0 ++ (Ls.take k).flatten ++ Ls[k].take q) <+: (t0 ++ Ls.flatten) := by
          rw [List.append_assoc]
          refine List.prefix_append_right_inj _ |>.2 ?_
          have h1 : Ls.flatten = (Ls.take (k + 1)).flatten ++ (Ls.drop (k + 1)).flatten := by rw [← List.flatten_append, List.take_append_drop]
          rw [h1, hflat, List.append_assoc]
          refine List.prefix_append_right_inj _ |>.2 ?_
          exact (List.take_prefix _ _).trans (List.prefix_append _ _)
        exact ⟨Nat.le_trans hp.length_le hW.small, hp⟩
      generalize vs[k] = vk at *
      generalize Ls[k] = ck at *
      obtain ⟨A1, n1, c1, rfl, hn1, hnc1, hcm1, hx1⟩ := id hck
      rw [bv_length] at hn1
      generalize (Ls.take k).flatten = fl at *
      have HS := Lib.hid (And.intro hsum (And.intro hflat (And.intro hfar (And.intro hn1 hx1))))
      have HTT := hT
      obtain ⟨wo, rfl⟩ : ∃ wo : World, wo = wr := ⟨_, rfl⟩
      have hn16 : n1 ≤ 1000000 := by have := (hsum n1).1; simp [hn1] at this; omega
      clear hsum hflat hfar hn1 hx1 hck hcs hg hm hW hF hT hx hkl hkL
      gi_wp2
      gi_loopw [17] (fun j wi => ∃ q : Nat, q ≤ n1 ∧ j = .int .i64 q ∧ Hid (WI B b n₀ S L F v0 t0 J W wi (t0 ++ fl ++ ck.take q))) (fun j _ => n1 - (intOf j).toNat)
      case atStart => exact ⟨0, Nat.zero_le _, rfl, Lib.hid (by rw [List.take_zero, List.append_nil]; exact HTT.out)⟩
      case round =>
        clear HTT
        obtain ⟨q, hq, rfl, hT⟩ := hrel
        by_cases hq1 : q < n1
        · obtain ⟨hsum, -, hfar, hn1, hx1⟩ := HS.out
          obtain ⟨g1, o1, rfl, hg1, hcs1⟩ := hx1.resolve_left (by omega)
          obtain ⟨pre, v, hJp, hpm, hC, hV, hF⟩ := hT.out
          have hqc : q < ck.length := by omega
          have e1 := hF.cell (hcs1 q (by simpa using hqc)) (hfar g1 hg1)
          have hts : t0 ++ fl ++ ck.take (q + 1) = (t0 ++ fl ++ ck.take q) ++ [ck[q]] := by rw [List.take_succ_eq_append_getElem hqc, ← List.append_assoc]
          have hbx : (bv ck)[q]'(by simpa using hqc) = .int .u8 (ck[q].toNat : Int) := by simp [bv]
          rw [hbx] at e1
          have hu1 := hsum (q + 1)
          rw [hts] at hu1
          have htu : t0.length ≤ (t0 ++ fl ++ ck.take q).length := by simp
          have Htu : Hid (t0.length ≤ (t0 ++ fl ++ ck.take q).length) := Lib.hid htu
          clear htu
          generalize ck[q] = x at *
          generalize t0 ++ fl ++ ck.take q = u at *
          have ebw := hF.cell HW.out.1.bw (by have := HW.out.1.lt; show ¬ (KC b v0 Bw ∨ n₀ ≤ Bw); rintro (h | h); exact this.2.2.2.2.1 h; omega)
          obtain ⟨Av, cv, rfl, hcv, hmv⟩ := own_form hC.2.1
          have hnw : Hid (¬ (Value.slice Av (heldN S L u).length cv).ownBlock = some Bw) := Lib.hid fun hk => by have := HW.out.1.lt; rcases hV _ hk with h | h; exact this.2.2.2.2.1 (.inr h); omega
          have k5 := hC.cells.2.2.2.2.2
          have f5 := hC.frozen 5
          have HR := Lib.hid (And.intro hJp (And.intro hpm (And.intro hC (And.intro hV (And.intro hF (And.intro hu1 hts))))))
          clear hsum hfar hn1 hx1 hcs1 hqc hbx hu1 hts hJp hpm hC hV hF hT hg1
          gi_upto_region 6 with fail
          gi_cut [] from 60 (fun wc => Hid (∃ v3, CSt wc B b S L F (u.length / S) v3 (heldN S L u ++ [x]) ∧ Turns1 b (.slice Av (heldN S L u).length cv) v3 wr wc))
          case first =>
            have hH6 : (heldN S L u).length ≤ 1000000 := by
              have h1 := held_length S L u HW.out.1.cut.s1
              have h2 := warm_le S L (u.length / S)
              have h3 := Nat.div_mul_le_self u.length S
              have h4 := HR.out.2.2.2.2.2.1.1
              simp at h4
              omega
            have hbB := HR.out.2.2.1.2.2.2
            generalize hHH : heldN S L u = HH at *
            clear hHH
            have ka5 : ∀ o, (wr.alloc o).cell? ⟨b, 5, none⟩ = some (.slice Av HH.length cv) := fun o => (World.cell?_alloc_lt wr _ _ (World.block_lt_of_cell? _ _ k5)).trans k5
            have kaw : ∀ o, (wr.alloc o).cell? ⟨Bw, 0, none⟩ = some (.pointer (some ⟨b, 0, none⟩)) := fun o => (World.cell?_alloc_lt wr _ _ (World.block_lt_of_cell? _ _ ebw)).trans ebw
            refine wpIn_wide.2 ?_
            go_region_law
              ((refine step_append_sl (by rfl) _ _ 22 (by rfl) B 5 i0 (.int .u8 0) 1 Try.underlying22 hi hz0 hz1 hz2 (by rfl) _ HH.length _ (by rfl) (by exact (World.ownsRow.alloc (w := wr.drew) HR.out.2.2.1.2.1 _)) (fun q => q = wr.heap.size) _ [.int .u8 (x.toNat : Int)] (by rfl) (by exact Sl.blk1 wr.drew _ _) (by simp [Value.oneCell']) (by unfold maxLen; simp; omega) (by simp; omega) (by simp; omega) ?_; intro A3 N3 c3' w3 HN3 hNc3 hc3 hown3 hg3 hat3; have hF3 : Frm (fun q => (Value.slice Av HH.length cv).ownBlock = some q) wr w3 := (((Frm.refl _ wr).drew).alloc _).grown hg3 (fun k hk => .inl hk); have hb3 := HR.out.2.2.1.1.kept hF3 (fun hk => (HR.out.2.2.1.lt.2 b hk).2.2 rfl); have g5 := hb3.cell 5; have gf := hb3.frozen 5; have gw := hF3.cell ebw (by exact hnw.out)); have H3 := Lib.hid (And.intro hown3 (And.intro hat3 (And.intro hF3 HN3))); clear hown3 hat3 hF3 hb3 hg3)
            all_goals
              obtain ⟨hown3, hat3, hF3, HN3⟩ := H3.out
              have hlen : (HH ++ [x]).length = N3 := by have := HN3.out; simp at this ⊢; omega
              have hv3 : (Value.slice A3 N3 c3').ownBlock = (Value.slice Av HH.length cv).ownBlock ∨ ∀ q, (Value.slice A3 N3 c3').ownBlock = some q → wr.heap.size ≤ q := by
                rcases hat3 with h | h
                · exact .inl h
                · exact .inr fun q hq => by rw [h] at hq; cases hq; simp
              have hfin := HR.out.2.2.1.data hF3 (v' := .slice A3 N3 c3') (ys := HH ++ [x]) (by rw [hlen]; simpa [bv] using hown3)
              have hTn : Turns1 b (.slice Av HH.length cv) (.slice A3 N3 c3') wr (w3.setCell ⟨b, 5, none⟩ (.slice A3 N3 c3')) := ⟨(hF3.mono (K' := fun q => q = b ∨ (Value.slice Av HH.length cv).ownBlock = some q) fun q hq => .inl (.inr hq)).setCell ⟨b, 5, none⟩ (.inl (.inl rfl)) _, hv3⟩
              have HX := Lib.hid (And.intro hfin hTn)
              clear hown3 hat3 hF3 HN3 hlen hv3 hfin hTn
              go_wp2_with fail
              gi_meet
              case rel => exact Lib.hid ⟨_, HX.out.1, HX.out.2⟩
          case rest =>
            obtain ⟨v3, hC3, hT3⟩ := hcut.out
            obtain ⟨hJp, hpm, hC, hV, hF, hu1, hts⟩ := HR.out
            have hS1 := HW.out.1.cut.s1
            have hJ3 : J pre wc := HY.out.1 _ _ _ hJp (RC.turns hC hC3 hT3 hV)
            have hV3 := HV.next hV hT3 (by have := HW.out.1.lt; have := hF.size; omega)
            have hF3 : Frm (fun q => KC b v0 q ∨ n₀ ≤ q) W wc := hF.trans hT3.1 fun q hq => by
              rcases hq with hq | hq
              · exact .inl (.inl (.inl hq))
              · rcases hV q hq with h | h
                · exact .inl (.inl (.inr h))
                · exact .inl (.inr h)
            have ebw3 := hF3.cell HW.out.1.bw (by have := HW.out.1.lt; show ¬ (KC b v0 Bw ∨ n₀ ≤ Bw); rintro (h | h); exact this.2.2.2.2.1 h; omega)
            obtain ⟨A3, c3, rfl, -, -⟩ := own_form hC3.2.1
            have hlh := held_length S L u hS1
            have hdl := div_low u.length S hS1
            obtain ⟨NN, hNN⟩ : ∃ NN, NN = u.length + 1 - u.length / S * S := ⟨_, rfl⟩
            have hul : u.length + 1 ≤ 1000000 := by have := hu1.1; simpa using this
            have hxl : (heldN S L u ++ [x]).length - warmN S L (u.length / S) = NN := by simp; omega
            have hwl := warm_le S L (u.length / S)
            have hdn : u.length / S ≤ u.length := Nat.div_le_self _ _
            have hl32 := HW.out.1.cut.l2
            have how := own_any B b S L F (u.length / S) _ (heldN S L u ++ [x]) wc HW.out.1.cut hC3 (by simp; omega) (by simp; omega) (by omega)
            have how : ∀ w5, Frm (fun _ => False) wc w5 → Calls Try.prog 37 #[.pointer (some ⟨b, 0, none⟩)] w5 fun e w' => e = .returned (.int .i64 ((NN : Nat) : Int)) ∧ Frm (fun _ => False) w5 w' := fun w5 h5 => by
              have := own_any B b S L F (u.length / S) _ (heldN S L u ++ [x]) w5 HW.out.1.cut (hC3.keptF h5) (by simp; omega) (by simp; omega) (by omega)
              rw [hxl] at this
              exact this
            have k0 := hC3.cells.1
            have hNS' : (NN < S ∧ u.length + 1 < (u.length / S + 1) * S) ∨ (S ≤ NN ∧ (u.length / S + 1) * S ≤ u.length + 1) := by
              have e : (u.length / S + 1) * S = u.length / S * S + S := by rw [Nat.add_mul, Nat.one_mul]
              omega
            have hNNb : NN ≤ 1000000 := by omega
            have HR3 := Lib.hid (And.intro hJ3 (And.intro hC3 (And.intro hV3 (And.intro hF3 (And.intro hpm (And.intro hu1 (And.intro hts hul)))))))
            have How := Lib.hid how
            clear hJp hpm hC hV hF hu1 hts hJ3 hC3 hT3 hV3 hF3 hlh hdl hNN hxl hwl hdn how HR ebw k5 f5 hul
            rcases hNS' with ⟨hNS, hsz⟩ | ⟨hNS, hsz⟩
            · have Hsz := Lib.hid hsz
              have hd : decide (NN < S) = true := by simpa using hNS
              clear hsz
              gi_upto_region 7 with fail
              refine wpIn_wide.2 ?_
              go_region_held3 (fun w' => w'.cell? ⟨Bw, 0, none⟩ = some (.pointer (some ⟨b, 0, none⟩)) ∧ w'.cell? ⟨b, 0, none⟩ = some (.int .i64 S)) (first | exact ⟨ebw3, k0⟩ | exact ⟨ebw7, k7⟩)
                ((go_at_call 37; refine (How.out _ (by exact (Frm.refl _ wc).drew)).mono ?_; rintro e w7 ⟨rfl, hF7⟩; have ebw7 := hF7.cell ebw3 id; have k7 := hF7.cell k0 id))
              have HF7 := Lib.hid (((Frm.refl (fun _ => False) wc).drew).trans hF7 fun _ h => h.elim)
              clear hF7 ebw7 k7 ebw3 k0
              gi_wp2
              go_roundw
              case rel => exact ⟨q + 1, by omega, by go_num, Lib.hid (by
                obtain ⟨hJ3, hC3, hV3, hF3, hpm, hu1, hts, hul⟩ := HR3.out
                obtain ⟨e1, e2⟩ := held_more S L u x hS1 Hsz.out
                rw [hts]
                refine ⟨pre, _, HY.out.1 _ _ _ hJ3 (RC.same hC3.1 HF7.out), by rw [hpm, news_more S L F t0 u x hS1 Hsz.out Htu.out], ?_, hV3, hF3.trans HF7.out fun _ h => h.elim⟩
                rw [e1, e2]
                exact hC3.keptF HF7.out)⟩
              case measure => simp [intOf]; omega
            · have Hsz := Lib.hid hsz
              have hd : decide (NN < S) = false := by simp; omega
              clear hsz
              gi_upto_region 7 with fail
              refine wpIn_wide.2 ?_
              go_region_held3 (fun w' => w'.cell? ⟨Bw, 0, none⟩ = some (.pointer (some ⟨b, 0, none⟩)) ∧ w'.cell? ⟨b, 0, none⟩ = some (.int .i64 S)) (first | exact ⟨ebw3, k0⟩ | exact ⟨ebw7, k7⟩)
                ((go_at_call 37; refine (How.out _ (by exact (Frm.refl _ wc).drew)).mono ?_; rintro e w7 ⟨rfl, hF7⟩; have ebw7 := hF7.cell ebw3 id; have k7 := hF7.cell k0 id))
              have hFw7 : Frm (fun _ => False) wc w7 := ((Frm.refl (fun _ => False) wc).drew).trans hF7 fun _ h => h.elim
              have hC7 := HR3.out.2.1.keptF hFw7
              have hJ7 := HY.out.1 _ _ _ HR3.out.1 (RC.same HR3.out.2.1.1 hFw7)
              obtain ⟨m0, m1, m2, -, m4, m5⟩ := hC7.cells
              have hblk : ∀ w8, Frm (fun _ => False) w7 w8 → Calls Try.prog 38 #[.agg #[.int .i64 S, .int .i64 L, .int .i64 F], .int .i64 (u.length / S : Nat), .slice A3 (heldN S L u ++ [x]).length c3] w8 (BlkPost S L F (u.length / S) (heldN S L u ++ [x]) w8) := fun w8 h8 =>
                block_any (fun q => q < w7.heap.size) S L F (u.length / S) _ _ w8 HW.out.1.cut (by have := HR3.out.2.2.2.2.2.2.2; have := Nat.div_le_self u.length S; omega) (((OSl.of_own (xs := bv (heldN S L u ++ [x])) hC7.2.1 (K := fun _ => True) fun _ _ => trivial).sl.mono fun q hq => hq.lt).kept fun q hq => h8.block q hq id)
                  (by have h1 := held_length S L u hS1; have h2 := warm_le S L (u.length / S); have h3 := HR3.out.2.2.2.2.2.2.2; simp; omega) (fun q hq => Nat.lt_of_lt_of_le hq h8.size)
              have H7 := Lib.hid (And.intro hC7 (And.intro hJ7 (And.intro hFw7 hblk)))
              clear hF7 hFw7 hC7 hJ7 hblk k7 ebw3 k0
              gi_upto_region 8 with fail
              gi_cut [8] from 60 (fun t wc => ∃ g8 v8, t = .pointer (some ⟨g8, 0, none⟩) ∧ Hid (Blk wc g8 40 #[.int .i64 (u.length / S : Nat), .int .i64 (F + u.length / S * S : Nat), .int .i64 (warmN S L (u.length / S)), v8] ∧ wc.ownsRow w7.heap.size 5 1 v8 (heldN S L u ++ [x]).length (bv (heldN S L u ++ [x])) ∧ Frm (fun _ => False) w7 wc))
              case first =>
                generalize hHH : heldN S L u ++ [x] = HX at *
                clear hHH
                unfold BlkPost at H7
                generalize u.length / S = qn at *
                generalize F + qn * S = Z at *
                generalize warmN S L qn = Wm at *
                refine wpIn_wide.2 ?_
                go_region_held3 (fun w' => w'.cell? ⟨Bw, 0, none⟩ = some (.pointer (some ⟨b, 0, none⟩)) ∧ w'.cell? ⟨b, 0, none⟩ = some (.int .i64 S) ∧ w'.cell? ⟨b, 1, none⟩ = some (.int .i64 L) ∧ w'.cell? ⟨b, 2, none⟩ = some (.int .i64 F) ∧ w'.cell? ⟨b, 4, none⟩ = some (.int .i64 qn) ∧ w'.cell? ⟨b, 5, none⟩ = some (.slice A3 HX.length c3))
                  (first | (with_reducible exact ⟨ebw7, m0, m1, m2, m4, m5⟩) | (with_reducible exact ⟨cell_dr ebw7, cell_dr m0, cell_dr m1, cell_dr m2, cell_dr m4, cell_dr m5⟩) | (with_reducible exact ⟨cell_ald ebw7 _, cell_ald m0 _, cell_ald m1 _, cell_ald m2 _, cell_ald m4 _, cell_ald m5 _⟩) | (with_reducible exact ⟨cell_dal ebw7 _, cell_dal m0 _, cell_dal m1 _, cell_dal m2 _, cell_dal m4 _, cell_dal m5 _⟩) | (with_reducible exact ⟨ebw8, k0, k1, k2, k4, k5⟩) | (with_reducible exact ⟨cell_dr ebw8, cell_dr k0, cell_dr k1, cell_dr k2, cell_dr k4, cell_dr k5⟩) | (with_reducible exact ⟨cell_al ebw8 _, cell_al k0 _, cell_al k1 _, cell_al k2 _, cell_al k4 _, cell_al k5 _⟩) | (with_reducible exact ⟨cell_ald ebw8 _, cell_ald k0 _, cell_ald k1 _, cell_ald k2 _, cell_ald k4 _, cell_ald k5 _⟩) | (with_reducible exact ⟨cell_s4 ebw8 hnw, cell_s4 k0 hnb, cell_s4 k1 hnb, cell_s4 k2 hnb, cell_s4 k4 hnb, cell_s4 k5 hnb⟩))
                  (first
                  | (go_at_call 38; refine (H7.out.2.2.2 _ (by exact ((Frm.refl _ w7).alloc _).drew)).mono ?_; rintro e w8 ⟨v8, rfl, ho8, hF8⟩; obtain ⟨A8, c8, rfl, -, -⟩ := own_form ho8; go_loud (have hG8 : Frm (fun _ => False) w7 w8 := (((Frm.refl (fun _ => False) w7).alloc _).drew).trans hF8 fun _ h => h.elim); have ebw8 := hG8.cell ebw7 id; have k0 := hG8.cell m0 id; have k1 := hG8.cell m1 id; have k2 := hG8.cell m2 id; have k4 := hG8.cell m4 id; have k5 := hG8.cell m5 id; go_loud (have hb8 : Blk w8 w7.heap.size 40 #[.int .i64 0, .int .i64 0, .int .i64 0, .slice none 0 0] := Blk.kept (Blk.new w7 _ _).drew hF8 id); obtain ⟨p0, p1, p2, p3, f0, f1, f2, f3⟩ := blk4 hb8; go_loud (have hnb : b ≠ w7.heap.size := Nat.ne_of_lt (World.block_lt_of_cell? _ _ m0)); go_loud (have hnw : Bw ≠ w7.heap.size := Nat.ne_of_lt (World.block_lt_of_cell? _ _ ebw7)); have HB8 := Lib.hid (And.intro hb8 (And.intro ho8 hF8)); clear hb8 ho8 hF8)
                  | (go_at_call 38; refine (H7.out.2.2.2 _ (by exact (Frm.refl _ w7).drew)).mono ?_; rintro e w8 ⟨v8, rfl, ho8, hF8⟩; obtain ⟨A8, c8, rfl, -, -⟩ := own_form ho8; have ebw8 := hF8.cell ebw7 id; have k0 := hF8.cell m0 id; have k1 := hF8.cell m1 id; have k2 := hF8.cell m2 id; have k4 := hF8.cell m4 id; have k5 := hF8.cell m5 id; have HB8 := Lib.hid (And.intro ho8 hF8); clear ho8 hF8))
                all_goals
                  go_wp2_with fail
                  gi_meet
                  case rel =>
                    first
                    | (have _hx := hnb
                       refine ⟨w7.heap.size, .slice A8 HX.length c8, rfl, Lib.hid ?_⟩
                       obtain ⟨hb8, ho8, hF8⟩ := HB8.out
                       have hG8 : Frm (fun _ => False) w7 w8 := (((Frm.refl (fun _ => False) w7).alloc _).drew).trans hF8 fun _ h => h.elim
                       have hF4 : Frm (fun q => q = w7.heap.size) w8 ((((w8.setCell ⟨w7.heap.size, 0, none⟩ (.int .i64 qn)).setCell ⟨w7.heap.size, 1, none⟩ (.int .i64 Z)).setCell ⟨w7.heap.size, 2, none⟩ (.int .i64 Wm)).setCell ⟨w7.heap.size, 3, none⟩ (.slice A8 HX.length c8)) :=
                         ((((Frm.refl (fun q => q = w7.heap.size) w8).setCell ⟨w7.heap.size, 0, none⟩ (.inl rfl) _).setCell ⟨w7.heap.size, 1, none⟩ (.inl rfl) _).setCell ⟨w7.heap.size, 2, none⟩ (.inl rfl) _).setCell ⟨w7.heap.size, 3, none⟩ (.inl rfl) _
                       exact ⟨(((hb8.set_ 0 _).set_ 1 _).set_ 2 _).set_ 3 _, hF4.own (World.ownsRow.mono ho8 (by simp)) (fun q hq hk => own_blk_ne ho8 hb8 (by decide) (by rw [hq, hk])), hG8.trans hF4 fun q hq => .inr (by omega)⟩)
                    | (refine ⟨w8.heap.size, .slice A8 HX.length c8, rfl, Lib.hid ⟨?_, ?_, ?_⟩⟩
                       · exact Blk.new w8 _ _
                       · exact World.ownsRow.alloc HB8.out.1 _
                       · exact (((Frm.refl (fun _ => False) w7).drew).trans HB8.out.2 fun _ h => h.elim).alloc _)
              case rest =>
                obtain ⟨g8, v8, rfl, Hb⟩ := hcut
                obtain ⟨hb8, ho8, hF8⟩ := Hb.out
                have hC8 := H7.out.1.keptF hF8
                have hJ8 : J pre wc := HY.out.1 _ _ _ H7.out.2.1 (RC.same H7.out.1.1 hF8)
                obtain ⟨r1, r2, r3, r4⟩ := held_whole S L F u x hS1 Hsz.out
                have hul := HR3.out.2.2.2.2.2.2.2
                have hdn := Nat.div_le_self u.length S
                have hlh := held_length S L u hS1
                have hwl := warm_le S L (u.length / S)
                have hnx := next_any B b S L F (u.length / S) (.slice A3 (heldN S L u ++ [x]).length c3) (heldN S L u ++ [x]) wc HW.out.1.cut (by omega) hC8 r4 (by simp; omega)
                have ebw8 := hF8.cell ebw7 id
                rw [← r3] at hnx
                have H8 := Lib.hid (And.intro hb8 (And.intro ho8 (And.intro hF8 (And.intro hC8 (And.intro hJ8 hnx)))))
                have Hr := Lib.hid (And.intro r1 r2)
                clear hb8 ho8 hF8 hC8 hJ8 r1 r2 r3 r4 hul hdn hlh hwl hnx ebw7 m0 m1 m2 m4 m5
                gi_wp2_with fail
                refine ⟨trivial, fun _ => by omega, ?_⟩
                refine (callsIn_wide.2 H8.out.2.2.2.2.2).mono ?_
                rintro e w9 ⟨⟨ue, rfl⟩, v9, hC9, hT9⟩
                obtain ⟨hb8, ho8, hF8, hC8, hJ8, -⟩ := H8.out
                obtain ⟨hJ3, hC3, hV3, hF3, hpm, hu1, hts, hul⟩ := HR3.out
                have hV8 : ∀ q, v9.ownBlock = some q → v0.ownBlock = some q ∨ n₀ ≤ q := HV.next hV3 hT9 (by have := HW.out.1.lt; have := hF3.size; have := H7.out.2.2.1.size; have := hF8.size; omega)
                have hJ9 : J pre w9 := HY.out.1 _ _ _ hJ8 (RC.turns hC8 hC9 hT9 hV3)
                have hn7 : n₀ ≤ w7.heap.size := by have := HW.out.1.lt; have := hF3.size; have := H7.out.2.2.1.size; omega
                have hb9 : Blk w9 g8 40 #[.int .i64 (u.length / S : Nat), .int .i64 (F + u.length / S * S : Nat), .int .i64 (warmN S L (u.length / S)), v8] := hb8.kept hT9.1 (by
                  rintro (h | h)
                  · exact Blk.ne_ hb8 hC8.1 (by decide) h
                  · obtain ⟨cs, hh⟩ := own_blk hC8.2.1 g8 h
                    exact Blk.ne_ hb8 hh (by decide) rfl)
                have ho9 : w9.ownsRow n₀ 5 1 v8 (heldN S L u ++ [x]).length (bv (heldN S L u ++ [x])) := World.ownsRow.mono (hT9.1.own ho8 fun q hq => by
                  have h7 := (World.ownsRow.lt ho8 q hq).1
                  rintro (h | h)
                  · have := H7.out.1.lt.1; omega
                  · have := (H7.out.1.lt.2 q h).2.1; omega) hn7
                have hG9 : wGood b n₀ ⟨v8, blkN S L F (u ++ [x]) (u.length / S)⟩ w9 := by
                  refine ⟨?_, HW.out.1.lt.2.2.1, ?_, ⟨_, hC9.1⟩, fun q hq hr => ?_⟩
                  · show w9.ownsRow n₀ 5 1 v8 (dataN S L (u ++ [x]) (u.length / S)).length (bv (dataN S L (u ++ [x]) (u.length / S)))
                    rw [← Hr.out.2]
                    exact ho9
                  · have := hF8.size; have := hT9.1.size; omega
                  · have h7 := World.ownsRow.lt ho8 q hq
                    have h9 := hC9.row.1 hr
                    rcases hT9.2 with h | h
                    · have := (H7.out.1.lt.2 q (by rw [← h]; exact h9)).2.1; omega
                    · have := h q h9; omega
                have hnews := news_whole S L F t0 u x hS1 Hsz.out Htu.out
                have hlen : pre.length < (newsN S L F t0 (t0 ++ Ls.flatten)).length := by
                  have e1 : pre.length = (newsN S L F t0 u).length := by rw [← hpm]; simp
                  have e2 : (newsN S L F t0 (u ++ [x])).length = pre.length + 1 := by rw [hnews, e1]; simp
                  have e3 := Nat.div_le_div_right (c := S) hu1.2.length_le
                  have e4 : ∀ y, (newsN S L F t0 y).length = y.length / S - t0.length / S := fun y => by simp [newsN]
                  rw [e4] at e2 ⊢
                  omega
                have hY9 := HY.out.2 pre ⟨v8, blkN S L F (u ++ [x]) (u.length / S)⟩ w9 hJ9 hG9 hlen
                obtain ⟨A8, c8, rfl, -, -⟩ := own_form ho9
                have HF9 : Frm (fun q => KC b v0 q ∨ n₀ ≤ q) W w9 := by
                  have h1 := (hF3.trans H7.out.2.2.1 fun _ h => h.elim).trans hF8 fun _ h => h.elim
                  refine h1.trans hT9.1 fun q hq => ?_
                  rcases hq with hq | hq
                  · exact .inl (.inl (.inl hq))
                  · rcases hV3 q hq with h | h
                    · exact .inl (.inl (.inr h))
                    · exact .inl (.inr h)
                have H9 := Lib.hid (And.intro hC9 (And.intro hV8 (And.intro HF9 (And.intro hnews (And.intro hpm hts)))))
                obtain ⟨p0, p1, p2, p3, -⟩ := blk4 hb9
                clear hb8 ho8 hF8 hC8 hJ8 hJ3 hC3 hV3 hF3 hpm hu1 hts hul hV8 hJ9 hb9 ho9 hG9 hnews hlen HF9 hC9 hT9 hn7
                obtain ⟨nq, hnq⟩ : ∃ nq : Nat, nq = u.length / S := ⟨_, rfl⟩
                obtain ⟨Z, hZ⟩ : ∃ Z : Nat, Z = F + u.length / S * S := ⟨_, rfl⟩
                obtain ⟨Wm, hWm⟩ : ∃ Wm : Nat, Wm = warmN S L (u.length / S) := ⟨_, rfl⟩
                obtain ⟨Hl, hHl⟩ : ∃ Hl : Nat, Hl = (heldN S L u ++ [x]).length := ⟨_, rfl⟩
                have hZ2 : (F : Int) + ((u.length / S : Nat) : Int) * (S : Int) = (Z : Int) := by rw [hZ, Int.natCast_add, Int.natCast_mul]
                have hE : bEnc ⟨.slice A8 (heldN S L u ++ [x]).length c8, blkN S L F (u ++ [x]) (u.length / S)⟩ = .agg #[.int .i64 nq, .int .i64 Z, .int .i64 Wm, .slice A8 Hl c8] := by
                  show Value.agg #[.int .i64 ((u.length / S : Nat) : Int), .int .i64 ((F : Int) + ((u.length / S : Nat) : Int) * (S : Int)), .int .i64 (warmN S L (u.length / S) : Nat), .slice A8 (heldN S L u ++ [x]).length c8] = _
                  rw [hZ2, ← hWm, ← hnq, ← hHl]
                rw [hE] at hY9
                clear hZ2 hE
                rw [← hnq] at p0
                rw [← hZ] at p1
                rw [← hWm] at p2
                rw [← hHl] at p3
                clear hnq hZ hWm hHl
                obtain ⟨fn, tmps, assign, body, hy, hRd⟩ := hY9
                have HRd := Lib.hid hRd
                clear hRd
                gi_wp2
                refine ⟨fun _ => by omega, HRd.out.mono ?_⟩
                rintro e w10 ⟨rfl, hJ10, hk10⟩
                have H10 := Lib.hid (And.intro hJ10 hk10)
                clear hJ10 hk10
                gi_wp2
                go_roundw
                case rel => exact ⟨q + 1, by omega, by go_num, Lib.hid (by
                  obtain ⟨hC9, hV8, HF9, hnews, hpm, hts⟩ := H9.out
                  obtain ⟨hJ10, hk10⟩ := H10.out
                  rw [hts]
                  refine ⟨_, v9, hJ10, by rw [List.map_append, hpm, hnews]; rfl, ?_, hV8, HF9.trans hk10 fun q hq => .inl (.inr hq.1)⟩
                  rw [Hr.out.1]
                  exact hC9.kept hk10 (fun hk => by have := HW.out.1.lt; omega) fun q hq hk => by
                    obtain ⟨cs, hh⟩ := own_blk hC9.2.1 q hq
                    exact hk.2 ⟨_, _, hh⟩)⟩
                case measure => simp [intOf]; omega
        · obtain rfl : q = n1 := by omega
          have hfin : Hid (WI B b n₀ S L F v0 t0 J W wr (t0 ++ (Ls.take (k + 1)).flatten)) := Lib.hid (by
            have h1 := hT.out
            obtain ⟨-, h2, -, h3, -⟩ := HS.out
            rw [List.take_of_length_le (by omega)] at h1
            rw [h2, ← List.append_assoc]
            exact h1)
          clear hT
          gi_wp2
          go_roundw
          case rel => exact ⟨k + 1, by omega, by go_num, hfin⟩
          case measure => simp [intOf]; omega
    · obtain rfl : k = m := by omega
      have HTT := hT
      clear hT
      gi_wp2
      go_end0
      obtain ⟨pre, v, h1, h2, h3, h4, -⟩ := HTT.out
      have hall : (Ls.take k).flatten = Ls.flatten := by
        have := HW.out.1.each.1
        have := HW.out.2.1
        rw [List.take_of_length_le (by omega)]
      rw [hall] at h2 h3
      exact ⟨⟨_, rfl⟩, pre, ⟨h2, v, h3, h4⟩, h1⟩
end Go.Proofs.Ytecpbnkkgdppoaa
