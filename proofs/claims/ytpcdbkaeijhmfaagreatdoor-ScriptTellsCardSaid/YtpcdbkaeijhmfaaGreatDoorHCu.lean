/- script: counts. -/
import Derived.Test.YtpcdbkaeijhmfaaGreatDoorGC
import Derived.Test.YtpcdbkaeijhmfaaGreatDoorGA
namespace Go.Proofs.YtpcdbkaeijhmfaaGreatDoor
set_option maxRecDepth 100000
set_option linter.unusedVariables false
set_option linter.unusedSimpArgs false
open Go.RowKit
/-- A slice of integers that stays. -/
def IAt (w : World) (K : Nat → Prop) (A : Option Addr) (n c : Nat) (ns : List Int) : Prop := Sl w K (.slice A n c) (ivs ns)
theorem IAt.len {w : World} {K : Nat → Prop} {A : Option Addr} {n c : Nat} {ns : List Int} (h : IAt w K A n c ns) : n = ns.length ∧ n ≤ c ∧ c ≤ 9223372036854775807 := by
  obtain ⟨A', n', c', e, h1, h2, h3, -⟩ := h
  cases e
  exact ⟨by simpa [ivs] using h1, h2, h3⟩
theorem IAt.at_ {w : World} {K : Nat → Prop} {A : Option Addr} {n c : Nat} {ns : List Int} (h : IAt w K A n c ns) (h0 : 0 < n) : ∃ g o, A = some ⟨g, o, none⟩ ∧ K g ∧ ∀ k (hk : k < ns.length), w.cell? ⟨g, o + k, none⟩ = some (.int .i64 ns[k]) := by
  obtain ⟨A', n', c', e, h1, h2, h3, h4⟩ := h
  cases e
  obtain ⟨g, o, rfl, hK, hc⟩ := h4.resolve_left (by omega)
  refine ⟨g, o, rfl, hK, fun k hk => ?_⟩
  rw [hc k (by simpa [ivs] using hk)]
  simp [ivs]
theorem Lsts.conf {w : World} {B : Nat} {st : St} {wv rv av pv : Value} (h : Lsts w B st wv rv av pv) {st' : St} (e : st'.words = st.words ∧ st'.reads = st.reads ∧ st'.answers = st.answers ∧ st'.picks = st.picks) : Lsts w B st' wv rv av pv := h.same e.1 e.2.1 e.2.2.1 e.2.2.2
theorem list7 (ns : List Int) (h : ns.length = 7) : ∃ a0 a1 a2 a3 a4 a5 a6, ns = [a0, a1, a2, a3, a4, a5, a6] := by
  match ns, h with
  | [a0, a1, a2, a3, a4, a5, a6], _ => exact ⟨_, _, _, _, _, _, _, rfl⟩
/-- Numbers more to the picks. -/
theorem StO.pick {w w3 : World} {b N : Nat} {st : St} {wv rv av pv : Value} {ns : List Int} {A' : Option Addr} {c' : Nat} (hb : Blk w b 50 (stCells st wv rv av pv)) (h : Lsts w (b + 1) st wv rv av pv) (hF : Frm (fun q => pv.ownBlock = some q) w w3) (hN : N = st.picks.length + ns.length) (ho : w3.ownsRow (b + 1) 3 1 (.slice A' N c') N (ivs st.picks ++ ivs ns)) :
    StO (w3.setCell ⟨b, 12, none⟩ (.slice A' N c')) b { st with picks := st.picks ++ ns } := by
  have hb3 := hb.kept hF fun hk => own_blk_ne h.picks hb (by decide) hk
  have hna : ∀ q cs, Blk w q 5 cs → ¬ pv.ownBlock = some q := fun q cs hc hk => own_blk_ne h.picks hc (by decide) hk
  have hw3 := h.words.kept hF (fun q hq hk => by obtain ⟨vs, k1, -⟩ := h.words; exact own_apart k1 h.picks (by decide) hk hq) hna
  have hr3 := h.reads.kept hF (fun q hq hk => by obtain ⟨vs, k1, -⟩ := h.reads; exact own_apart k1 h.picks (by decide) hk hq) hna
  have hp3 := hF.own h.answers fun q hq hk => own_apart h.answers h.picks (by decide) hk hq
  have hF4 : Frm (fun q => q = b) w3 (w3.setCell ⟨b, 12, none⟩ (.slice A' N c')) := (Frm.refl (fun q => q = b) w3).setCell ⟨b, 12, none⟩ (.inl rfl) _
  refine ⟨wv, rv, av, _, hb3.set_ 12 _, hw3.set_ hb3 (by decide) (by decide), hr3.set_ hb3 (by decide) (by decide), hF4.own hp3 fun q hq e => own_blk_ne hp3 hb3 (by decide) (by rw [hq, e]), ?_, h.apart⟩
  have h5 := hF4.own ho fun q hq e => own_blk_ne ho hb3 (by decide) (by rw [hq, e])
  subst hN
  simpa [ivs] using h5
/-- A cell that is no list's. -/
theorem StO.cell {w : World} {b i : Nat} {st st' : St} {u : Value} {wv rv av pv : Value} (hb : Blk w b 50 (stCells st wv rv av pv)) (h : Lsts w (b + 1) st wv rv av pv) (e : st'.words = st.words ∧ st'.reads = st.reads ∧ st'.answers = st.answers ∧ st'.picks = st.picks) (hc : (stCells st wv rv av pv).setIfInBounds i u = stCells st' wv rv av pv) : StO (w.setCell ⟨b, i, none⟩ u) b st' :=
  ⟨wv, rv, av, pv, hc ▸ hb.set_ i u, (h.set_ hb).conf e⟩
/-- Some cells of the story's block are turned. -/
def sets (w : World) (b : Nat) (l : List (Nat × Value)) : World := l.foldl (fun w p => w.setCell ⟨b, p.1, none⟩ p.2) w
theorem sets_ok {b : Nat} {st : St} {wv rv av pv : Value} : ∀ (l : List (Nat × Value)) (w : World) (cs : Array Value), Blk w b 50 cs → Lsts w (b + 1) st wv rv av pv → (∀ p ∈ l, ¬ lst4 p.1) →
    StT b w (sets w b l) ∧ Blk (sets w b l) b 50 (l.foldl (fun cs p => cs.setIfInBounds p.1 p.2) cs) ∧ Lsts (sets w b l) (b + 1) st wv rv av pv
  | [], w, cs, hb, hl, _ => ⟨StT.refl _ _, hb, hl⟩
  | p :: l, w, cs, hb, hl, h => by
    obtain ⟨h1, h2, h3⟩ := sets_ok l (w.setCell ⟨b, p.1, none⟩ p.2) (cs.setIfInBounds p.1 p.2) (hb.set_ p.1 p.2) (hl.set_ hb) fun q hq => h q (List.mem_cons_of_mem _ hq)
    exact ⟨(StT.cell (h p (List.mem_cons_self ..)) hb).trans h1, h2, h3⟩
theorem sets_yes {w W : World} {b : Nat} {st st' : St} {wv rv av pv : Value} {r : Option St} (h : r = some st') (hF : Frm (fun _ => False) w W) (hb : Blk W b 50 (stCells st wv rv av pv)) (hl : Lsts W (b + 1) st wv rv av pv) (l : List (Nat × Value)) (h4 : ∀ p ∈ l, ¬ lst4 p.1) (e : st'.words = st.words ∧ st'.reads = st.reads ∧ st'.answers = st.answers ∧ st'.picks = st.picks)
    (hc : l.foldl (fun cs p => cs.setIfInBounds p.1 p.2) (stCells st wv rv av pv) = stCells st' wv rv av pv) (hbw : b < w.heap.size := by assumption) : LinePost b r w (.returned (.bool true)) (sets W b l) := by
  obtain ⟨h1, h2, h3⟩ := sets_ok l W _ hb hl h4
  exact LinePost.yes h ((StT.of_frm hF hbw).trans h1) ⟨wv, rv, av, pv, hc ▸ h2, h3.conf e⟩
set_option maxHeartbeats 3200000 in
theorem counts_any (b : Nat) (st : St) (K : Nat → Prop) (first : By) (A : Option Addr) (n c : Nat) (ns : List Int) (w : World) (hst : StO w b st) (h : IAt w K A n c ns) (hl : st.picks.length + ns.length ≤ 1000000) (hK : ∀ q, K q → q ≠ b) :
    Calls Tryz.prog 47 #[.pointer (some ⟨b, 0, none⟩), .string (ba first), .slice A n c] w (LinePost b (countsB st first ns) w) := by
  obtain ⟨i0, hi, hz0, hz1, hz2⟩ := info_parts infoI
  obtain ⟨hn, hnc, hcm⟩ := h.len
  obtain ⟨o, ho⟩ : ∃ o, o = countsB st first ns := ⟨_, rfl⟩
  rw [← ho]
  have hn9 : n ≤ 1000000 := by omega
  have g1 := str_ne first [99, 111, 110, 102]
  have g2 := str_ne first [112, 105, 99, 107]
  have g3 := str_ne first [99, 97, 110, 99, 101, 108]
  have g4 := str_ne first [109, 111, 115, 116]
  unfold countsB at ho
  rw [show bs "conf" = [99, 111, 110, 102] from rfl, show bs "pick" = [112, 105, 99, 107] from rfl, show bs "cancel" = [99, 97, 110, 99, 101, 108] from rfl, show bs "most" = [109, 111, 115, 116] from rfl] at ho
  obtain ⟨wv, rv, av, pv, hB, hL⟩ := hst
  by_cases h1 : first = [99, 111, 110, 102]
  · rw [decide_eq_true h1] at g1
    rw [decide_eq_false (by rw [h1]; decide)] at g2 g3 g4
    by_cases h7 : n = 7
    · have Ho := Lib.hid (show o = some { st with conf := ns } by rw [ho, if_pos ⟨h1, by omega⟩])
      obtain ⟨g, p, rfl, hg, hcs⟩ := h.at_ (by omega)
      have hgb := hK g hg
      obtain ⟨a0, a1, a2, a3, a4, a5, a6, rfl⟩ := list7 ns (by omega)
      have d0 := hcs 0 (by simp)
      have d1 := hcs 1 (by simp)
      have d2 := hcs 2 (by simp)
      have d3 := hcs 3 (by simp)
      have d4 := hcs 4 (by simp)
      have d5 := hcs 5 (by simp)
      have d6 := hcs 6 (by simp)
      simp only [List.getElem_cons_zero, List.getElem_cons_succ, Nat.add_zero] at d0 d1 d2 d3 d4 d5 d6
      have hz := hB.frozen
      have f2 := hz 2
      have f3 := hz 3
      have f4 := hz 4
      have f5 := hz 5
      have f6 := hz 6
      have f7 := hz 7
      have f8 := hz 8
      have e2 : w.cell? ⟨b, 2, none⟩ = some (.int .i64 (st.conf.getD 0 0)) := hB.cell 2
      have e3 : w.cell? ⟨b, 3, none⟩ = some (.int .i64 (st.conf.getD 1 0)) := hB.cell 3
      have e4 : w.cell? ⟨b, 4, none⟩ = some (.int .i64 (st.conf.getD 2 0)) := hB.cell 4
      have e5 : w.cell? ⟨b, 5, none⟩ = some (.int .i64 (st.conf.getD 3 0)) := hB.cell 5
      have e6 : w.cell? ⟨b, 6, none⟩ = some (.int .i64 (st.conf.getD 4 0)) := hB.cell 6
      have e7 : w.cell? ⟨b, 7, none⟩ = some (.int .i64 (st.conf.getD 5 0)) := hB.cell 7
      have e8 : w.cell? ⟨b, 8, none⟩ = some (.int .i64 (st.conf.getD 6 0)) := hB.cell 8
      have H := Lib.hid (And.intro hB hL)
      have hbw := hB.lt
      subst h7
      clear hcs hz hB hL ho h hl hK hg h1 hn
      generalize ba first = S at *
      go_enter Tryz.func47, Tryz.ntmps47
      go_wp2_with fail
      refine plan_begin (by kernel_rfl) 28 (by kernel_rfl) ?_
      obtain ⟨W, hW⟩ : ∃ W, W = w.drew := ⟨_, rfl⟩
      replace d0 : W.cell? ⟨g, p, none⟩ = some (.int .i64 a0) := hW ▸ d0
      replace d1 : W.cell? ⟨g, p + 1, none⟩ = some (.int .i64 a1) := hW ▸ d1
      replace d2 : W.cell? ⟨g, p + 2, none⟩ = some (.int .i64 a2) := hW ▸ d2
      replace d3 : W.cell? ⟨g, p + 3, none⟩ = some (.int .i64 a3) := hW ▸ d3
      replace d4 : W.cell? ⟨g, p + 4, none⟩ = some (.int .i64 a4) := hW ▸ d4
      replace d5 : W.cell? ⟨g, p + 5, none⟩ = some (.int .i64 a5) := hW ▸ d5
      replace d6 : W.cell? ⟨g, p + 6, none⟩ = some (.int .i64 a6) := hW ▸ d6
      replace e2 : W.cell? ⟨b, 2, none⟩ = some (.int .i64 (st.conf.getD 0 0)) := hW ▸ e2
      replace e3 : W.cell? ⟨b, 3, none⟩ = some (.int .i64 (st.conf.getD 1 0)) := hW ▸ e3
      replace e4 : W.cell? ⟨b, 4, none⟩ = some (.int .i64 (st.conf.getD 2 0)) := hW ▸ e4
      replace e5 : W.cell? ⟨b, 5, none⟩ = some (.int .i64 (st.conf.getD 3 0)) := hW ▸ e5
      replace e6 : W.cell? ⟨b, 6, none⟩ = some (.int .i64 (st.conf.getD 4 0)) := hW ▸ e6
      replace e7 : W.cell? ⟨b, 7, none⟩ = some (.int .i64 (st.conf.getD 5 0)) := hW ▸ e7
      replace e8 : W.cell? ⟨b, 8, none⟩ = some (.int .i64 (st.conf.getD 6 0)) := hW ▸ e8
      replace f2 : W.frozen? ⟨b, 2, none⟩ = false := hW ▸ f2
      replace f3 : W.frozen? ⟨b, 3, none⟩ = false := hW ▸ f3
      replace f4 : W.frozen? ⟨b, 4, none⟩ = false := hW ▸ f4
      replace f5 : W.frozen? ⟨b, 5, none⟩ = false := hW ▸ f5
      replace f6 : W.frozen? ⟨b, 6, none⟩ = false := hW ▸ f6
      replace f7 : W.frozen? ⟨b, 7, none⟩ = false := hW ▸ f7
      replace f8 : W.frozen? ⟨b, 8, none⟩ = false := hW ▸ f8
      have HW := Lib.hid (show Blk W b 50 (stCells st wv rv av pv) ∧ Lsts W (b + 1) st wv rv av pv ∧ Frm (fun _ => False) w W from hW ▸ ⟨H.out.1, H.out.2.keptF (Frm.refl _ w).drew, (Frm.refl _ w).drew⟩)
      rw [← hW]
      clear hW
      refine plan_still 28 0 27 1 (by kernel_rfl) (by kernel_rfl) (by kernel_rfl) (by kernel_rfl) (by kernel_rfl) (by kernel_rfl) (by kernel_rfl) (fun Kp hKp => ?_)
      simp only [List.append_eq, List.cons_append, List.nil_append, List.take_succ_cons, List.take_zero, List.drop_succ_cons, List.drop_zero, List.drop_nil, List.take_nil]
      repeat still_step
      refine wpStill_nil ?_
      refine hKp _ ?_
      clear hKp Kp
      refine plan_one 27 (by kernel_rfl) rfl ?_
      intro K hK
      go_wp2_with fail
      refine plan_done (by kernel_rfl) ?_
      go_wp2_with fail
      go_ret
      obtain ⟨hB, hL, hF⟩ := HW.out
      exact sets_yes (st' := { st with conf := [a0, a1, a2, a3, a4, a5, a6] }) Ho.out hF hB hL [(2, .int .i64 a0), (3, .int .i64 a1), (4, .int .i64 a2), (5, .int .i64 a3), (6, .int .i64 a4), (7, .int .i64 a5), (8, .int .i64 a6)] (by unfold lst4; simp) ⟨rfl, rfl, rfl, rfl⟩ rfl
    · have Ho := Lib.hid (show o = none by
        rw [ho, if_neg (fun e => h7 (by omega)), if_neg (fun e => absurd e.1 (by rw [h1]; decide)), if_neg (fun e => absurd e.1 (by rw [h1]; decide)), if_neg (fun e => absurd e.1 (by rw [h1]; decide))])
      have g7 : ((n : Int) == 7) = false := by simp; omega
      have hlt := hB.lt
      clear hB hL ho h hl hK h1 hn h7
      generalize ba first = S at *
      go_enter Tryz.func47, Tryz.ntmps47
      go_wp2_with fail
      go_ret
      exact LinePost.no Ho.out (StT.refl _ _)
  · rw [decide_eq_false h1] at g1
    by_cases h2 : first = [112, 105, 99, 107]
    · rw [decide_eq_true h2] at g2
      rw [decide_eq_false (by rw [h2]; decide)] at g3 g4
      by_cases h0 : n = 0
      · have Ho := Lib.hid (show o = none by
          rw [ho, if_neg (fun e => h1 e.1), if_neg (fun e => by omega), if_neg (fun e => absurd e.1 (by rw [h2]; decide)), if_neg (fun e => absurd e.1 (by rw [h2]; decide))])
        subst h0
        clear hB hL ho h hl hK h1 h2 hn
        generalize ba first = S at *
        go_enter Tryz.func47, Tryz.ntmps47
        go_wp2_with fail
        go_ret
        exact LinePost.no Ho.out (StT.refl _ _)
      · have Ho := Lib.hid (show o = some { st with picks := st.picks ++ ns } by
          rw [ho, if_neg (fun e => h1 e.1), if_pos ⟨h2, by omega⟩])
        have g7 : decide ((0 : Int) < (n : Int)) = true := by simp; omega
        have g8 : decide (0 < n) = true := by simp; omega
        obtain ⟨A5, c5, e5, -, -⟩ := own_form hL.picks
        subst e5
        obtain ⟨m, hm⟩ : ∃ m, m = st.picks.length := ⟨_, rfl⟩
        have hca : w.cell? ⟨b, 12, none⟩ = some (.slice A5 m c5) := by rw [hm]; exact hB.cell 12
        have hfz := hB.frozen 12
        have hm9 : m + n ≤ 1000000 := by omega
        have HA := Lib.hid (And.intro hB (And.intro hL (And.intro hm (And.intro h (And.intro hn hK)))))
        clear hB hL ho h hl hK h1 h2 hn hm h0
        generalize ba first = S at *
        go_enter Tryz.func47, Tryz.ntmps47
        go_wp2_with (at_builtin; go_loud (refine wpList_append_sl (by rfl) _ _ 26 (by rfl) (b + 1) 3 i0 (.int .i64 0) 8 Tryz.underlying26 hi hz0 hz1 hz2 (by rfl) (.slice A5 m c5) m _ (by rfl) (by have := HA.out.2.1.picks; rw [← HA.out.2.2.1] at this; exact this) K _ (ivs ns) (by rfl) HA.out.2.2.2.1 (ivs_one ns) (by unfold maxLen; have := HA.out.2.2.2.2.1; simp [ivs]; omega) (by have := HA.out.2.2.2.2.1; simp [ivs]; omega) (by have := HA.out.1.lt; omega) ?_); go_loud (intro A6 N6 c6 w6 HN hNc hc6 hown hg hat; have hF6 : Frm (fun q => (Value.slice A5 m c5).ownBlock = some q) w w6 := (Frm.refl (fun q => (Value.slice A5 m c5).ownBlock = some q) w).grown hg fun q hq => .inl hq; have hb6 := HA.out.1.kept hF6 (fun hk => own_blk_ne (by have := HA.out.2.1.picks; rw [← HA.out.2.2.1] at this; exact this) HA.out.1 (by decide) hk); have hz6 := hb6.frozen 12; have hc12 := hb6.cell 12; have H6 := Lib.hid (And.intro hown (And.intro hF6 (And.intro hat HN))); clear hown hg hat hF6 hb6))
        go_ret
        obtain ⟨hown, hF6, hat, HN⟩ := H6.out
        obtain ⟨hB, hL, hm, -⟩ := HA.out
        have hN := HN.out
        subst hm
        have hT2 : StT b w (w6.setCell ⟨b, 12, none⟩ (.slice A6 N6 c6)) := StT.turn (v := .slice A5 st.picks.length c5) (.inr (.inr (.inr rfl))) hB rfl hF6 (fun hk => own_blk_ne hL.picks hB (by decide) hk) (hat.imp id fun h q hq => by rw [h] at hq; cases hq; exact Nat.le_refl _)
        exact LinePost.yes Ho.out hT2 (StO.pick hB hL hF6 (by simpa [ivs] using hN) hown)
    · rw [decide_eq_false h2] at g2
      by_cases h3 : first = [99, 97, 110, 99, 101, 108]
      · rw [decide_eq_true h3] at g3
        rw [decide_eq_false (by rw [h3]; decide)] at g4
        by_cases h0 : n = 1
        · have Ho := Lib.hid (show o = some { st with cancel := ns.headD 0 } by rw [ho, if_neg (fun e => h1 e.1), if_neg (fun e => h2 e.1), if_pos ⟨h3, by omega⟩])
          obtain ⟨g, p, rfl, hg, hcs⟩ := h.at_ (by omega)
          obtain ⟨a0, rfl⟩ : ∃ a0, ns = [a0] := by
            match ns, hn with
            | [a0], _ => exact ⟨a0, rfl⟩
            | [], hn => simp at hn; omega
            | _ :: _ :: _, hn => simp at hn; omega
          have d0 := hcs 0 (by simp)
          simp only [List.getElem_cons_zero, Nat.add_zero] at d0
          have fz := hB.frozen 16
          have ec := hB.cell 16
          have hbw := hB.lt
          have H := Lib.hid (And.intro hB hL)
          subst h0
          clear hcs hB hL ho h hl hK hg hn h1 h2 h3
          generalize ba first = S at *
          go_enter Tryz.func47, Tryz.ntmps47
          go_wp2_with fail
          go_ret
          exact sets_yes (st' := { st with cancel := a0 }) Ho.out (Frm.refl _ w) H.out.1 H.out.2 [(16, .int .i64 a0)] (by unfold lst4; simp) ⟨rfl, rfl, rfl, rfl⟩ rfl
        · have Ho := Lib.hid (show o = none by
            rw [ho, if_neg (fun e => h1 e.1), if_neg (fun e => h2 e.1), if_neg (fun e => h0 (by omega)), if_neg (fun e => absurd e.1 (by rw [h3]; decide))])
          have g7 : ((n : Int) == 1) = false := by simp; omega
          clear hB hL ho h hl hK hn h0 h1 h2 h3
          generalize ba first = S at *
          go_enter Tryz.func47, Tryz.ntmps47
          go_wp2_with fail
          go_ret
          exact LinePost.no Ho.out (StT.refl _ _)
      · rw [decide_eq_false h3] at g3
        by_cases h4 : first = [109, 111, 115, 116]
        · rw [decide_eq_true h4] at g4
          by_cases h0 : n = 1
          · have Ho := Lib.hid (show o = some { st with most := ns.headD 0 } by rw [ho, if_neg (fun e => h1 e.1), if_neg (fun e => h2 e.1), if_neg (fun e => h3 e.1), if_pos ⟨h4, by omega⟩])
            obtain ⟨g, p, rfl, hg, hcs⟩ := h.at_ (by omega)
            obtain ⟨a0, rfl⟩ : ∃ a0, ns = [a0] := by
              match ns, hn with
              | [a0], _ => exact ⟨a0, rfl⟩
              | [], hn => simp at hn; omega
              | _ :: _ :: _, hn => simp at hn; omega
            have d0 := hcs 0 (by simp)
            simp only [List.getElem_cons_zero, Nat.add_zero] at d0
            have fz := hB.frozen 17
            have ec := hB.cell 17
            have hbw := hB.lt
            have H := Lib.hid (And.intro hB hL)
            subst h0
            clear hcs hB hL ho h hl hK hg hn h1 h2 h3 h4
            generalize ba first = S at *
            go_enter Tryz.func47, Tryz.ntmps47
            go_wp2_with fail
            go_ret
            exact sets_yes (st' := { st with most := a0 }) Ho.out (Frm.refl _ w) H.out.1 H.out.2 [(17, .int .i64 a0)] (by unfold lst4; simp) ⟨rfl, rfl, rfl, rfl⟩ rfl
          · have Ho := Lib.hid (show o = none by
              rw [ho, if_neg (fun e => h1 e.1), if_neg (fun e => h2 e.1), if_neg (fun e => h3 e.1), if_neg (fun e => h0 (by omega))])
            have g7 : ((n : Int) == 1) = false := by simp; omega
            clear hB hL ho h hl hK hn h0 h1 h2 h3 h4
            generalize ba first = S at *
            go_enter Tryz.func47, Tryz.ntmps47
            go_wp2_with fail
            go_ret
            exact LinePost.no Ho.out (StT.refl _ _)
        · rw [decide_eq_false h4] at g4
          have Ho := Lib.hid (show o = none by rw [ho, if_neg (fun e => h1 e.1), if_neg (fun e => h2 e.1), if_neg (fun e => h3 e.1), if_neg (fun e => h4 e.1)])
          clear hB hL ho h hl hK hn h1 h2 h3 h4
          generalize ba first = S at *
          go_enter Tryz.func47, Tryz.ntmps47
          go_wp2_with fail
          go_ret
          exact LinePost.no Ho.out (StT.refl _ _)
end Go.Proofs.YtpcdbkaeijhmfaaGreatDoor
