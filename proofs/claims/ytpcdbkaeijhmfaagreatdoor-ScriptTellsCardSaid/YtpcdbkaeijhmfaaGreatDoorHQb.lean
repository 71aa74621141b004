/- The document's script: texts. -/
import Derived.Test.YtpcdbkaeijhmfaaGreatDoorHQa
namespace Go.Proofs.YtpcdbkaeijhmfaaGreatDoor
set_option maxRecDepth 100000
set_option linter.unusedVariables false
set_option linter.unusedSimpArgs false
open Go.RowKit
attribute [local go_sem] Oper.semAt_some
theorem push_word {w w3 : World} {B : Nat} {st : St} {wv rv av pv v' : Value} {t : By} (hL : Lsts w B st wv rv av pv) (hF : Frm (fun q => wv.ownBlock = some q) w w3) (ht : TxR w3 B v' (st.words ++ [t])) (hat : v'.ownBlock = wv.ownBlock ∨ ∀ q, v'.ownBlock = some q → w.heap.size ≤ q) : Lsts w3 B { st with words := st.words ++ [t] } v' rv av pv := by
  obtain ⟨vs, k1, k2, k3⟩ := id hL.words
  have hty : ∀ q cs, Blk w q 5 cs → ¬ wv.ownBlock = some q := fun q cs hc => own_blk_ne k1 hc (by decide)
  have hr3 := hL.reads.kept hF (fun q hq hk => hL.apart q hk hq) hty
  have ha3 := hF.own hL.answers fun q hq hk => own_apart k1 hL.answers (by decide) hq hk
  have hp3 := hF.own hL.picks fun q hq hk => own_apart k1 hL.picks (by decide) hq hk
  exact ⟨ht, hr3, ha3, hp3, fun q hq hk => by
    rcases hat with h | h
    · exact hL.apart q (h ▸ hq) hk
    · have := h q hq; have := (hL.reads.lt q hk).2; omega⟩
theorem push_read {w w3 : World} {B : Nat} {st : St} {wv rv av pv v' : Value} {t : By} (hL : Lsts w B st wv rv av pv) (hF : Frm (fun q => rv.ownBlock = some q) w w3) (ht : TxR w3 B v' (st.reads ++ [t])) (hat : v'.ownBlock = rv.ownBlock ∨ ∀ q, v'.ownBlock = some q → w.heap.size ≤ q) : Lsts w3 B { st with reads := st.reads ++ [t] } wv v' av pv := by
  obtain ⟨vs, k1, k2, k3⟩ := id hL.reads
  have hty : ∀ q cs, Blk w q 5 cs → ¬ rv.ownBlock = some q := fun q cs hc => own_blk_ne k1 hc (by decide)
  have hw3 := hL.words.kept hF (fun q hq hk => hL.apart q hq hk) hty
  have ha3 := hF.own hL.answers fun q hq hk => own_apart k1 hL.answers (by decide) hq hk
  have hp3 := hF.own hL.picks fun q hq hk => own_apart k1 hL.picks (by decide) hq hk
  exact ⟨hw3, ht, ha3, hp3, fun q hq hk => by
    rcases hat with h | h
    · exact hL.apart q hq (h ▸ hk)
    · have := h q hk; have := (hL.words.lt q hq).2; omega⟩
theorem Lsts.forms {w : World} {B : Nat} {st : St} {wv rv av pv : Value} (h : Lsts w B st wv rv av pv) : wv.oneCell' = true ∧ rv.oneCell' = true ∧ av.oneCell' = true ∧ pv.oneCell' = true := by
  obtain ⟨A1, c1, e1⟩ := h.words.form
  obtain ⟨A2, c2, e2⟩ := h.reads.form
  obtain ⟨A3, c3, e3, -, -⟩ := own_form h.answers
  obtain ⟨A4, c4, e4, -, -⟩ := own_form h.picks
  exact ⟨by rw [e1]; rfl, by rw [e2]; rfl, by rw [e3]; rfl, by rw [e4]; rfl⟩
set_option maxHeartbeats 8000000 in
theorem wordR_any (B : Nat) (st : St) (wv rv av pv : Value) (K : Nat → Prop) (A : Option Addr) (n c : Nat) (ws : List By) (w : World) (hL : Lsts w B st wv rv av pv) (hs : SAt w K A n c ws) (hK : ∀ q, K q → q < w.heap.size) (hB : B ≤ w.heap.size) (hm : st.words.length ≤ 1000000) :
    Calls Tryz.prog 49 #[.agg (stCells st wv rv av pv), .string { data := #[119, 111, 114, 100] }, .slice A n c] w (SayPost B (wordB st ws) wv rv av pv w) := by
  obtain ⟨i0, hi, hz0, hz1, hz2⟩ := info_parts infoR
  obtain ⟨o, ho⟩ : ∃ o, o = wordB st ws := ⟨_, rfl⟩
  rw [← ho]
  obtain ⟨hn, hnc, hcm⟩ := hs.len
  have HM := Lib.hid (And.intro hB hm)
  clear hB hm
  have hL0 := hL.oneC
  obtain ⟨C, hC⟩ : ∃ C, C = stCells st wv rv av pv := ⟨_, rfl⟩
  rw [← hC] at hL0 ⊢
  have HC := Lib.hid (And.intro hC (And.intro hL0.2 hL0.1))
  have HB0 := Lib.hid (show Blk ((w.alloc (.cells C 33)).alloc (.cells zeroC 33)) w.heap.size 33 C ∧ Blk ((w.alloc (.cells C 33)).alloc (.cells zeroC 33)) (w.heap.size + 1) 33 zeroC ∧ Frm (fun _ => False) w ((w.alloc (.cells C 33)).alloc (.cells zeroC 33)) from
    ⟨(Blk.new w 33 C).alloc _, by have h := Blk.new (w.alloc (.cells C 33)) 33 zeroC; rw [World.size_alloc] at h; exact h, ((Frm.refl _ w).alloc _).alloc _⟩)
  have H := Lib.hid (And.intro hL (And.intro hs hK))
  clear hL hC hL0
  by_cases h3 : n = 1
  · subst h3
    obtain ⟨x0, rfl⟩ : ∃ x0, ws = [x0] := by
      match ws, hn with
      | [x0], _ => exact ⟨x0, rfl⟩
    obtain ⟨y, g, o', hy, hxl, rfl, hKg, hc0⟩ := hs.at_ 0 (by omega)
    obtain rfl : x0 = y := by simpa using hy
    rw [Nat.add_zero] at hc0
    have Hho := Lib.hid (show o = (txtB x0).map fun b => { st with words := st.words ++ [b] } from ho)
    clear hs hy ho hn hK hKg
    go_enter Tryz.func49, Tryz.ntmps49
    go_upto_region 1 with fail
    rw [show (#[.bool false, .slice none 0 0, .int .i64 0, .int .i64 0, .int .i64 0, .int .i64 0, .int .i64 0, .int .i64 0, .int .i64 0, .bool false, .slice none 0 0, .slice none 0 0, .slice none 0 0, .int .u8 0, .int .u32 0, .int .i64 0, .int .i64 0, .int .i64 0] : Array Value) = zeroC from rfl]
    obtain ⟨b, hb⟩ : ∃ b, b = w.heap.size := ⟨_, rfl⟩
    have HB := HB0
    rw [← hb] at HB ⊢
    clear HB0
    generalize (w.alloc (.cells C 33)).alloc (.cells zeroC 33) = w1 at *
    have Hb := Lib.hid hb
    clear hb
    have c0 : w1.cell? ⟨g, o', none⟩ = some (.string (ba x0)) := HB.out.2.2.cell hc0 id
    clear hc0
    go_wp2_with fail
    refine (textR_any x0 w1 hxl).mono ?_
    rintro e w2 ⟨u, he, hu, hF⟩
    obtain ⟨y, hy⟩ : ∃ y, y = (txtB x0).isSome := ⟨_, rfl⟩
    rw [← hy] at he
    obtain ⟨nu, hnu⟩ : ∃ n, n = ((txtB x0).getD []).length := ⟨_, rfl⟩
    rw [← hnu] at hu
    obtain ⟨Au, cu, rfl, -, -⟩ := own_form hu
    subst he
    have hF2 := HB.out.2.2.trans' hF
    have hl2 := H.out.1.keptF hF2
    obtain ⟨vs, k1, k2, k3⟩ := id hl2.words
    obtain ⟨A5, c5, hv, -, -⟩ := own_form k1
    have hof := hl2.forms
    obtain ⟨m, hmm⟩ : ∃ m, m = st.words.length := ⟨_, rfl⟩
    have hm9 : m ≤ 1000000 := by have := HM.out.2; omega
    rw [← hmm] at hv k1
    have hb2 := HB.out.1.kept hF id
    have hr2 := HB.out.2.1.kept hF id
    have hcell : w2.cell? ⟨b, 1, none⟩ = some (.slice A5 m c5) := by rw [hb2.cell, HC.out.1, ← hv]; rfl
    rw [hv] at k1
    have HT := Lib.hid (And.intro hF2 (And.intro hl2 (And.intro k1 (And.intro k2 (And.intro k3 (And.intro hb2 (And.intro hr2 (And.intro hv (And.intro hof (And.intro hu (And.intro hy (And.intro hnu hmm))))))))))))
    clear c0 hu hF hF2 hl2 k1 k2 k3 hb2 hr2 hv hof hy hnu hmm
    go_upto_region 7 with (at_builtin; go_loud (refine wpList_append_sl (by rfl) _ _ 22 (by rfl) B 34 i0 (.slice none 0 0) 24 Tryz.underlying22 hi hz0 hz1 hz2 (by rfl) (.slice A5 m c5) m vs (by rfl) (((Frm.refl (fun _ => False) w2).alloc _).own HT.out.2.2.1 fun _ _ => id) (fun q => q = w2.heap.size) _ [.slice Au nu cu] (by rfl) (Sl.blk1 w2 _ _) (by intro u hu; rw [List.mem_singleton.1 hu]; rfl) (by unfold maxLen; simp <;> omega) (by simp <;> omega) (by have h1 := HT.out.1.size; have h2 := HM.out.1; rw [World.size_alloc]; omega) ?_); go_loud (intro A6 N6 c6 w6 HN hNc hc6 hown hg hat; have hF6 : Frm (fun q => (Value.slice A5 m c5).ownBlock = some q) w2 w6 := ((Frm.refl (fun q => (Value.slice A5 m c5).ownBlock = some q) w2).alloc _).grown hg fun q hq => .inl hq; have hb6 := HT.out.2.2.2.2.2.1.kept hF6 (fun hk => own_blk_ne HT.out.2.2.1 HT.out.2.2.2.2.2.1 (by decide) hk); have hr6 := HT.out.2.2.2.2.2.2.1.kept hF6 (fun hk => own_blk_ne HT.out.2.2.1 HT.out.2.2.2.2.2.2.1 (by decide) hk); have hc6' : w6.cell? ⟨b, 1, none⟩ = some (.slice A5 m c5) := (by rw [hb6.cell, HC.out.1, ← HT.out.2.2.2.2.2.2.2.1] <;> rfl); have hz6 := hb6.frozen 1; have H6 := Lib.hid (And.intro hown (And.intro hF6 (And.intro hat (And.intro HN (And.intro hb6 hr6))))); clear hown hg hat hF6 hb6 hr6))
    obtain ⟨hown, hF6, hat, HN, hb6, hr6⟩ := H6.out
    obtain rfl : N6 = m + 1 := HN.out
    obtain ⟨hF2, hl2, k1, k2, k3, hb2, hr2, hv, hof, hu, hy, hnu, hmm⟩ := HT.out
    have hbw := Hb.out
    have hb7 := hb6.set_ 1 (.slice A6 (m + 1) c6)
    have hr7 := hr6.far (p := ⟨b, 1, none⟩) (by show b + 1 ≠ b; omega) (.slice A6 (m + 1) c6)
    have hf7 : Frm (Own4 wv rv av pv) w (w6.setCell ⟨b, 1, none⟩ (.slice A6 (m + 1) c6)) := ((hF2.mono fun _ h => h.elim).trans' (hF6.mono fun q h => .inl (by unfold Own4; rw [← hv] at h; exact .inl h))).setCell ⟨b, 1, none⟩ (.inr (by show w.heap.size ≤ b; omega)) _
    obtain ⟨C7, hC7⟩ : ∃ C7, C7 = stCells st (.slice A6 (m + 1) c6) rv av pv := ⟨_, rfl⟩
    rw [show C.setIfInBounds 1 (.slice A6 (m + 1) c6) = C7 by rw [hC7, HC.out.1]; rfl] at hb7
    have HC7 := Lib.hid (And.intro hC7 (show C7.size = 18 ∧ C7.all (·.oneCell') = true by rw [hC7]; exact ⟨rfl, stCells_one ⟨rfl, hof.2.1, hof.2.2.1, hof.2.2.2⟩⟩))
    have HL7 := Lib.hid (show ∀ t, txtB x0 = some t → Lsts (w6.setCell ⟨b, 1, none⟩ (.slice A6 (m + 1) c6)) B { st with words := st.words ++ [t] } (.slice A6 (m + 1) c6) rv av pv from fun t ht => by
      rw [ht] at hu hnu
      have hnu' : nu = t.length := hnu
      subst hnu'
      have hvs : w2.ownsRow B 34 1 wv st.words.length vs := by rw [hv, ← hmm]; exact k1
      have hown2 : w6.ownsRow B 34 1 (.slice A6 (st.words.length + 1) c6) (st.words.length + 1) (vs ++ [.slice Au t.length cu]) := by rw [← hmm]; exact hown
      have hF6' : Frm (fun q => (wv).ownBlock = some q) w2 w6 := by rw [hv]; exact hF6
      have hp := TxR.push (w := w2) hl2.words hvs k3 k2 (World.ownsRow.mono hu (Nat.le_trans HM.out.1 (HB.out.2.2.size))) hF6' hown2
      rw [← hmm] at hp
      refine Lsts.setC (push_word hl2 hF6' hp ?_) hb6
      rw [hv]
      rcases hat with h | h
      · exact .inl h
      · refine .inr fun q hq => ?_
        rw [h] at hq
        cases hq
        simp)
    generalize w6.setCell ⟨b, 1, none⟩ (.slice A6 (m + 1) c6) = w7 at *
    have H7 := Lib.hid (And.intro hb7 (And.intro hr7 (And.intro hf7 hy)))
    clear hown hF6 hat HN hb6 hr6 hF2 hl2 k1 k2 k3 hb2 hr2 hv hof hu hy hnu hmm hbw hb7 hr7 hf7 hC7 H6 HT
    go_wp2_with (first | (refine wpList_loadT (by rfl) 33 (.tmp 3) (by rfl) b (by rfl) C7 _ _ H7.out.1 Tryz.underlying33 (by rfl) (by rw [HC7.out.2.1]; exact st_info) ?_) | (refine wpList_store_rowT rfl 33 (.tmp 6) (.tmp 37) rfl rfl (b + 1) C7 rfl rfl _ _ H7.out.2.1 (by rw [HC7.out.2.1]; exact st_info) (by rw [HC7.out.2.1]; rfl) HC7.out.2.2 ?_))
    refine bodyPost_ret (say_ret rfl rfl (Blk.setRow H7.out.2.1 _) HC7.out.2.1 rfl) rfl ?_
    rw [H7.out.2.2.2]
    cases hr : txtB x0 with
    | none => exact SayPost.no (by rw [Hho.out, hr]; rfl) HC7.out.2.1 HC7.out.2.2 (frm_set H7.out.2.2.1 (by have := Hb.out; omega))
    | some t =>
      rw [HC7.out.1]
      exact SayPost.yes (st' := { st with words := st.words ++ [t] }) (by rw [Hho.out, hr]; rfl) (frm_set H7.out.2.2.1 (by have := Hb.out; omega)) ((HL7.out t hr).setStory H7.out.2.1)
  · have Ho := Lib.hid (show o = none by
      rw [ho]
      match ws, hn with
      | [], _ => rfl
      | [_], hn => exact absurd hn h3
      | _ :: _ :: _, _ => rfl)
    have e3 : ((n : Int) != 1) = true := by simp; omega
    clear ho h3 hn hs hK
    go_enter Tryz.func49, Tryz.ntmps49
    go_upto_region 1 with fail
    rw [show (#[.bool false, .slice none 0 0, .int .i64 0, .int .i64 0, .int .i64 0, .int .i64 0, .int .i64 0, .int .i64 0, .int .i64 0, .bool false, .slice none 0 0, .slice none 0 0, .slice none 0 0, .int .u8 0, .int .u32 0, .int .i64 0, .int .i64 0, .int .i64 0] : Array Value) = zeroC from rfl]
    obtain ⟨b, hb⟩ : ∃ b, b = w.heap.size := ⟨_, rfl⟩
    have HB := HB0
    rw [← hb] at HB ⊢
    clear HB0
    generalize (w.alloc (.cells C 33)).alloc (.cells zeroC 33) = w1 at *
    have Hb := Lib.hid hb
    clear hb
    go_wp2_with (first | (refine wpList_loadT (by rfl) 33 (.tmp 3) (by rfl) b (by rfl) C _ _ HB.out.1 Tryz.underlying33 (by rfl) (by rw [HC.out.2.1]; exact st_info) ?_) | (refine wpList_store_rowT rfl 33 (.tmp 6) (.tmp 13) rfl rfl (b + 1) C rfl rfl _ _ HB.out.2.1 (by rw [HC.out.2.1]; exact st_info) (by rw [HC.out.2.1]; rfl) HC.out.2.2 ?_))
    refine bodyPost_ret (say_ret rfl rfl (Blk.setRow HB.out.2.1 _) HC.out.2.1 rfl) rfl ?_
    exact SayPost.no Ho.out HC.out.2.1 HC.out.2.2 (frm_set (HB.out.2.2.mono fun _ h => h.elim) (by have := Hb.out; omega))
set_option maxHeartbeats 8000000 in
theorem readR_any (B : Nat) (st : St) (wv rv av pv : Value) (K : Nat → Prop) (A : Option Addr) (n c : Nat) (ws : List By) (w : World) (hL : Lsts w B st wv rv av pv) (hs : SAt w K A n c ws) (hK : ∀ q, K q → q < w.heap.size) (hB : B ≤ w.heap.size) (hm : st.reads.length ≤ 1000000) :
    Calls Tryz.prog 49 #[.agg (stCells st wv rv av pv), .string { data := #[114, 101, 97, 100] }, .slice A n c] w (SayPost B (readB st ws) wv rv av pv w) := by
  obtain ⟨i0, hi, hz0, hz1, hz2⟩ := info_parts infoR
  obtain ⟨o, ho⟩ : ∃ o, o = readB st ws := ⟨_, rfl⟩
  rw [← ho]
  obtain ⟨hn, hnc, hcm⟩ := hs.len
  have HM := Lib.hid (And.intro hB hm)
  clear hB hm
  have hL0 := hL.oneC
  obtain ⟨C, hC⟩ : ∃ C, C = stCells st wv rv av pv := ⟨_, rfl⟩
  rw [← hC] at hL0 ⊢
  have HC := Lib.hid (And.intro hC (And.intro hL0.2 hL0.1))
  have HB0 := Lib.hid (show Blk ((w.alloc (.cells C 33)).alloc (.cells zeroC 33)) w.heap.size 33 C ∧ Blk ((w.alloc (.cells C 33)).alloc (.cells zeroC 33)) (w.heap.size + 1) 33 zeroC ∧ Frm (fun _ => False) w ((w.alloc (.cells C 33)).alloc (.cells zeroC 33)) from
    ⟨(Blk.new w 33 C).alloc _, by have h := Blk.new (w.alloc (.cells C 33)) 33 zeroC; rw [World.size_alloc] at h; exact h, ((Frm.refl _ w).alloc _).alloc _⟩)
  have H := Lib.hid (And.intro hL (And.intro hs hK))
  clear hL hC hL0
  by_cases h3 : n = 1
  · subst h3
    obtain ⟨x0, rfl⟩ : ∃ x0, ws = [x0] := by
      match ws, hn with
      | [x0], _ => exact ⟨x0, rfl⟩
    obtain ⟨y, g, o', hy, hxl, rfl, hKg, hc0⟩ := hs.at_ 0 (by omega)
    obtain rfl : x0 = y := by simpa using hy
    rw [Nat.add_zero] at hc0
    have Hho := Lib.hid (show o = (txtB x0).map fun b => { st with reads := st.reads ++ [b] } from ho)
    clear hs hy ho hn hK hKg
    go_enter Tryz.func49, Tryz.ntmps49
    go_upto_region 1 with fail
    rw [show (#[.bool false, .slice none 0 0, .int .i64 0, .int .i64 0, .int .i64 0, .int .i64 0, .int .i64 0, .int .i64 0, .int .i64 0, .bool false, .slice none 0 0, .slice none 0 0, .slice none 0 0, .int .u8 0, .int .u32 0, .int .i64 0, .int .i64 0, .int .i64 0] : Array Value) = zeroC from rfl]
    obtain ⟨b, hb⟩ : ∃ b, b = w.heap.size := ⟨_, rfl⟩
    have HB := HB0
    rw [← hb] at HB ⊢
    clear HB0
    generalize (w.alloc (.cells C 33)).alloc (.cells zeroC 33) = w1 at *
    have Hb := Lib.hid hb
    clear hb
    have c0 : w1.cell? ⟨g, o', none⟩ = some (.string (ba x0)) := HB.out.2.2.cell hc0 id
    clear hc0
    go_wp2_with fail
    refine (textR_any x0 w1 hxl).mono ?_
    rintro e w2 ⟨u, he, hu, hF⟩
    obtain ⟨y, hy⟩ : ∃ y, y = (txtB x0).isSome := ⟨_, rfl⟩
    rw [← hy] at he
    obtain ⟨nu, hnu⟩ : ∃ n, n = ((txtB x0).getD []).length := ⟨_, rfl⟩
    rw [← hnu] at hu
    obtain ⟨Au, cu, rfl, -, -⟩ := own_form hu
    subst he
    have hF2 := HB.out.2.2.trans' hF
    have hl2 := H.out.1.keptF hF2
    obtain ⟨vs, k1, k2, k3⟩ := id hl2.reads
    obtain ⟨A5, c5, hv, -, -⟩ := own_form k1
    have hof := hl2.forms
    obtain ⟨m, hmm⟩ : ∃ m, m = st.reads.length := ⟨_, rfl⟩
    have hm9 : m ≤ 1000000 := by have := HM.out.2; omega
    rw [← hmm] at hv k1
    have hb2 := HB.out.1.kept hF id
    have hr2 := HB.out.2.1.kept hF id
    have hcell : w2.cell? ⟨b, 10, none⟩ = some (.slice A5 m c5) := by rw [hb2.cell, HC.out.1, ← hv]; rfl
    rw [hv] at k1
    have HT := Lib.hid (And.intro hF2 (And.intro hl2 (And.intro k1 (And.intro k2 (And.intro k3 (And.intro hb2 (And.intro hr2 (And.intro hv (And.intro hof (And.intro hu (And.intro hy (And.intro hnu hmm))))))))))))
    clear c0 hu hF hF2 hl2 k1 k2 k3 hb2 hr2 hv hof hy hnu hmm
    go_upto_region 7 with (at_builtin; go_loud (refine wpList_append_sl (by rfl) _ _ 22 (by rfl) B 34 i0 (.slice none 0 0) 24 Tryz.underlying22 hi hz0 hz1 hz2 (by rfl) (.slice A5 m c5) m vs (by rfl) (((Frm.refl (fun _ => False) w2).alloc _).own HT.out.2.2.1 fun _ _ => id) (fun q => q = w2.heap.size) _ [.slice Au nu cu] (by rfl) (Sl.blk1 w2 _ _) (by intro u hu; rw [List.mem_singleton.1 hu]; rfl) (by unfold maxLen; simp <;> omega) (by simp <;> omega) (by have h1 := HT.out.1.size; have h2 := HM.out.1; rw [World.size_alloc]; omega) ?_); go_loud (intro A6 N6 c6 w6 HN hNc hc6 hown hg hat; have hF6 : Frm (fun q => (Value.slice A5 m c5).ownBlock = some q) w2 w6 := ((Frm.refl (fun q => (Value.slice A5 m c5).ownBlock = some q) w2).alloc _).grown hg fun q hq => .inl hq; have hb6 := HT.out.2.2.2.2.2.1.kept hF6 (fun hk => own_blk_ne HT.out.2.2.1 HT.out.2.2.2.2.2.1 (by decide) hk); have hr6 := HT.out.2.2.2.2.2.2.1.kept hF6 (fun hk => own_blk_ne HT.out.2.2.1 HT.out.2.2.2.2.2.2.1 (by decide) hk); have hc6' : w6.cell? ⟨b, 10, none⟩ = some (.slice A5 m c5) := (by rw [hb6.cell, HC.out.1, ← HT.out.2.2.2.2.2.2.2.1] <;> rfl); have hz6 := hb6.frozen 10; have H6 := Lib.hid (And.intro hown (And.intro hF6 (And.intro hat (And.intro HN (And.intro hb6 hr6))))); clear hown hg hat hF6 hb6 hr6))
    obtain ⟨hown, hF6, hat, HN, hb6, hr6⟩ := H6.out
    obtain rfl : N6 = m + 1 := HN.out
    obtain ⟨hF2, hl2, k1, k2, k3, hb2, hr2, hv, hof, hu, hy, hnu, hmm⟩ := HT.out
    have hbw := Hb.out
    have hb7 := hb6.set_ 10 (.slice A6 (m + 1) c6)
    have hr7 := hr6.far (p := ⟨b, 10, none⟩) (by show b + 1 ≠ b; omega) (.slice A6 (m + 1) c6)
    have hf7 : Frm (Own4 wv rv av pv) w (w6.setCell ⟨b, 10, none⟩ (.slice A6 (m + 1) c6)) := ((hF2.mono fun _ h => h.elim).trans' (hF6.mono fun q h => .inl (by unfold Own4; rw [← hv] at h; exact .inr (.inl h)))).setCell ⟨b, 10, none⟩ (.inr (by show w.heap.size ≤ b; omega)) _
    obtain ⟨C7, hC7⟩ : ∃ C7, C7 = stCells st wv (.slice A6 (m + 1) c6) av pv := ⟨_, rfl⟩
    rw [show C.setIfInBounds 10 (.slice A6 (m + 1) c6) = C7 by rw [hC7, HC.out.1]; rfl] at hb7
    have HC7 := Lib.hid (And.intro hC7 (show C7.size = 18 ∧ C7.all (·.oneCell') = true by rw [hC7]; exact ⟨rfl, stCells_one ⟨hof.1, rfl, hof.2.2.1, hof.2.2.2⟩⟩))
    have HL7 := Lib.hid (show ∀ t, txtB x0 = some t → Lsts (w6.setCell ⟨b, 10, none⟩ (.slice A6 (m + 1) c6)) B { st with reads := st.reads ++ [t] } wv (.slice A6 (m + 1) c6) av pv from fun t ht => by
      rw [ht] at hu hnu
      have hnu' : nu = t.length := hnu
      subst hnu'
      have hvs : w2.ownsRow B 34 1 rv st.reads.length vs := by rw [hv, ← hmm]; exact k1
      have hown2 : w6.ownsRow B 34 1 (.slice A6 (st.reads.length + 1) c6) (st.reads.length + 1) (vs ++ [.slice Au t.length cu]) := by rw [← hmm]; exact hown
      have hF6' : Frm (fun q => (rv).ownBlock = some q) w2 w6 := by rw [hv]; exact hF6
      have hp := TxR.push (w := w2) hl2.reads hvs k3 k2 (World.ownsRow.mono hu (Nat.le_trans HM.out.1 (HB.out.2.2.size))) hF6' hown2
      rw [← hmm] at hp
      refine Lsts.setC (push_read hl2 hF6' hp ?_) hb6
      rw [hv]
      rcases hat with h | h
      · exact .inl h
      · refine .inr fun q hq => ?_
        rw [h] at hq
        cases hq
        simp)
    generalize w6.setCell ⟨b, 10, none⟩ (.slice A6 (m + 1) c6) = w7 at *
    have H7 := Lib.hid (And.intro hb7 (And.intro hr7 (And.intro hf7 hy)))
    clear hown hF6 hat HN hb6 hr6 hF2 hl2 k1 k2 k3 hb2 hr2 hv hof hu hy hnu hmm hbw hb7 hr7 hf7 hC7 H6 HT
    go_wp2_with (first | (refine wpList_loadT (by rfl) 33 (.tmp 3) (by rfl) b (by rfl) C7 _ _ H7.out.1 Tryz.underlying33 (by rfl) (by rw [HC7.out.2.1]; exact st_info) ?_) | (refine wpList_store_rowT rfl 33 (.tmp 6) (.tmp 37) rfl rfl (b + 1) C7 rfl rfl _ _ H7.out.2.1 (by rw [HC7.out.2.1]; exact st_info) (by rw [HC7.out.2.1]; rfl) HC7.out.2.2 ?_))
    refine bodyPost_ret (say_ret rfl rfl (Blk.setRow H7.out.2.1 _) HC7.out.2.1 rfl) rfl ?_
    rw [H7.out.2.2.2]
    cases hr : txtB x0 with
    | none => exact SayPost.no (by rw [Hho.out, hr]; rfl) HC7.out.2.1 HC7.out.2.2 (frm_set H7.out.2.2.1 (by have := Hb.out; omega))
    | some t =>
      rw [HC7.out.1]
      exact SayPost.yes (st' := { st with reads := st.reads ++ [t] }) (by rw [Hho.out, hr]; rfl) (frm_set H7.out.2.2.1 (by have := Hb.out; omega)) ((HL7.out t hr).setStory H7.out.2.1)
  · have Ho := Lib.hid (show o = none by
      rw [ho]
      match ws, hn with
      | [], _ => rfl
      | [_], hn => exact absurd hn h3
      | _ :: _ :: _, _ => rfl)
    have e3 : ((n : Int) != 1) = true := by simp; omega
    clear ho h3 hn hs hK
    go_enter Tryz.func49, Tryz.ntmps49
    go_upto_region 1 with fail
    rw [show (#[.bool false, .slice none 0 0, .int .i64 0, .int .i64 0, .int .i64 0, .int .i64 0, .int .i64 0, .int .i64 0, .int .i64 0, .bool false, .slice none 0 0, .slice none 0 0, .slice none 0 0, .int .u8 0, .int .u32 0, .int .i64 0, .int .i64 0, .int .i64 0] : Array Value) = zeroC from rfl]
    obtain ⟨b, hb⟩ : ∃ b, b = w.heap.size := ⟨_, rfl⟩
    have HB := HB0
    rw [← hb] at HB ⊢
    clear HB0
    generalize (w.alloc (.cells C 33)).alloc (.cells zeroC 33) = w1 at *
    have Hb := Lib.hid hb
    clear hb
    go_wp2_with (first | (refine wpList_loadT (by rfl) 33 (.tmp 3) (by rfl) b (by rfl) C _ _ HB.out.1 Tryz.underlying33 (by rfl) (by rw [HC.out.2.1]; exact st_info) ?_) | (refine wpList_store_rowT rfl 33 (.tmp 6) (.tmp 13) rfl rfl (b + 1) C rfl rfl _ _ HB.out.2.1 (by rw [HC.out.2.1]; exact st_info) (by rw [HC.out.2.1]; rfl) HC.out.2.2 ?_))
    refine bodyPost_ret (say_ret rfl rfl (Blk.setRow HB.out.2.1 _) HC.out.2.1 rfl) rfl ?_
    exact SayPost.no Ho.out HC.out.2.1 HC.out.2.2 (frm_set (HB.out.2.2.mono fun _ h => h.elim) (by have := Hb.out; omega))
end Go.Proofs.YtpcdbkaeijhmfaaGreatDoor
