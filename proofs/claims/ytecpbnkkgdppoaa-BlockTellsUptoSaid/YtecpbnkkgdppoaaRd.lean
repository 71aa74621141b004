/- The reference's cutter: Feed. -/
import Derived.Test.YtecpbnkkgdppoaaRc
namespace Go.Proofs.Ytecpbnkkgdppoaa
open Go.RowKit
def lenV : Value → Nat
  | .slice _ n _ => n
  | _ => 0
def RFeedPost (B b S L F : Nat) (t0 u : List UInt8) (v0 : Value) (w : World) (e : Ending) (w' : World) : Prop :=
  ∃ v ys v1, e = .returned v ∧ ys.map (·.c) = newsN S L F t0 u ∧ BR w' w.heap.size (fun q => v1.ownBlock = some q) v ys ∧ RCt w' B b S L F (u.length / S) v1 u ∧ (v1.ownBlock = v0.ownBlock ∨ ∀ q, v1.ownBlock = some q → w.heap.size ≤ q) ∧ Frm (fun q => q = b ∨ v0.ownBlock = some q) w w'
/-- The round's state. -/
def RfRel (B b S L F n0 : Nat) (u : List UInt8) (v1 : Value) (w1 : World) (nb k : Nat) (o : Value) (wr : World) : Prop :=
  ∃ ys : List Bk, ys.map (·.c) = (List.range' n0 (k - n0)).map (blkN S L F u) ∧ BR wr nb (fun q => v1.ownBlock = some q) o ys ∧ RCt wr B b S L F k v1 u ∧ Frm (fun q => q = b) w1 wr
theorem kGood_eq (B : Nat) (x : Bk) (W : World) : kGood B x W = W.ownsRow B 5 1 x.v x.c.data.length (bv x.c.data) := rfl
theorem RCt.told {w : World} {B b S L F n : Nat} {v : Value} {xs : List UInt8} (h : RCt w B b S L F n v xs) (m : Nat) : RCt (w.setCell ⟨b, 4, none⟩ (.int .i64 m)) B b S L F m v xs :=
  ⟨h.1.set_ 4 _, ((Frm.refl (fun q => q = b) w).setCell ⟨b, 4, none⟩ (.inl rfl) _).own h.2.1 (fun q hq hk => (h.lt.2 q hq).2.2 hk), h.2.2.1, by simpa using h.2.2.2⟩
theorem RCt.came {w w3 : World} {B b S L F n : Nat} {v v' : Value} {xs ys : List UInt8} (h : RCt w B b S L F n v xs) (hF : Frm (fun q => v.ownBlock = some q) w w3) (ho : w3.ownsRow B 5 1 v' ys.length (bv ys)) :
    RCt (w3.setCell ⟨b, 3, none⟩ v') B b S L F n v' ys := by
  have hb3 : Blk w3 b 44 #[.int .i64 S, .int .i64 L, .int .i64 F, v, .int .i64 n, .bool false] := h.1.kept hF fun hk => (h.lt.2 b hk).2.2 rfl
  refine ⟨hb3.set_ 3 _, ((Frm.refl (fun q => q = b) w3).setCell ⟨b, 3, none⟩ (.inl rfl) _).own ho (fun q hq hk => own_blk_ne ho hb3 (by decide) (by rw [hq, hk])), h.2.2.1, by have := hF.size; simpa using Nat.le_trans h.2.2.2 this⟩
set_option maxRecDepth 100000 in
set_option maxHeartbeats 1600000 in
theorem rfeed_any (B b S L F : Nat) (v0 : Value) (t0 x : List UInt8) (Kx : Nat → Prop) (A : Option Addr) (m c : Nat) (w : World) (hC : Cut S L F) (h : RCt w B b S L F (t0.length / S) v0 t0) (hx : Sl w Kx (.slice A m c) (bv x)) (hs : (t0 ++ x).length ≤ 900000) :
    Calls Try.prog 24 #[.pointer (some ⟨b, 0, none⟩), .slice A m c] w (RFeedPost B b S L F t0 (t0 ++ x) v0 w) := by
  obtain ⟨i0, hi, hz0, hz1, hz2⟩ := info_parts infoU
  obtain ⟨A0, c0', rfl, -, -⟩ := own_form h.2.1
  obtain ⟨-, -, -, d3, -, d5⟩ := h.cells
  have f3 := h.frozen 3
  have hlen : t0.length + x.length ≤ 900000 := by simpa using hs
  have H := Lib.hid (And.intro h (And.intro hx (And.intro hC (And.intro hs hlen))))
  clear h hx hC hs
  go_enter Try.func24, Try.ntmps24
  go_wp2_with (at_builtin; go_loud (refine wpList_append_sl (by rfl) _ _ 22 (by rfl) B 5 i0 (.int .u8 0) 1 Try.underlying22 hi hz0 hz1 hz2 (by rfl) _ t0.length _ (by rfl) H.out.1.2.1 Kx _ (bv x) (by rfl) H.out.2.1 (bv_one _) (by unfold maxLen; rw [bv_length]; have := H.out.2.2.2.2; omega) (by rw [bv_length]; have := H.out.2.2.2.2; omega) H.out.1.2.2.2 ?_); go_loud (intro A3 N3 c3 w3 HN3 hNc3 hc3 hown3 hg3 hat3; have hF3 : Frm (fun q => (Value.slice A0 t0.length c0').ownBlock = some q) w w3 := (Frm.refl _ w).grown hg3 (fun k hk => .inl hk); have hb3 : Blk w3 b 44 #[.int .i64 S, .int .i64 L, .int .i64 F, .slice A0 t0.length c0', .int .i64 (t0.length / S : Nat), .bool false] := H.out.1.1.kept hF3 (fun hk => (H.out.1.lt.2 b hk).2.2 rfl); have g3 := hb3.frozen 3; have k3 : w3.cell? ⟨b, 3, none⟩ = some (.slice A0 t0.length c0') := hb3.cell 3; have H3 := Lib.hid (And.intro hown3 (And.intro hat3 hF3)); clear hown3 hat3 hF3 hg3 hb3))
  obtain ⟨hown3, hat3, hF3⟩ := H3.out
  have hNl : N3 = (t0 ++ x).length := by have := HN3.out; rw [bv_length] at this; rw [List.length_append]; exact this
  have hr4 := H.out.1.came hF3 (v' := .slice A3 N3 c3) (ys := t0 ++ x) (by rw [← hNl, bv_app]; exact hown3)
  have hF4 : Frm (fun q => q = b ∨ (Value.slice A0 t0.length c0').ownBlock = some q) w (w3.setCell ⟨b, 3, none⟩ (.slice A3 N3 c3)) := (hF3.mono (K' := fun q => q = b ∨ (Value.slice A0 t0.length c0').ownBlock = some q) fun q hq => .inl (.inr hq)).setCell ⟨b, 3, none⟩ (.inl (.inl rfl)) _
  have hn0 : t0.length / S ≤ (t0 ++ x).length / S := Nat.div_le_div_right (by rw [List.length_append]; omega)
  have hC := H.out.2.2.1
  have hul : (t0 ++ x).length ≤ 900000 := H.out.2.2.2.1
  have hat4 : (Value.slice A3 N3 c3).ownBlock = (Value.slice A0 t0.length c0').ownBlock ∨ ∀ q, (Value.slice A3 N3 c3).ownBlock = some q → w.heap.size ≤ q := hat3.imp id fun e q hq => by rw [e] at hq; cases hq; exact Nat.le_refl _
  have hvl : ∀ q, (Value.slice A3 N3 c3).ownBlock = some q → q < (w3.setCell ⟨b, 3, none⟩ (.slice A3 N3 c3)).heap.size := fun q hq => (hr4.lt.2 q hq).2.1
  generalize w3.setCell ⟨b, 3, none⟩ (.slice A3 N3 c3) = w4 at *
  have HP : Hid (∀ e w', (∃ v ys, e = .returned v ∧ ys.map (·.c) = newsN S L F t0 (t0 ++ x) ∧ BR w' w4.heap.size (fun q => (Value.slice A3 N3 c3).ownBlock = some q) v ys ∧ RCt w' B b S L F ((t0 ++ x).length / S) (.slice A3 N3 c3) (t0 ++ x) ∧ Frm (fun q => q = b) w4 w') → RFeedPost B b S L F t0 (t0 ++ x) (.slice A0 t0.length c0') w e w') := Lib.hid fun e w' hh => by
    obtain ⟨v, ys, h1, h2, h3, h4, h5⟩ := hh
    exact ⟨v, ys, _, h1, h2, h3.mono hF4.size (fun _ h => h), h4, hat4, hF4.trans h5 fun q hq => .inl (.inl hq)⟩
  have hw4 : w4.heap.size ≤ w4.heap.size ∧ b < w4.heap.size := ⟨Nat.le_refl _, hr4.lt.1⟩
  have hnews : newsN S L F t0 (t0 ++ x) = (List.range' (t0.length / S) ((t0 ++ x).length / S - t0.length / S)).map (blkN S L F (t0 ++ x)) := rfl
  have Hr := Lib.hid hr4
  generalize t0 ++ x = u at *
  generalize t0.length / S = n0 at *
  obtain ⟨nb, hnb⟩ : ∃ nb, nb = w4.heap.size := ⟨_, rfl⟩
  rw [← hnb] at HP
  have hw4 : nb ≤ w4.heap.size ∧ b < nb ∧ w4.heap.size ≤ nb := ⟨by omega, by rw [hnb]; exact hw4.2, by omega⟩
  have Hn := Lib.hid (And.intro hnews (And.intro hC (And.intro hNl (And.intro hul (And.intro hvl hw4)))))
  clear hnb
  obtain ⟨M, hM⟩ : ∃ M, M = u.length / S := ⟨_, rfl⟩
  rw [← hM] at hn0 Hn HP
  have HM := Lib.hid hM
  clear hF4 hat4 hr4 hF3 hown3 hat3 hNl hul hlen H3 H d3 d5 f3 HN3 hnews k3 g3 hC hi hz0 hz1 hz2 hvl hw4 hM
  go_loopw [5] (fun o wr => ∃ k : Nat, n0 ≤ k ∧ k ≤ M ∧ ∃ Ao co, o = .slice Ao (k - n0) co ∧ Hid (RfRel B b S L F n0 u (.slice A3 N3 c3) w4 nb k o wr)) (fun o _ => M - n0 - lenV o)
  case atStart =>
    refine ⟨n0, Nat.le_refl _, hn0, none, 0, by rw [Nat.sub_self], Lib.hid ⟨[], by rw [Nat.sub_self]; rfl, BR.nil _ _ _, Hr.out, Frm.refl _ _⟩⟩
  case round =>
    obtain ⟨k, hk0, hkM, Ao, co, rfl, hT⟩ := hrel
    obtain ⟨hnews, hC, hNl, hul, hvl, hw4⟩ := Hn.out
    obtain ⟨ys, hys, hB, hr, hF⟩ := hT.out
    obtain ⟨e0, e1, e2, e3, e4, -⟩ := hr.cells
    have e4f := hr.frozen 4
    have hdl := div_low u.length S hC.s1
    have hdn := Nat.div_le_self u.length S
    rw [← HM.out] at hdl hdn
    have hkS := Nat.mul_le_mul_right S hkM
    have hmul : IntKind.i64.wrap (((k : Int) + 1) * (S : Int)) = (((k + 1) * S : Nat) : Int) := by
      have h1 : (k + 1) * S ≤ 900000 + 256 := by rw [Nat.add_mul]; have := hC.s2; omega
      have e : ((k : Int) + 1) * (S : Int) = (((k + 1) * S : Nat) : Int) := by rw [Int.natCast_mul]; rfl
      rw [e]
      exact IntWalk.i64_in _ (by omega)
    have hkd : (k + 1) * S ≤ u.length ↔ k + 1 ≤ M := by
      rw [HM.out, Nat.le_div_iff_mul_le (by have := hC.s1; omega)]
    rw [← hNl] at hkd
    obtain ⟨P, hP⟩ : ∃ P, P = (k + 1) * S := ⟨_, rfl⟩
    rw [← hP] at hmul hkd
    have hk9 : k ≤ 900000 := by omega
    by_cases hlt : P ≤ N3
    · have hk1 : k + 1 ≤ M := hkd.1 hlt
      have hg0 : decide (P ≤ N3) = true := by simpa using hlt
      have hkS1 : k * S ≤ u.length := by omega
      have hone : ∀ w8, Frm (fun _ => False) wr w8 → Calls Try.prog 32 #[.int .i64 S, .int .i64 L, .int .i64 F, .slice A3 N3 c3, .int .i64 k] w8 (BlkPost S L F k (dataN S L u k) w8) := fun w8 h8 =>
        one_any (fun q => q < w8.heap.size) S L F k u A3 N3 c3 w8 hC hkS1 (by omega) (by have := (hr.keptF h8).sl; exact this) (by omega) fun q hq => hq
      obtain ⟨Ao', co', hoe⟩ := hB.form
      have hyl : ys.length = k - n0 := by have := congrArg List.length hys; simpa using this
      unfold BlkPost at hone
      have hcb := bcells_blk S L F k u
      obtain ⟨Z, hZ⟩ : ∃ Z, Z = F + k * S := ⟨_, rfl⟩
      rw [← hZ] at hone hcb
      have hcb := fun v => hcb v Z rfl
      have hdat : (blkN S L F u k).data = dataN S L u k := rfl
      obtain ⟨y, hy⟩ : ∃ y, y = blkN S L F u k := ⟨_, rfl⟩
      rw [← hy] at hcb hdat
      have hysn : ys.map (·.c) ++ [y] = (List.range' n0 (k + 1 - n0)).map (blkN S L F u) := by
        rw [hys, hy, show k + 1 - n0 = (k - n0) + 1 from by omega, List.range'_concat, List.map_append]
        simp only [List.map_cons, List.map_nil, Nat.one_mul]
        rw [show n0 + (k - n0) = k from by omega]
      generalize dataN S L u k = D at *
      generalize warmN S L k = Wm at *
      have HA := Lib.hid (And.intro hone (And.intro hcb (And.intro hdat (And.intro hysn (And.intro hB (And.intro hr (And.intro hF (And.intro hyl (And.intro hkd (And.intro hvl hw4))))))))))
      have hj : k + 1 - n0 = k - n0 + 1 := by omega
      have Hj := Lib.hid hj
      have hjl : k - n0 ≤ 900000 := by omega
      clear hone hcb hdat hysn hB hr hF hyl hvl hw4 hkd hlt hdl hdn hkS hul hNl hnews hC hys hT hZ hy hoe hj hkS1 hP
      generalize k - n0 = J at *
      go_upto_region 5 with fail
      go_quiet (fail)
      go_wp2_with fail
      obtain ⟨w5, hw5⟩ : ∃ w5, w5 = wr.drewN nq := ⟨_, rfl⟩
      have HF5 := Lib.hid (show Frm (fun _ => False) wr w5 from hw5 ▸ (Frm.refl _ wr).drewN nq)
      replace e0 := HF5.out.cell e0 id
      replace e1 := HF5.out.cell e1 id
      replace e2 := HF5.out.cell e2 id
      replace e3 := HF5.out.cell e3 id
      replace e4 := HF5.out.cell e4 id
      rw [← hw5]
      clear hw5 e4f
      go_region_held3 (fun w' => w'.cell? ⟨b, 0, none⟩ = some (.int .i64 S) ∧ w'.cell? ⟨b, 1, none⟩ = some (.int .i64 L) ∧ w'.cell? ⟨b, 2, none⟩ = some (.int .i64 F) ∧ w'.cell? ⟨b, 3, none⟩ = some (.slice A3 N3 c3) ∧ w'.cell? ⟨b, 4, none⟩ = some (.int .i64 k)) (first | (with_reducible (refine ⟨?_, ?_, ?_, ?_, ?_⟩ <;> assumption)) | (with_reducible exact ⟨cell_dr e0, cell_dr e1, cell_dr e2, cell_dr e3, cell_dr e4⟩) | (with_reducible exact ⟨cell_new d0, cell_new d1, cell_new d2, cell_new d3, cell_new d4⟩))
        (first
        | (go_at_call 32; refine (HA.out.1 _ (by exact HF5.out.drew)).mono ?_; rintro e w6 ⟨v8, rfl, ho8, hF8⟩; obtain ⟨A8, c8, rfl, -, -⟩ := own_form ho8; have d0 := hF8.cell e0 id; have d1 := hF8.cell e1 id; have d2 := hF8.cell e2 id; have d3 := hF8.cell e3 id; have d4 := hF8.cell e4 id; have H2 := Lib.hid (And.intro ho8 hF8); clear ho8 hF8)
        | (refine br_push_step (by rfl) _ _ (by rfl) nb (fun q => (Value.slice A3 N3 c3).ownBlock = some q) (.slice Ao J co) _ _ _ _ _ _ (by rfl) (by rfl) (HA.out.2.1 _) (HA.out.2.2.2.2.1.step ((HF5.out.drew).trans H2.out.2 fun _ h => h.elim) (fun _ h => h.elim) (fun q hq => .inl hq)) ⟨by rw [kGood_eq, HA.out.2.2.1]; exact World.ownsRow.mono H2.out.1 (Nat.le_trans (Nat.le_trans HA.out.2.2.2.2.2.2.2.2.2.2.1 HA.out.2.2.2.2.2.2.1.size) HF5.out.size), fun q hq hx => by have h1 := (World.ownsRow.lt H2.out.1 q hq).1; have h2 := (HA.out.2.2.2.2.2.1.lt.2 q hx).2.1; have h3 := HF5.out.size; have h0 : w5.drew.heap.size = w5.heap.size := rfl; omega⟩ (by rw [HA.out.2.2.2.2.2.2.2.1]; omega) (fun q hq => by have h2 := (HA.out.2.2.2.2.2.1.lt.2 q hq).2.1; have h3 := HF5.out.size; have h4 := H2.out.2.size; have h0 : w5.drew.heap.size = w5.heap.size := rfl; omega) (by have h3 := HF5.out.size; have h4 := H2.out.2.size; have h5 := HA.out.2.2.2.2.2.2.1.size; have h6 := HA.out.2.2.2.2.2.2.2.2.2.2.1; have h0 : w5.drew.heap.size = w5.heap.size := rfl; omega) ?_; intro A7 N7 c7 w7 hh; have hF6 : Frm (fun _ => False) wr w6 := (HF5.out.drew).trans H2.out.2 fun _ h => h.elim; have hr7 := (HA.out.2.2.2.2.2.1.keptF hF6).kept hh.out.2.2 (fun hk => own_blk_ne (HA.out.2.2.2.2.1.step (X' := fun q => (Value.slice A3 N3 c3).ownBlock = some q) hF6 (fun _ h => h.elim) (fun q hq => .inl hq)).1 (HA.out.2.2.2.2.2.1.keptF hF6).1 (by decide) hk) (fun q hq hk => (HA.out.2.2.2.2.1.step (X' := fun q => (Value.slice A3 N3 c3).ownBlock = some q) hF6 (fun _ h => h.elim) (fun q hq => .inl hq)).2.2 q hk hq); obtain ⟨g0, g1, g2, g3, g4, -⟩ := hr7.cells; have g4f := hr7.frozen 4; have H7 := Lib.hid (And.intro hr7 (And.intro hF6 hh.out)); clear hr7 hF6 hh))
      go_wp2_with fail
      have hcast : ((k : Int) + 1) = ((k + 1 : Nat) : Int) := by omega
      have hJ1 := H7.out.2.2.1
      rw [HA.out.2.2.2.2.2.2.2.1] at hJ1
      go_roundw
      case rel =>
        refine ⟨k + 1, by omega, hk1, A7, c7, by rw [Hj.out, hJ1], Lib.hid ?_⟩
        rw [hcast]
        obtain ⟨hr7, hF6, hN7, hB7, hF7⟩ := H7.out
        have hA := HA.out
        refine ⟨_, by rw [List.map_append]; exact hA.2.2.2.1, hB7.step (K := fun q => q = b) ((Frm.refl (fun q => q = b) w7).setCell ⟨b, 4, none⟩ (.inl rfl) _) (fun q hq => ?_) (fun q h => .inl h), hr7.told (k + 1), (((hA.2.2.2.2.2.2.1.trans hF6 fun _ h => h.elim).trans hF7 fun q hq => ?_).setCell ⟨b, 4, none⟩ (.inl rfl) _)⟩
        · exact .inl (by rw [hq]; exact hA.2.2.2.2.2.2.2.2.2.2.2.1)
        · exact .inr (Nat.le_trans hA.2.2.2.2.2.2.2.2.2.2.2.2 (World.ownsRow.lt hA.2.2.2.2.1.1 q hq).1)
      case measure => simp only [lenV]; rw [hJ1]; have := Hj.out; omega
    · have hkM2 : k = M := by omega
      have hg0 : decide (P ≤ N3) = false := by simpa using hlt
      have HT := Lib.hid (And.intro hkM2 (And.intro hys (And.intro hB (And.intro hr (And.intro hF hnews)))))
      clear hys hB hr hF hkM2 hkd hnews hP hNl hdl hdn hkS hul
      go_upto_region 5 with fail
      go_quiet (fail)
      go_wp2_with fail
      go_ret
      obtain ⟨hkM2, hys, hB, hr, hF, hnews⟩ := HT.out
      have hq : Frm (fun _ => False) wr (wr.drewN nq) := (Frm.refl _ wr).drewN nq
      refine HP.out _ _ ⟨_, ys, rfl, ?_, hB.step hq (fun _ h => h.elim) (fun q h => .inl h), ?_, hF.drewN nq⟩
      · rw [hnews, hys, hkM2]
      · rw [← hkM2]; exact hr.keptF hq
end Go.Proofs.Ytecpbnkkgdppoaa
