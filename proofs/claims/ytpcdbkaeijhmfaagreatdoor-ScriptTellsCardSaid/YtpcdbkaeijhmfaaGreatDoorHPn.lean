/- script: kinds, plan. -/
import Derived.Deep.RegionHeld3
import Derived.Test.YtpcdbkaeijhmfaaGreatDoorHCu
namespace Go.Proofs.YtpcdbkaeijhmfaaGreatDoor
set_option maxRecDepth 100000
set_option linter.unusedVariables false
set_option linter.unusedSimpArgs false
open Go.RowKit
def kindL : List By := [bs "none", bs "first", bs "last", bs "round", bs "seed"]
theorem cell_dr {w : World} {a : Addr} {v : Value} (h : w.cell? a = some v) : w.drew.cell? a = some v := h
theorem kinds_any (w : World) : Calls Tryz.prog 55 #[] w fun e w' => ∃ g, g = w.heap.size ∧ e = .returned (.slice (some ⟨g, 0, none⟩) 5 5) ∧ (∀ j, j < (kindL.map ba).length → w'.cell? ⟨g, 0 + j, none⟩ = some (.string ((kindL.map ba).getD j ByteArray.empty))) ∧ Frm (fun _ => False) w w' := by
  go_enter Tryz.func55, Tryz.ntmps55
  go_wp2_with fail
  go_ret
  refine ⟨_, rfl, rfl, fun j hj => ?_, (Frm.refl _ w).alloc _⟩
  have hb := Blk.new w 9 #[.string (ba (bs "none")), .string (ba (bs "first")), .string (ba (bs "last")), .string (ba (bs "round")), .string (ba (bs "seed"))]
  have hj5 : j < 5 := hj
  match j, hj5 with
  | 0, _ => exact hb.cell 0
  | 1, _ => exact hb.cell 1
  | 2, _ => exact hb.cell 2
  | 3, _ => exact hb.cell 3
  | 4, _ => exact hb.cell 4
theorem ba_inj {a b : By} : ba a = ba b ↔ a = b := by
  constructor
  · intro h
    have := congrArg ByteArray.toList h
    rwa [ba_toList, ba_toList] at this
  · rintro rfl; rfl
theorem idx_kind (x : By) : Lib.idxOfS ((kindL.map ba).take 5) (ba x) = match kindB x with | some k => (k : Int) | none => -1 := by
  have hb : ∀ a : By, (ba a = ba x) = (x = a) := fun a => propext (ba_inj.trans eq_comm)
  show Lib.idxFromS [ba (bs "none"), ba (bs "first"), ba (bs "last"), ba (bs "round"), ba (bs "seed")] (ba x) 0 = _
  unfold kindB
  simp only [Lib.idxFromS, hb]
  by_cases h0 : x = bs "none"
  · simp [h0]
  by_cases h1 : x = bs "first"
  · simp [h0, h1]; decide
  by_cases h2 : x = bs "last"
  · simp [h0, h1, h2]; decide
  by_cases h3 : x = bs "round"
  · simp [h0, h1, h2, h3]; decide
  by_cases h4 : x = bs "seed"
  · simp [h0, h1, h2, h3, h4]; decide
  simp [h0, h1, h2, h3, h4]
theorem run_dropS (A : Option Addr) (n c : Nat) (hn : 1 ≤ n) (w : World) : (Instr.slice 46 (.slice A n c) (some (.int .i64 1)) none none).run Tryz.prog w = .ok (.slice (if c = 1 then A else A.map (·.add 1)) (n - 1) (c - 1)) w :=
  run_drop (P := Tryz.prog) (t := 46) (sz := 1) Tryz.underlying46 (by intro w; kernel_rfl) A n c 1 (by omega) (by omega) w
theorem SAt.tail {w : World} {K : Nat → Prop} {A : Option Addr} {n c : Nat} {x : By} {ws : List By} (h : SAt w K A n c (x :: ws)) : SAt w K (if c = 1 then A else A.map (·.add 1)) (n - 1) (c - 1) ws := by
  have h1 := h.1.drop 1 (by have := h.len.1; simp at this; omega)
  exact ⟨by simpa [svb] using h1, fun y hy => h.2 y (List.mem_cons_of_mem _ hy)⟩
theorem planB_len (st : St) (ws : List By) (h : ws.length ≠ 3) : planB st ws = none := by
  match ws, h with
  | [], _ => rfl
  | [_], _ => rfl
  | [_, _], _ => rfl
  | [_, _, _], h => exact absurd rfl h
  | _ :: _ :: _ :: _ :: _, _ => rfl
set_option maxHeartbeats 3200000 in
theorem plan_any (b : Nat) (st : St) (A : Option Addr) (n c : Nat) (ws : List By) (w : World) (hst : StO w b st) (h : SAt w (KS w) A n c ws) :
    Calls Tryz.prog 45 #[.pointer (some ⟨b, 0, none⟩), .slice A n c] w (LinePost b (planB st ws) w) := by
  obtain ⟨hn, hnc, hcm⟩ := h.len
  by_cases h3 : n = 3
  · subst h3
    obtain ⟨k, x, y, rfl⟩ : ∃ k x y, ws = [k, x, y] := by
      match ws, hn with
      | [k, x, y], _ => exact ⟨k, x, y, rfl⟩
    obtain ⟨k', g, o, hx, hkl, rfl, hg, hc0⟩ := h.at_ 0 (by omega)
    obtain rfl : k = k' := by simpa using hx
    rw [Nat.add_zero] at hc0
    have hdr := run_dropS (some ⟨g, o, none⟩) 3 c (by omega)
    obtain ⟨A2, hA2⟩ : ∃ A2, A2 = if c = 1 then some (⟨g, o, none⟩ : Addr) else (some (⟨g, o, none⟩ : Addr)).map (·.add 1) := ⟨_, rfl⟩
    rw [← hA2] at hdr
    have htl := h.tail
    rw [← hA2] at htl
    have hnum : ∀ W, Frm (fun _ => False) w W → Calls Tryz.prog 46 #[.slice A2 (3 - 1) (c - 1)] W (NumsPost (numsB [x, y]) W) := fun W hW =>
      numbers_any (KS w) A2 (3 - 1) (c - 1) [x, y] W (htl.keptTo fun q hq => ⟨hW.block q hq.lt id, hq⟩) (fun q hq => Nat.lt_of_lt_of_le hq.lt hW.size) (by simp)
    obtain ⟨kk, hkk⟩ : ∃ kk : Int, kk = match kindB k with | some k => (k : Int) | none => -1 := ⟨_, rfl⟩
    have hidx : ∀ W g', (∀ j, j < (kindL.map ba).length → W.cell? ⟨g', 0 + j, none⟩ = some (.string ((kindL.map ba).getD j ByteArray.empty))) → Calls Tryz.prog 70 #[.slice (some ⟨g', 0, none⟩) 5 5, .string (ba k)] W fun e w' => e = .returned (.int .i64 kk) ∧ W = w' := fun W g' hc => by
      have := Tryz.slices_Index_string g' 0 5 5 (kindL.map ba) (ba k) W (by decide) (by omega) hc
      rw [idx_kind, ← hkk] at this
      exact this.mono fun e w' h => ⟨h.1, h.2.symm⟩
    obtain ⟨r, hr⟩ : ∃ r, r = planB st [k, x, y] := ⟨_, rfl⟩
    rw [← hr]
    unfold planB at hr
    simp only at hr
    have hnl : numsB [x, y] = match numB x with | none => none | some a => match numB y with | none => none | some b => some [a, b] := by
      simp only [numsB]
      cases numB x <;> cases numB y <;> rfl
    have H := Lib.hid (And.intro hst (And.intro hnum (And.intro hidx (And.intro hr hnl))))
    have hbl := hst.lt
    clear hst h hn hx hg htl hnum hidx hr hnl hA2
    go_enter Tryz.func45, Tryz.ntmps45
    go_upto_region 3 with fail
    have HK := Lib.hid hkk
    clear hkk
    go_cut [5] (fun t wc => t = .int .i64 kk ∧ Hid (Frm (fun _ => False) w wc))
    case first =>
      go_region_held3 (fun w' => w'.cell? ⟨g, o, none⟩ = some (.string (ba k)))
        (first | (with_reducible assumption) | (with_reducible exact cell_dr hc0))
        (first
        | (go_at_call 55; refine (kinds_any _).mono ?_; rintro e w2 ⟨g2, hg2, rfl, hcs, hF2⟩; have d0 := hF2.cell hc0 id; have H2 := Lib.hid (And.intro hcs hF2); clear hcs hF2 hg2)
        | (go_at_call 70; refine (H.out.2.2.1 _ g2 (by exact H2.out.1)).mono ?_; rintro e w3 ⟨rfl, rfl⟩))
      all_goals
        go_wp2_with fail
        go_meet
        case rel => exact ⟨rfl, Lib.hid ((Frm.refl _ w).drew.trans H2.out.2 fun _ h => h.elim)⟩
    case rest =>
      obtain ⟨rfl, HF⟩ := hcut
      have hnm := H.out.2.1 wc HF.out
      go_wp2_with fail
      refine hnm.mono ?_
      rintro e w2 ⟨v, rfl, ho, hF2⟩
      have hF := HF.out.trans hF2 fun _ h => h.elim
      have hst2 := H.out.1.keptF hF
      obtain ⟨-, -, -, hr, hnl⟩ := H.out
      cases hk : kindB k with
      | none =>
        have Hr := Lib.hid (show r = none by rw [hr, hk])
        have hkk : kk = -1 := by rw [HK.out, hk]
        subst hkk
        have H2 := Lib.hid hF
        clear ho hst2 hr hnl hk hF hnm hF2
        go_wp2_with fail
        go_ret
        exact LinePost.no Hr.out (StT.of_frm H2.out hbl)
      | some q =>
        have hkk : kk = q := by rw [HK.out, hk]
        have hq5 : q < 5 := by
          unfold kindB at hk
          split at hk; · cases hk; omega
          split at hk; · cases hk; omega
          split at hk; · cases hk; omega
          split at hk; · cases hk; omega
          split at hk; · cases hk; omega
          cases hk
        subst hkk
        cases hns : numsB [x, y] with
        | none =>
          have Hr := Lib.hid (show r = none by
            rw [hr, hk]
            rw [hns] at hnl
            cases hx : numB x with
            | none => rfl
            | some a =>
              cases hy : numB y with
              | none => rfl
              | some b => rw [hx, hy] at hnl; cases hnl)
          have H2 := Lib.hid hF
          clear ho hst2 hr hnl hk hF hnm hF2 hns
          go_wp2_with fail
          go_ret
          exact LinePost.no Hr.out (StT.of_frm H2.out hbl)
        | some l =>
          obtain ⟨a, b', rfl, hxa, hyb⟩ : ∃ a b', l = [a, b'] ∧ numB x = some a ∧ numB y = some b' := by
            rw [hns] at hnl
            cases hx : numB x with
            | none => rw [hx] at hnl; cases hnl
            | some a =>
              cases hy : numB y with
              | none => rw [hx, hy] at hnl; cases hnl
              | some b => rw [hx, hy] at hnl; exact ⟨a, b, Option.some.inj hnl, rfl, rfl⟩
          rw [hns] at ho
          simp only [Option.getD_some, List.length_cons, List.length_nil, Nat.reduceAdd] at ho
          obtain ⟨A3, c3, e3, hc3, -⟩ := own_form ho
          subst e3
          obtain ⟨g3, rfl, d0⟩ := own_at ho 0 (by simp [ivs])
          obtain ⟨g3', e, d1⟩ := own_at ho 1 (by simp [ivs])
          cases e
          simp only [ivs, List.map_cons, List.map_nil, List.getElem_cons_zero, List.getElem_cons_succ] at d0 d1
          have hr : r = if 0 ≤ a ∧ a ≤ 4294967295 then some { st with kind := q, seed := a.toNat, last := b' } else none := by rw [hr, hk, hxa, hyb]
          by_cases ha : 0 ≤ a ∧ a ≤ 4294967295
          · have Hr := Lib.hid (show r = some { st with kind := q, seed := a.toNat, last := b' } by rw [hr, if_pos ha])
            obtain ⟨s, rfl⟩ : ∃ s : Nat, a = s := ⟨a.toNat, by omega⟩
            obtain ⟨wv, rv, av, pv, hB, hL⟩ := hst2
            have f13 := hB.frozen 13
            have f14 := hB.frozen 14
            have f15 := hB.frozen 15
            have e13 : w2.cell? ⟨b, 13, none⟩ = some (.int .u8 st.kind) := hB.cell 13
            have e14 : w2.cell? ⟨b, 14, none⟩ = some (.int .u32 st.seed) := hB.cell 14
            have e15 : w2.cell? ⟨b, 15, none⟩ = some (.int .i64 st.last) := hB.cell 15
            have hs9 : s ≤ 4294967295 := by omega
            have H2 := Lib.hid (And.intro hB (And.intro hL hF))
            clear ho hr hnl hk hF hnm hF2 hns hB hL ha hxa hyb
            go_upto_region 7 with fail
            refine plan_begin (by kernel_rfl) 16 (by kernel_rfl) ?_
            obtain ⟨W, hW⟩ : ∃ W, W = w2.drew := ⟨_, rfl⟩
            replace d0 : W.cell? ⟨g3, 0, none⟩ = some (.int .i64 s) := hW ▸ d0
            replace d1 : W.cell? ⟨g3, 1, none⟩ = some (.int .i64 b') := hW ▸ d1
            replace f13 : W.frozen? ⟨b, 13, none⟩ = false := hW ▸ f13
            replace f14 : W.frozen? ⟨b, 14, none⟩ = false := hW ▸ f14
            replace f15 : W.frozen? ⟨b, 15, none⟩ = false := hW ▸ f15
            replace e13 : W.cell? ⟨b, 13, none⟩ = some (.int .u8 st.kind) := hW ▸ e13
            replace e14 : W.cell? ⟨b, 14, none⟩ = some (.int .u32 st.seed) := hW ▸ e14
            replace e15 : W.cell? ⟨b, 15, none⟩ = some (.int .i64 st.last) := hW ▸ e15
            have HW := Lib.hid (show Blk W b 50 (stCells st wv rv av pv) ∧ Lsts W (b + 1) st wv rv av pv ∧ Frm (fun _ => False) w W from hW ▸ ⟨H2.out.1, H2.out.2.1.keptF (Frm.refl _ w2).drew, H2.out.2.2.drew⟩)
            rw [← hW]
            clear hW H2
            refine plan_still 16 0 15 1 (by kernel_rfl) (by kernel_rfl) (by kernel_rfl) (by kernel_rfl) (by kernel_rfl) (by kernel_rfl) (by kernel_rfl) (fun Kp hKp => ?_)
            simp only [List.append_eq, List.cons_append, List.nil_append, List.take_succ_cons, List.take_zero, List.drop_succ_cons, List.drop_zero, List.drop_nil, List.take_nil]
            repeat still_step
            refine wpStill_nil ?_
            refine hKp _ ?_
            clear hKp Kp
            refine plan_one 15 (by kernel_rfl) rfl ?_
            intro K hK
            go_wp2_with fail
            refine plan_done (by kernel_rfl) ?_
            go_wp2_with fail
            go_ret
            obtain ⟨hB, hL, hF⟩ := HW.out
            exact sets_yes (st' := { st with kind := q, seed := s, last := b' }) Hr.out hF hB hL [(13, .int .u8 q), (14, .int .u32 s), (15, .int .i64 b')] (by unfold lst4; simp) ⟨rfl, rfl, rfl, rfl⟩ rfl
          · have Hr := Lib.hid (show r = none by rw [hr, if_neg ha])
            have H2 := Lib.hid hF
            by_cases h0 : a < 0
            · clear ho hr hnl hk hF hnm hF2 hns ha hxa hyb hst2
              go_wp2_with fail
              go_ret
              exact LinePost.no Hr.out (StT.of_frm H2.out hbl)
            · have h1 : 4294967295 < a := by omega
              clear ho hr hnl hk hF hnm hF2 hns ha hxa hyb hst2
              go_wp2_with fail
              go_ret
              exact LinePost.no Hr.out (StT.of_frm H2.out hbl)
  · have hws : planB st ws = none := planB_len st ws (by omega)
    rw [hws]
    have hne : ((n : Int) != 3) = true := by simp; omega
    have hbl := hst.lt
    clear hst h hn hws h3
    go_enter Tryz.func45, Tryz.ntmps45
    go_wp2_with fail
    go_ret
    exact LinePost.no rfl (StT.refl _ _)
end Go.Proofs.YtpcdbkaeijhmfaaGreatDoor
