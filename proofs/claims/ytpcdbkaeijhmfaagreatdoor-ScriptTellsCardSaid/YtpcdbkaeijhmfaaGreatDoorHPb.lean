/- script: numbers. -/
import Derived.Test.YtpcdbkaeijhmfaaGreatDoorHPa
namespace Go.Proofs.YtpcdbkaeijhmfaaGreatDoor
set_option maxRecDepth 100000
set_option linter.unusedVariables false
set_option linter.unusedSimpArgs false
open Go.RowKit
def svb (ws : List By) : List Value := ws.map fun w => .string (ba w)
@[simp] theorem svb_length (ws : List By) : (svb ws).length = ws.length := by simp [svb]
/-- A slice of strings, in memory that stays. -/
def SAt (w : World) (K : Nat → Prop) (A : Option Addr) (n c : Nat) (ws : List By) : Prop := Sl w K (.slice A n c) (svb ws) ∧ (∀ x ∈ ws, x.length ≤ 1000000)
theorem SAt.len {w : World} {K : Nat → Prop} {A : Option Addr} {n c : Nat} {ws : List By} (h : SAt w K A n c ws) : n = ws.length ∧ n ≤ c ∧ c ≤ 9223372036854775807 := by
  obtain ⟨A', n', c', e, h1, h2, h3, -⟩ := h.1
  cases e
  exact ⟨by simpa using h1, h2, h3⟩
theorem SAt.at_ {w : World} {K : Nat → Prop} {A : Option Addr} {n c : Nat} {ws : List By} (h : SAt w K A n c ws) (k : Nat) (hk : k < n) : ∃ x g o, ws[k]? = some x ∧ x.length ≤ 1000000 ∧ A = some ⟨g, o, none⟩ ∧ K g ∧ w.cell? ⟨g, o + k, none⟩ = some (.string (ba x)) := by
  have hn := h.len.1
  obtain ⟨A', n', c', e, h1, h2, h3, h4⟩ := h.1
  cases e
  obtain ⟨g, o, rfl, hK, hc⟩ := h4.resolve_left (by omega)
  have hk' : k < ws.length := by omega
  refine ⟨ws[k], g, o, List.getElem?_eq_getElem hk', h.2 _ (List.getElem_mem hk'), rfl, hK, ?_⟩
  rw [hc k (by simp; omega)]
  simp [svb]
theorem SAt.keptTo {w w' : World} {K K' : Nat → Prop} {A : Option Addr} {n c : Nat} {ws : List By} (h : SAt w K A n c ws) (hf : ∀ k, K k → w'.heap[k]? = w.heap[k]? ∧ K' k) : SAt w' K' A n c ws := ⟨h.1.keptTo hf, h.2⟩
theorem infoI : (Tryz.prog.info? 3).map (fun i => (i.zero, i.size, i.bytes)) = some (some (.int .i64 0), 1, 8) := by kernel_rfl
def ivs (l : List Int) : List Value := l.map (.int .i64)
theorem ivs_one (l : List Int) : ∀ u ∈ ivs l, u.oneCell' = true := by
  intro u hu; simp [ivs] at hu; obtain ⟨c, _, rfl⟩ := hu; rfl
def NumsPost (o : Option (List Int)) (w : World) (e : Ending) (w' : World) : Prop :=
  ∃ v, e = .returned (.tuple #[v, .bool o.isSome]) ∧ w'.ownsRow w.heap.size 3 1 v (o.getD []).length (ivs (o.getD [])) ∧ Frm (fun _ => False) w w'
theorem numsB_step (ws : List By) (k : Nat) (x : By) (h : ws[k]? = some x) : numsB (ws.drop k) = match numB x with | none => none | some n => (numsB (ws.drop (k + 1))).map (n :: ·) := by
  obtain ⟨hk, he⟩ := List.getElem?_eq_some_iff.1 h
  rw [List.drop_eq_getElem_cons hk, he, numsB]
  rfl
set_option maxHeartbeats 1600000 in
theorem numbers_any (K : Nat → Prop) (A : Option Addr) (n c : Nat) (ws : List By) (w : World) (h : SAt w K A n c ws) (hK : ∀ q, K q → q < w.heap.size) (hl : ws.length ≤ 1000000) :
    Calls Tryz.prog 46 #[.slice A n c] w (NumsPost (numsB ws) w) := by
  obtain ⟨i0, hi, hz0, hz1, hz2⟩ := info_parts infoI
  obtain ⟨hn, hnc, hcm⟩ := h.len
  have H := Lib.hid (And.intro h (And.intro hK (And.intro hn hl)))
  have hn9 : n ≤ 1000000 := by omega
  clear h hK hn hl
  go_enter Tryz.func46, Tryz.ntmps46
  go_wp2_with fail
  go_loopw [4, 11] (fun t i wr => ∃ k : Nat, k ≤ n ∧ i = .int .i64 k ∧ Hid (∃ ns : List Int, ns.length = k ∧ numsB ws = (numsB (ws.drop k)).map (ns ++ ·) ∧ wr.ownsRow w.heap.size 3 1 t k (ivs ns) ∧ Frm (fun _ => False) w wr)) (fun _ i _ => n - (intOf i).toNat)
  case atStart => exact ⟨0, Nat.zero_le _, rfl, Lib.hid ⟨[], rfl, by simp, World.ownsRow_nil _ _ _ _, Frm.refl _ _⟩⟩
  case round =>
    obtain ⟨k, hk, rfl, hT⟩ := hrel
    by_cases hlt : k < n
    · obtain ⟨x, g, o, hx, hxl, rfl, hg, hc0⟩ := H.out.1.at_ k hlt
      obtain ⟨ns, hnl, hns, ho, hF⟩ := hT.out
      have hc1 := hF.cell hc0 id
      have hs := numsB_step ws k x hx
      have hnum := number_any x wr hxl
      have HA := Lib.hid (And.intro hnl (And.intro hns (And.intro ho (And.intro hF hs))))
      obtain ⟨A5, c5, rfl, -, -⟩ := own_form ho
      clear hx hnl hns ho hF hs hc0 hT
      cases hb : numB x with
      | none =>
        rw [hb] at hnum
        have Hf := Lib.hid (show numsB ws = none by rw [HA.out.2.1, HA.out.2.2.2.2, hb]; rfl)
        clear hb
        go_wp2_with fail
        refine hnum.mono ?_
        rintro e w' ⟨rfl, rfl⟩
        go_wp2_with fail
        go_ret2
        rw [Hf.out]
        exact ⟨_, rfl, World.ownsRow_nil _ _ _ _, HA.out.2.2.2.1⟩
      | some m =>
        rw [hb] at hnum
        have Hb := Lib.hid hb
        clear hb
        go_wp2_with fail
        refine hnum.mono ?_
        rintro e w' ⟨rfl, rfl⟩
        have hbz := HA.out.2.2.2.1.size
        clear hnum hc1
        go_wp2_with (at_builtin; go_loud (refine wpList_append_sl (by rfl) _ _ 26 (by rfl) w.heap.size 3 i0 (.int .i64 0) 8 Tryz.underlying26 hi hz0 hz1 hz2 (by rfl) _ k _ (by rfl) (((Frm.refl (fun _ => False) wr).alloc _).own HA.out.2.2.1 fun _ _ => id) (fun q => q = wr.heap.size) _ [.int .i64 m] (by rfl) (Sl.blk1 wr _ _) (ivs_one [m]) (by unfold maxLen; simp; omega) (by simp; omega) (by simp; omega) ?_); go_loud (intro A6 N6 c6 w6 HN hNc hc6 hown hg hat))
        obtain rfl : N6 = k + 1 := HN.out
        have HE := Lib.hid (And.intro hown (((HA.out.2.2.2.1).alloc _).grown hg fun q hq => .inr (HA.out.2.2.1.lt q hq).1))
        clear hown hg hat HN hbz
        go_wp2_with fail
        go_roundw
        case rel => exact ⟨k + 1, by omega, by go_num, Lib.hid ⟨ns ++ [m], by simp [HA.out.1], by
          rw [HA.out.2.1, HA.out.2.2.2.2, Hb.out]
          cases numsB (ws.drop (k + 1)) <;> simp, by simpa [ivs] using HE.out.1, HE.out.2⟩⟩
        case measure => simp [intOf]; omega
    · obtain rfl : k = n := by omega
      go_wp2_with fail
      go_ret2
      obtain ⟨ns, hnl, hns, ho, hF⟩ := hT.out
      rw [List.drop_of_length_le (by have := H.out.2.2.1; omega)] at hns
      have e : numsB ws = some ns := by rw [hns]; simp [numsB]
      rw [e]
      exact ⟨_, rfl, by simpa [hnl] using ho, hF⟩
end Go.Proofs.YtpcdbkaeijhmfaaGreatDoor
