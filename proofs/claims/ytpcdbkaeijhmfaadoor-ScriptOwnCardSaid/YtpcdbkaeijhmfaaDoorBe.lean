/- script: behind. -/
import Derived.Test.YtpcdbkaeijhmfaaDoorSt
namespace Go.Proofs.YtpcdbkaeijhmfaaDoor
set_option maxRecDepth 100000
set_option linter.unusedVariables false
set_option linter.unusedSimpArgs false
open Go.RowKit
def oneTx (ws : List By) : Option By := match ws with | [x] => txtB x | _ => none
theorem infoR : (Tryd.prog.info? 43).map (fun i => (i.zero, i.size, i.bytes)) = some (some (.slice none 0 0), 1, 24) := by kernel_rfl
def BehPost (b i B : Nat) (v : Value) (L : List By) (r : Option By) (w : World) (e : Ending) (w' : World) : Prop :=
  e = .returned (.bool r.isSome) ∧ (r = none → Frm (fun _ => False) w w') ∧ (∀ t, r = some t → ∃ v' w3, w' = w3.setCell ⟨b, i, none⟩ v' ∧ TxR w3 B v' (L ++ [t]) ∧ Frm (fun q => v.ownBlock = some q) w w3 ∧ (v'.ownBlock = v.ownBlock ∨ ∀ q, v'.ownBlock = some q → w.heap.size ≤ q))
theorem BehPost.no {b i B : Nat} {v : Value} {L : List By} {r : Option By} {w w' : World} (h : r = none) (hF : Frm (fun _ => False) w w') : BehPost b i B v L r w (.returned (.bool false)) w' := by
  subst h; exact ⟨rfl, fun _ => hF, fun t h => by cases h⟩
set_option maxHeartbeats 1600000 in
theorem behind_any (b i B : Nat) (v : Value) (L : List By) (K : Nat → Prop) (A : Option Addr) (n c : Nat) (ws : List By) (cs : Array Value) (w : World) (hb : Blk w b 60 cs) (hi0 : cs[i]? = some v) (h : TxR w B v L) (hs : SAt w K A n c ws) (hL : L.length ≤ 1000000) (hB : B ≤ w.heap.size) :
    Calls Tryd.prog 45 #[.pointer (some ⟨b, i, none⟩), .slice A n c] w (BehPost b i B v L (oneTx ws) w) := by
  obtain ⟨i0, hi, hz0, hz1, hz2⟩ := info_parts infoR
  obtain ⟨hn, hnc, hcm⟩ := hs.len
  by_cases h1 : n = 1
  · subst h1
    obtain ⟨x, g, o, hx, hxl, rfl, hg, hc0⟩ := hs.at_ 0 (by omega)
    have hws : oneTx ws = txtB x := by
      match ws, hn, hx with
      | [y], _, hx => simp at hx; subst hx; rfl
    rw [hws]
    have hun := unquote_any x w hxl
    have Hu := Lib.hid hun
    have H := Lib.hid (And.intro hb (And.intro hi0 (And.intro h (And.intro hL hB))))
    rw [Nat.add_zero] at hc0
    clear hun hb hi0 h hs hn hx hws hL hB
    go_enter Tryd.func45, Tryd.ntmps45
    go_wp2_with fail
    refine Hu.out.mono ?_
    rintro e w1 ⟨u, rfl, hu, hF1⟩
    cases hr : txtB x with
    | none =>
      have HF := Lib.hid (And.intro hF1 hr)
      clear hu hF1
      clear hr
      go_wp2_with fail
      go_ret
      exact BehPost.no HF.out.2 HF.out.1
    | some t =>
      rw [hr] at hu
      simp only [Option.getD_some] at hu
      obtain ⟨vs, k1, k2, k3⟩ := H.out.2.2.1.keptF hF1
      obtain ⟨A5, c5, e5, -, -⟩ := own_form k1
      subst e5
      have hb1 := H.out.1.kept hF1 id
      have hcell : w1.cell? ⟨b, i, none⟩ = some (.slice A5 L.length c5) := (hb1.cell i).trans H.out.2.1
      obtain ⟨A8, c8, e8, -, -⟩ := own_form hu
      subst e8
      have HT := Lib.hid (And.intro hu (And.intro k1 (And.intro k2 (And.intro k3 (And.intro hF1 (And.intro hb1 H.out.2.2.1))))))
      have hL9 : L.length ≤ 1000000 := H.out.2.2.2.1
      obtain ⟨m, hm⟩ : ∃ m, m = L.length := ⟨_, rfl⟩
      obtain ⟨q8, hq8⟩ : ∃ q8, q8 = t.length := ⟨_, rfl⟩
      rw [← hm] at hcell hL9
      rw [← hq8]
      have Hm := Lib.hid (And.intro hm (And.intro hq8 hr))
      clear hu k1 k2 k3 hF1 hb1 hr hm hq8
      go_wp2_with (at_builtin; go_loud (refine wpList_append_sl (by rfl) _ _ 22 (by rfl) B 43 i0 (.slice none 0 0) 24 Tryd.underlying22 hi hz0 hz1 hz2 (by rfl) (.slice A5 m c5) m vs (by rfl) (by rw [Hm.out.1]; exact ((Frm.refl (fun _ => False) w1).alloc _).own HT.out.2.1 fun _ _ => id) (fun q => q = w1.heap.size) _ [.slice A8 q8 c8] (by rfl) (Sl.blk1 w1 _ _) (by intro u hu; rw [List.mem_singleton.1 hu]; rfl) (by unfold maxLen; simp; omega) (by simp; omega) (by have := HT.out.2.2.2.2.1.size; have := H.out.2.2.2.2; simp; omega) ?_); go_loud (intro A6 N6 c6 w6 HN hNc hc6 hown hg hat; have hF6 : Frm (fun q => (Value.slice A5 m c5).ownBlock = some q) w1 w6 := ((Frm.refl (fun q => (Value.slice A5 m c5).ownBlock = some q) w1).alloc _).grown hg fun q hq => .inl hq; have hb6 := HT.out.2.2.2.2.2.1.kept hF6 (fun hk => own_blk_ne (by have := HT.out.2.1; rw [← Hm.out.1] at this; exact this) HT.out.2.2.2.2.2.1 (by decide) hk); have hc6' : w6.cell? ⟨b, i, none⟩ = some (.slice A5 L.length c5) := (hb6.cell i).trans H.out.2.1; have hz6 := hb6.frozen i; have H6 := Lib.hid (And.intro hown (And.intro hF6 (And.intro hat HN))); clear hown hg hat hF6 hb6))
      go_ret
      obtain ⟨hown, hF6, hat, HN⟩ := H6.out
      obtain ⟨hu, k1, k2, k3, hF1, hb1, -⟩ := HT.out
      obtain ⟨hm, hq8, hr⟩ := Hm.out
      obtain rfl : N6 = m + 1 := HN.out
      subst hm hq8
      rw [hr]
      refine ⟨rfl, fun h => (by cases h), fun t' ht => ?_⟩
      cases ht
      refine ⟨_, w6, rfl, TxR.push (w := w1) ⟨vs, k1, k2, k3⟩ k1 k3 k2 (World.ownsRow.mono hu H.out.2.2.2.2) hF6 hown, (hF1.mono (K' := fun q => (Value.slice A5 L.length c5).ownBlock = some q) fun _ h => h.elim).trans' hF6, ?_⟩
      rcases hat with h | h
      · exact .inl h
      · refine .inr fun q hq => ?_
        rw [h] at hq
        cases hq
        have := hF1.size
        simp; omega
  · have hws : oneTx ws = none := by
      match ws, hn with
      | [], _ => rfl
      | [y], hn => exact absurd hn h1
      | _ :: _ :: _, _ => rfl
    rw [hws]
    have hne : ((n : Int) != 1) = true := by simp; omega
    clear hb hi0 h hs hn hws h1 hL hB
    go_enter Tryd.func45, Tryd.ntmps45
    go_wp2_with fail
    go_ret
    exact BehPost.no rfl (Frm.refl _ _)
end Go.Proofs.YtpcdbkaeijhmfaaDoor
