/- The walk of chore.Ready. -/
import Derived.Test.YtbfcpapehfdphaaRg
import Derived.Test.YtbfcpapehfdphaaPip
import Derived.Test.YtbfcpapehfdphaaCan
import Derived.Test.YtbfcpapehfdphaaSm
namespace Go.Proofs.Ytbfcpapehfdphaa
open Go.RowKit
def ReadyPost (c : Ch) (ps : List Pk) (w : World) (e : Ending) (w' : World) : Prop := e = .returned (.bool (readyB c (ps.map (·.p)))) ∧ Frm (fun _ => False) w w'
theorem head_of {es : List Er} {a s r m : Int} (h : rightB m ⟨es, a, s, r⟩ = true) : es.length ≤ 64 ∧ 0 ≤ a ∧ a ≤ es.length ∧ 0 ≤ r ∧ r ≤ 64 ∧ es.all (mayB m) = true := by
  unfold rightB headB at h
  simp only [Bool.and_eq_true, decide_eq_true_eq] at h
  exact ⟨h.1.1, h.1.2.1, h.1.2.2.1, h.1.2.2.2.1, h.1.2.2.2.2, h.2⟩
/-- Of a chore that may be, and is not over: the next errand. -/
theorem next_of {es : List Er} {a s r : Int} {m : Int} (h : rightB m ⟨es, a, s, r⟩ = true) (ho : ¬ a = (es.length : Int)) : ∃ k : Nat, a = k ∧ ∃ x, es[k]? = some x ∧ mayB m x = true ∧ k < es.length := by
  obtain ⟨h1, h2, h3, h4, h5, h6⟩ := head_of h
  refine ⟨a.toNat, by omega, es[a.toNat]'(by omega), List.getElem?_eq_getElem _, List.all_eq_true.1 h6 _ (List.getElem_mem _), by omega⟩
theorem may_range {m d q n : Int} (h : mayB m ⟨d, q, n⟩ = true) (hd : d = 1 ∨ d = 2 ∨ d = 4) : 0 ≤ q ∧ q < m := by
  unfold mayB at h
  dsimp only at h
  rcases hd with rfl | rfl | rfl <;> simp at h <;> omega
theorem ready_no1 {c : Ch} {l : List Pi} (h : pipesB l = false) : readyB c l = false := by unfold readyB; rw [h, Bool.false_and]
theorem ready_no2 {c : Ch} {l : List Pi} (h : rightB l.length c = false) : readyB c l = false := by unfold readyB; rw [h, Bool.false_and, Bool.and_false]
theorem ready_no3 {c : Ch} {l : List Pi} (h : c.at_ = (c.row.length : Int)) : readyB c l = false := by unfold readyB overB; rw [decide_eq_true h]; simp
theorem ready_yes {es : List Er} {s r : Int} {k : Nat} {x : Er} {l : List Pi} (h1 : pipesB l = true) (h2 : rightB l.length ⟨es, k, s, r⟩ = true) (h3 : ¬ (k : Int) = (es.length : Int)) (hx : es[k]? = some x) : readyB ⟨es, k, s, r⟩ l = canB x l := by
  unfold readyB overB nextB
  rw [h1, h2, decide_eq_false h3]
  simp [hx]
set_option maxHeartbeats 1600000 in
theorem ready_any (A : Option Addr) (n c : Nat) (a s r : Int) (es : List Er) (A1 : Option Addr) (n1 c1 : Nat) (ps : List Pk) (w : World) (h : RAt w (fun q => q < w.heap.size) (.slice A n c) es) (h1 : PAt w (fun q => q < w.heap.size) (.slice A1 n1 c1) ps) :
    Calls Try.prog 12 #[.agg #[.slice A n c, .int .i64 a, .int .u32 s, .int .i64 r], .slice A1 n1 c1] w (ReadyPost ⟨es, a, s, r⟩ ps w) := by
  obtain ⟨hes, hnc, hcm, hcs⟩ := h.cells
  obtain ⟨hps, -, -, -⟩ := h1.cells
  obtain ⟨gc, hgc⟩ : ∃ g, g = w.heap.size := ⟨_, rfl⟩
  obtain ⟨W0, hW0⟩ : ∃ W, W = w.alloc (.cells #[.slice A n c, .int .i64 a, .int .u32 s, .int .i64 r] 25) := ⟨_, rfl⟩
  obtain ⟨hF0, hk0, c0, c1', c2, c3⟩ := chore_box w W0 gc A n c a s r hgc hW0
  have hcalls := fun (W : World) (hW : Frm (fun _ => False) W0 W) => (And.intro (pipes_any A1 n1 c1 ps W (h1.keptTo fun q hq => ⟨(hF0.trans hW fun _ h => h.elim).block q hq id, Nat.lt_of_lt_of_le hq (hF0.trans hW fun _ h => h.elim).size⟩)) (And.intro (right_any A n c a s r (n1 : Int) es W (h.keptTo fun q hq => ⟨(hF0.trans hW fun _ h => h.elim).block q hq id, Nat.lt_of_lt_of_le hq (hF0.trans hW fun _ h => h.elim).size⟩)) (over_any A n c a s r W)))
  have hcan := fun (W : World) (hW : Frm (fun _ => False) W0 W) (d q z : Int) hq => can_any d q z A1 n1 c1 ps W (h1.keptTo fun q hq => ⟨(hF0.trans hW fun _ h => h.elim).block q hq id, Nat.lt_of_lt_of_le hq (hF0.trans hW fun _ h => h.elim).size⟩) hq
  have hlen : ((ps.map (·.p)).length : Int) = (n1 : Int) := by rw [List.length_map, hps]
  have H := Lib.hid (And.intro hes (And.intro hcs (And.intro hF0 (And.intro hcalls (And.intro hcan hlen)))))
  clear h h1 hes hcs hk0 hF0 hps hcalls hcan hlen
  go_enter Try.func12, Try.ntmps12
  go_upto_region 1 with fail
  rw [← hgc, ← hW0]
  clear hgc hW0
  go_wp2_with fail
  refine (H.out.2.2.2.1 W0 (Frm.refl _ _)).1.mono ?_
  rintro e w1 ⟨rfl, hF1⟩
  replace c0 := hF1.cell c0 id
  replace c1' := hF1.cell c1' id
  replace c2 := hF1.cell c2 id
  replace c3 := hF1.cell c3 id
  have HF1 := Lib.hid hF1
  clear hF1
  cases hP : pipesB (ps.map (·.p)) with
  | false =>
    have Hr := Lib.hid (ready_no1 (c := ⟨es, a, s, r⟩) hP)
    clear hP
    go_wp2_with fail
    go_ret
    exact ⟨by rw [Hr.out]; rfl, H.out.2.2.1.trans HF1.out fun _ h => h.elim⟩
  | true =>
    have HP := Lib.hid hP
    clear hP
    go_wp2_with fail
    refine (H.out.2.2.2.1 w1 HF1.out).2.1.mono ?_
    rintro e w2 ⟨rfl, hF2⟩
    replace c0 := hF2.cell c0 id
    replace c1' := hF2.cell c1' id
    replace c2 := hF2.cell c2 id
    replace c3 := hF2.cell c3 id
    have HF2 := Lib.hid (HF1.out.trans hF2 fun _ h => h.elim)
    clear hF2 HF1
    cases hR : rightB (n1 : Int) ⟨es, a, s, r⟩ with
    | false =>
      have Hr := Lib.hid (ready_no2 (c := ⟨es, a, s, r⟩) (l := ps.map (·.p)) (by rw [H.out.2.2.2.2.2]; exact hR))
      clear hR
      go_wp2_with fail
      go_ret
      exact ⟨by rw [Hr.out]; rfl, H.out.2.2.1.trans HF2.out fun _ h => h.elim⟩
    | true =>
      have HR := Lib.hid hR
      clear hR
      go_wp2_with fail
      refine (H.out.2.2.2.1 w2 HF2.out).2.2.mono ?_
      rintro e w3 ⟨rfl, hF3⟩
      replace c0 := hF3.cell c0 id
      replace c1' := hF3.cell c1' id
      have HF3 := Lib.hid (HF2.out.trans hF3 fun _ h => h.elim)
      clear hF3 HF2 c2 c3
      by_cases ho : a = (n : Int)
      · have Hr := Lib.hid (ready_no3 (c := ⟨es, a, s, r⟩) (l := ps.map (·.p)) (by show a = (es.length : Int); rw [ho, H.out.1]))
        rw [decide_eq_true ho]
        clear ho
        go_wp2_with fail
        go_ret
        exact ⟨by rw [Hr.out]; rfl, H.out.2.2.1.trans HF3.out fun _ h => h.elim⟩
      · rw [decide_eq_false ho]
        have ho2 : ¬ a = (es.length : Int) := by have := H.out.1; omega
        obtain ⟨k, rfl, x, hx, hm, hkx⟩ := next_of HR.out ho2
        have Hr := Lib.hid (ready_yes HP.out (by rw [H.out.2.2.2.2.2]; exact HR.out) ho2 hx)
        obtain ⟨hkx', rfl⟩ := List.getElem?_eq_some_iff.1 hx
        obtain ⟨g, o, rfl, hg, d0, d1, d2⟩ := H.out.2.1 k hkx
        have hFr := H.out.2.2.1.trans HF3.out fun _ h => h.elim
        replace d0 := hFr.cell d0 id
        replace d1 := hFr.cell d1 id
        replace d2 := hFr.cell d2 id
        have hkn : k < n := by have := H.out.1; omega
        have Hm := Lib.hid hm
        clear hx hm hFr ho ho2 hg
        generalize es[k] = y at *
        clear hkx hkx'
        obtain ⟨d, q, z⟩ := y
        dsimp only at d0 d1 d2
        go_wp2_with fail
        refine (H.out.2.2.2.2.1 w3 HF3.out d q z fun hd => may_range Hm.out (by omega)).mono ?_
        rintro e w4 ⟨rfl, hF4⟩
        have HF4 := Lib.hid hF4
        clear hF4
        go_wp2_with fail
        go_ret
        exact ⟨by rw [Hr.out]; rfl, (H.out.2.2.1.trans HF3.out fun _ h => h.elim).trans HF4.out fun _ h => h.elim⟩
end Go.Proofs.Ytbfcpapehfdphaa
