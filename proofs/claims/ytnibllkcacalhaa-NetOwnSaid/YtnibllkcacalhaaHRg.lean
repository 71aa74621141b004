/- The walk of chore.Right. -/
import Derived.Deep.DeepCutAuto
import Derived.Test.YtnibllkcacalhaaHMa
namespace Go.Proofs.Ytnibllkcacalhaa
set_option maxRecDepth 100000
open Go.RowKit
theorem head_no (es : List Er) (a s r : Int) (m : Int) (h : es.length ≤ 64 → ¬ (0 ≤ a ∧ a ≤ es.length ∧ 0 ≤ r ∧ r ≤ 64)) : rightB m ⟨es, a, s, r⟩ = false := by
  have : headB ⟨es, a, s, r⟩ = false := by
    unfold headB
    simp only [Bool.and_eq_false_iff, decide_eq_false_iff_not]
    omega
  unfold rightB
  rw [this, Bool.false_and]
theorem head_yes (es : List Er) (a s r : Int) (m : Int) (h : es.length ≤ 64 ∧ 0 ≤ a ∧ a ≤ es.length ∧ 0 ≤ r ∧ r ≤ 64) : rightB m ⟨es, a, s, r⟩ = es.all (mayB m) := by
  have : headB ⟨es, a, s, r⟩ = true := by
    unfold headB
    simp only [Bool.and_eq_true, decide_eq_true_eq]
    omega
  unfold rightB
  rw [this, Bool.true_and]
theorem all_no (es : List Er) (a s r : Int) (m : Int) (h : es.all (mayB m) = false) : rightB m ⟨es, a, s, r⟩ = false := by
  unfold rightB
  rw [h, Bool.and_false]
theorem chore_box (w W0 : World) (gc : Nat) (A : Option Addr) (n c : Nat) (a s r : Int) (hg : gc = w.heap.size) (hW : W0 = w.alloc (.cells #[.slice A n c, .int .i64 a, .int .u32 s, .int .i64 r] 46)) :
    Frm (fun _ => False) w W0 ∧ Blk W0 gc 46 #[.slice A n c, .int .i64 a, .int .u32 s, .int .i64 r] ∧ W0.cell? ⟨gc, 0, none⟩ = some (.slice A n c) ∧ W0.cell? ⟨gc, 1, none⟩ = some (.int .i64 a) ∧ W0.cell? ⟨gc, 2, none⟩ = some (.int .u32 s) ∧ W0.cell? ⟨gc, 3, none⟩ = some (.int .i64 r) := by
  subst hg hW
  have hb := Blk.new w 46 #[.slice A n c, .int .i64 a, .int .u32 s, .int .i64 r]
  exact ⟨(Frm.refl _ w).alloc _, hb, hb.cell 0, hb.cell 1, hb.cell 2, hb.cell 3⟩
theorem take_all_no {α : Type} (p : α → Bool) (l : List α) (k : Nat) (hk : k < l.length) (h : p l[k] = false) : l.all p = false := by
  rw [List.all_eq_false]
  exact ⟨_, List.getElem_mem hk, by rw [h]; simp⟩
set_option maxHeartbeats 1600000 in
theorem right_any (A : Option Addr) (n c : Nat) (a s r m : Int) (es : List Er) (w : World) (h : RAt w (fun q => q < w.heap.size) (.slice A n c) es) :
    Calls Try.prog 60 #[.agg #[.slice A n c, .int .i64 a, .int .u32 s, .int .i64 r], .int .i64 m] w fun e w' => e = .returned (.bool (rightB m ⟨es, a, s, r⟩)) ∧ Frm (fun _ => False) w w' := by
  obtain ⟨hes, hnc, hcm, hcs⟩ := h.cells
  obtain ⟨gc, hgc⟩ : ∃ g, g = w.heap.size := ⟨_, rfl⟩
  obtain ⟨W0, hW0⟩ : ∃ W, W = w.alloc (.cells #[.slice A n c, .int .i64 a, .int .u32 s, .int .i64 r] 46) := ⟨_, rfl⟩
  obtain ⟨hF0, hk0, c0, c1, -, c3⟩ := chore_box w W0 gc A n c a s r hgc hW0
  have H := Lib.hid (And.intro hes (And.intro hcs (And.intro hk0 hF0)))
  clear h hes hcs hk0 hF0
  by_cases h64 : (64 : Int) < n
  · have hr : rightB m ⟨es, a, s, r⟩ = false := head_no es a s r m fun h => by have := H.out.1; omega
    rw [hr]
    have HW := Lib.hid (And.intro hgc hW0)
    go_enter Try.func60, Try.ntmps60
    go_upto_region 1 with fail
    rw [← hgc, ← hW0]
    clear hr hgc hW0
    go_wp2_with fail
    go_ret
    exact ⟨rfl, H.out.2.2.2⟩
  · go_enter Try.func60, Try.ntmps60
    go_upto_region 1 with fail
    rw [← hgc, ← hW0]
    clear hgc hW0
    go_wp2_with fail
    go_loopw [14] (fun i wr => ∃ k : Nat, k ≤ n ∧ i = .int .i64 k ∧ Hid (Frm (fun _ => False) W0 wr ∧ (es.take k).all (mayB m) = true)) (fun i _ => n - (intOf i).toNat)
    case atStart => exact ⟨0, Nat.zero_le _, rfl, Lib.hid ⟨Frm.refl _ _, rfl⟩⟩
    case round =>
      obtain ⟨k, hk, rfl, hT⟩ := hrel
      by_cases hlt : k < n
      · obtain ⟨hes, hcs, hk0, hF0⟩ := H.out
        have hkx : k < es.length := by omega
        obtain ⟨g, o, rfl, hg, d0, d1, d2⟩ := hcs k hkx
        have hFr := hF0.trans hT.out.1 fun _ h => h.elim
        replace d0 := hFr.cell d0 id
        replace d1 := hFr.cell d1 id
        replace d2 := hFr.cell d2 id
        have hts : es.take (k + 1) = es.take k ++ [es[k]] := List.take_succ_eq_append_getElem hkx
        have hno := take_all_no (mayB m) es k hkx
        have HS := Lib.hid (And.intro hts hno)
        clear hes hcs hk0 hF0 hFr hts hg hno
        generalize es[k] = y at *
        obtain ⟨d, q, z⟩ := y
        dsimp only at d0 d1 d2
        have hFb : Frm (fun _ => False) wr (wr.alloc (.cells #[.int .u8 d, .int .i64 q, .int .u32 z] 49)) := (Frm.refl _ wr).alloc _
        go_wp2_with fail
        refine (errand_any d q z m _).mono ?_
        rintro e w2 ⟨rfl, hF2⟩
        have HF := Lib.hid (hT.out.1.trans (hFb.trans hF2 fun _ h => h.elim) fun _ h => h.elim)
        clear hF2 hFb
        cases hm : mayB m ⟨d, q, z⟩ with
        | false =>
          have Hr := Lib.hid (all_no es a s r m (HS.out.2 hm))
          clear hm
          go_wp2_with fail
          go_ret
          exact ⟨by rw [Hr.out]; rfl, H.out.2.2.2.trans HF.out fun _ h => h.elim⟩
        | true =>
          have Hm := Lib.hid hm
          clear hm
          go_wp2_with fail
          go_roundw
          case rel => exact ⟨k + 1, by omega, by go_num, Lib.hid ⟨HF.out, by rw [HS.out.1, List.all_append, hT.out.2]; simp [Hm.out]⟩⟩
          case measure => simp [intOf]; omega
      · obtain rfl : k = n := by omega
        have hFr := H.out.2.2.2.trans hT.out.1 fun _ h => h.elim
        replace c0 := hT.out.1.cell c0 id
        replace c1 := hT.out.1.cell c1 id
        replace c3 := hT.out.1.cell c3 id
        have hal : es.all (mayB m) = true := by have := hT.out.2; rwa [List.take_of_length_le (by have := H.out.1; omega)] at this
        have HF := Lib.hid (And.intro hFr hal)
        clear hFr hal hT
        by_cases h1 : 0 ≤ a
        · by_cases h2 : a ≤ (k : Int)
          · by_cases h3 : 0 ≤ r
            · by_cases h4 : r ≤ 64
              · have Hr := Lib.hid ((head_yes es a s r m ⟨by have := H.out.1; omega, h1, by have := H.out.1; omega, h3, h4⟩).trans HF.out.2)
                go_wp2_with fail
                go_ret
                exact ⟨by rw [Hr.out]; simp [*], HF.out.1⟩
              · have Hr := Lib.hid (head_no es a s r m fun _ h => h4 h.2.2.2)
                go_wp2_with fail
                go_ret
                exact ⟨by rw [Hr.out]; simp [*], HF.out.1⟩
            · have Hr := Lib.hid (head_no es a s r m fun _ h => h3 h.2.2.1)
              go_wp2_with fail
              go_ret
              exact ⟨by rw [Hr.out]; simp [*], HF.out.1⟩
          · have Hr := Lib.hid (head_no es a s r m fun _ h => h2 (by have := H.out.1; omega))
            go_wp2_with fail
            go_ret
            exact ⟨by rw [Hr.out]; simp [*], HF.out.1⟩
        · have Hr := Lib.hid (head_no es a s r m fun _ h => h1 h.1)
          go_wp2_with fail
          go_ret
          exact ⟨by rw [Hr.out]; simp [*], HF.out.1⟩
end Go.Proofs.Ytnibllkcacalhaa
