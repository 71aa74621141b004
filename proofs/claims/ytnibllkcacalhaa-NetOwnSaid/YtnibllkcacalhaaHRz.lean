/- The walk of teaselref23.Ready. -/
import Derived.Test.YtnibllkcacalhaaGC
import Derived.Test.YtnibllkcacalhaaGA
namespace Go.Proofs.Ytnibllkcacalhaa
set_option maxRecDepth 100000
open Go.RowKit
set_option maxHeartbeats 1600000 in
theorem rready_any (A : Option Addr) (n c : Nat) (a s r : Int) (es : List Er) (A1 : Option Addr) (n1 c1 : Nat) (ps : List Pk) (w : World) (h : RAt w (fun q => q < w.heap.size) (.slice A n c) es) (h1 : PAt w (fun q => q < w.heap.size) (.slice A1 n1 c1) ps) (hn1 : n1 ≤ 1000000) :
    Calls Try.prog 45 #[.agg #[.slice A n c, .int .i64 a, .int .u32 s, .int .i64 r], .slice A1 n1 c1] w (ReadyPost ⟨es, a, s, r⟩ ps w) := by
  obtain ⟨hes, hnc, hcm, hcs⟩ := h.cells
  obtain ⟨hps, -, -, -⟩ := h1.cells
  obtain ⟨gc, hgc⟩ : ∃ g, g = w.heap.size := ⟨_, rfl⟩
  obtain ⟨W0, hW0⟩ : ∃ W, W = w.alloc (.cells #[.slice A n c, .int .i64 a, .int .u32 s, .int .i64 r] 46) := ⟨_, rfl⟩
  obtain ⟨hF0, hk0, c0, c1', c2, c3⟩ := chore_box w W0 gc A n c a s r hgc hW0
  have hcalls := fun (W : World) (hW : Frm (fun _ => False) W0 W) => (And.intro (rpipes_any A1 n1 c1 ps W (h1.keptTo fun q hq => ⟨(hF0.trans hW fun _ h => h.elim).block q hq id, Nat.lt_of_lt_of_le hq (hF0.trans hW fun _ h => h.elim).size⟩) hn1) (And.intro (rright_any A n c a s r (n1 : Int) es W (h.keptTo fun q hq => ⟨(hF0.trans hW fun _ h => h.elim).block q hq id, Nat.lt_of_lt_of_le hq (hF0.trans hW fun _ h => h.elim).size⟩)) (rover_any A n c a s r W)))
  have hps2 := h1.cells
  have hlen : ((ps.map (·.p)).length : Int) = (n1 : Int) := by rw [List.length_map, hps]
  have H := Lib.hid (And.intro hes (And.intro hcs (And.intro hF0 (And.intro hcalls (And.intro (And.intro hps2 h1.2) hlen)))))
  clear h h1 hes hcs hk0 hF0 hps hcalls hps2 hlen
  go_enter Try.func45, Try.ntmps45
  go_upto_region 1 with fail
  rw [← hgc, ← hW0]
  clear hgc hW0
  go_wp2_with fail
  refine (H.out.2.2.2.1 W0 (Frm.refl _ _)).1.mono ?_
  rintro e w1 ⟨rfl, hF1⟩
  replace c0 := hF1.cell c0 id
  replace c1' := hF1.cell c1' id
  replace c2 := hF1.cell c2 id
  replace c3 := hF1.cell c3 id
  have HF1 := Lib.hid hF1
  clear hF1
  cases hP : pipesB (ps.map (·.p)) with
  | false =>
    have Hr := Lib.hid (ready_no1 (c := ⟨es, a, s, r⟩) hP)
    clear hP
    go_wp2_with fail
    go_ret
    exact ⟨by rw [Hr.out]; rfl, H.out.2.2.1.trans HF1.out fun _ h => h.elim⟩
  | true =>
    have HP := Lib.hid hP
    clear hP
    go_wp2_with fail
    refine (H.out.2.2.2.1 w1 HF1.out).2.1.mono ?_
    rintro e w2 ⟨rfl, hF2⟩
    replace c0 := hF2.cell c0 id
    replace c1' := hF2.cell c1' id
    replace c2 := hF2.cell c2 id
    replace c3 := hF2.cell c3 id
    have HF2 := Lib.hid (HF1.out.trans hF2 fun _ h => h.elim)
    clear hF2 HF1
    cases hR : rightB (n1 : Int) ⟨es, a, s, r⟩ with
    | false =>
      have Hr := Lib.hid (ready_no2 (c := ⟨es, a, s, r⟩) (l := ps.map (·.p)) (by rw [H.out.2.2.2.2.2]; exact hR))
      clear hR
      go_wp2_with fail
      go_ret
      exact ⟨by rw [Hr.out]; rfl, H.out.2.2.1.trans HF2.out fun _ h => h.elim⟩
    | true =>
      have HR := Lib.hid hR
      clear hR
      go_wp2_with fail
      refine (H.out.2.2.2.1 w2 HF2.out).2.2.mono ?_
      rintro e w3 ⟨rfl, hF3⟩
      replace c0 := hF3.cell c0 id
      replace c1' := hF3.cell c1' id
      have HF3 := Lib.hid (HF2.out.trans hF3 fun _ h => h.elim)
      clear hF3 HF2 c2 c3
      by_cases ho : a = (n : Int)
      · have Hr := Lib.hid (ready_no3 (c := ⟨es, a, s, r⟩) (l := ps.map (·.p)) (by show a = (es.length : Int); rw [ho, H.out.1]))
        rw [decide_eq_true ho]
        clear ho
        go_wp2_with fail
        go_ret
        exact ⟨by rw [Hr.out]; rfl, H.out.2.2.1.trans HF3.out fun _ h => h.elim⟩
      · rw [decide_eq_false ho]
        have ho2 : ¬ a = (es.length : Int) := by have := H.out.1; omega
        obtain ⟨k, rfl, x, hx, hm, hkx⟩ := next_of HR.out ho2
        have Hr := Lib.hid (ready_yes HP.out (by rw [H.out.2.2.2.2.2]; exact HR.out) ho2 hx)
        obtain ⟨hkx', rfl⟩ := List.getElem?_eq_some_iff.1 hx
        obtain ⟨g, o, rfl, hg, d0, d1, d2⟩ := H.out.2.1 k hkx
        have hFr := H.out.2.2.1.trans HF3.out fun _ h => h.elim
        replace d0 := hFr.cell d0 id
        replace d1 := hFr.cell d1 id
        replace d2 := hFr.cell d2 id
        have hkn : k < n := by have := H.out.1; omega
        have Hm := Lib.hid hm
        have hFr' := hFr
        clear hx hm hFr ho ho2 hg
        generalize es[k] = y at *
        clear hkx hkx'
        obtain ⟨d, q, z⟩ := y
        dsimp only at d0 d1 d2
        go_upto_region 4 with fail
        have hFb : Frm (fun _ => False) w3 (w3.alloc (.cells #[.int .u8 d, .int .i64 q, .int .u32 z] 49)) := (Frm.refl _ w3).alloc _
        have hbx := Blk.new w3 49 #[.int .u8 d, .int .i64 q, .int .u32 z]
        obtain ⟨gx, hgx⟩ : ∃ g, g = w3.heap.size := ⟨_, rfl⟩
        rw [← hgx] at hbx ⊢
        have HW := Lib.hid (hFr'.trans hFb fun _ h => h.elim)
        generalize w3.alloc (.cells #[.int .u8 d, .int .i64 q, .int .u32 z] 49) = w4 at *
        have b0 : w4.cell? ⟨gx, 0, none⟩ = some (.int .u8 d) := hbx.cell 0
        have b1 : w4.cell? ⟨gx, 1, none⟩ = some (.int .i64 q) := hbx.cell 1
        clear hFr' hFb hbx hgx d0 d1 d2 c0 c1'
        by_cases hd : d = 1 ∨ d = 2
        · obtain ⟨h5, h6⟩ := may_range Hm.out (by omega : d = 1 ∨ d = 2 ∨ d = 4)
          obtain ⟨j, rfl⟩ : ∃ j : Nat, q = j := ⟨q.toNat, by omega⟩
          obtain ⟨⟨hps, -, -, hpc⟩, hpi⟩ := H.out.2.2.2.2.1
          have hjx : j < ps.length := by omega
          obtain ⟨gp, op, rfl, hgp, p0, p1, p2⟩ := hpc j hjx
          obtain ⟨a2, n2, c2, hv, hn2, -⟩ := hpi ps[j] (List.getElem_mem hjx)
          rw [uv_length] at hn2
          rw [hv] at p1
          replace p0 := HW.out.cell p0 id
          replace p1 := HW.out.cell p1 id
          replace p2 := HW.out.cell p2 id
          have hB : canB ⟨d, j, z⟩ (ps.map (·.p)) = canP d ps[j].p := canB_at d j z (ps.map (·.p)) ps[j].p hd (by rw [List.getElem?_map, List.getElem?_eq_getElem hjx]; rfl)
          have Hc : Hid (canB ⟨d, j, z⟩ (ps.map (·.p)) = if d = 1 then ps[j].p.closed || decide ((n2 : Int) < ps[j].p.room) else ps[j].p.closed || decide (0 < n2)) := Lib.hid (by rw [hB]; unfold canP; rw [hn2])
          have hjn : j < n1 := by omega
          clear hps hpc hpi hv hn2 hB hgp h5 h6
          generalize ps[j].p.room = rm at *
          generalize ps[j].p.closed = cl at *
          clear hjx
          have hrm : decide ((n2 : Int) < rm) = true ∨ decide ((n2 : Int) < rm) = false := by by_cases h : (n2 : Int) < rm <;> simp [h]
          have HQ := HW
          rcases hd with rfl | rfl
          · cases cl <;> rcases hrm with hrm | hrm
            all_goals
              go_wp2_with fail
              go_quiet (fail)
              go_wp2_with fail
              go_ret
              exact ⟨by rw [Hr.out, Hc.out]; simp [hrm], HQ.out.trans ((Frm.refl (fun _ => False) _).drewN _) fun _ h => h.elim⟩
          · rcases Nat.eq_zero_or_pos n2 with rfl | hn2
            · cases cl
              all_goals
                go_wp2_with fail
                go_ret
                exact ⟨by rw [Hr.out, Hc.out]; simp, HQ.out⟩
            · have g1 : decide ((0 : Int) < n2) = true := by simp; omega
              have g2 : decide (0 < n2) = true := by simp; omega
              cases cl
              all_goals
                go_wp2_with fail
                go_ret
                exact ⟨by rw [Hr.out, Hc.out]; simp [g2], HQ.out⟩
        · have f1 : (d == 1) = false := by simp; omega
          have f2 : (d == 2) = false := by simp; omega
          have hB : canB ⟨d, q, z⟩ (ps.map (·.p)) = true := by unfold canB; rw [if_neg hd]
          have Hc := Lib.hid hB
          clear hB hd
          go_wp2_with fail
          go_ret
          exact ⟨by rw [Hr.out, Hc.out]; rfl, HW.out⟩
end Go.Proofs.Ytnibllkcacalhaa
