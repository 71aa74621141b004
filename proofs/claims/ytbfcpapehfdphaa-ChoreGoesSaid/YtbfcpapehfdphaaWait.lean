/- The walk of ChoreWaits. -/
import Derived.Test.YtbfcpapehfdphaaWk
import Derived.Test.YtbfcpapehfdphaaNm
namespace Go.Proofs.Ytbfcpapehfdphaa
open Go.RowKit
def TrueF (w : World) (e : Ending) (w' : World) : Prop := e = .returned (.bool true) ∧ Frm (fun _ => False) w w'
/-- What a chore that may be, and is not over, of pipes that may be, needs. -/
theorem pipe_ok {l : List Pi} (h : pipesB l = true) {p : Pi} {j : Nat} (hp : l[j]? = some p) : 1 ≤ p.room ∧ p.room ≤ 16 ∧ (p.ins.length : Int) ≤ p.room := by
  unfold pipesB at h
  simp only [Bool.and_eq_true, decide_eq_true_eq] at h
  have := List.all_eq_true.1 h.1 p (List.mem_of_getElem? hp)
  unfold pipeB at this
  simpa only [Bool.and_eq_true, decide_eq_true_eq] using this
set_option maxRecDepth 100000 in
set_option maxHeartbeats 6400000 in
theorem waits_law (A : Option Addr) (n c : Nat) (a s r : Int) (es : List Er) (A1 : Option Addr) (n1 c1 : Nat) (ps : List Pk) (w : World) (h : RAt w (fun q => q < w.heap.size) (.slice A n c) es) (h1 : PAt w (fun q => q < w.heap.size) (.slice A1 n1 c1) ps) :
    Calls Try.prog 5 #[.agg #[.slice A n c, .int .i64 a, .int .u32 s, .int .i64 r], .slice A1 n1 c1] w (TrueF w) := by
  obtain ⟨hes, -, -, hcs⟩ := h.cells
  obtain ⟨hps, -, -, hpc⟩ := h1.cells
  obtain ⟨gc, hgc⟩ : ∃ g, g = w.heap.size := ⟨_, rfl⟩
  obtain ⟨W0, hW0⟩ : ∃ W, W = w.alloc (.cells #[.slice A n c, .int .i64 a, .int .u32 s, .int .i64 r] 25) := ⟨_, rfl⟩
  obtain ⟨hF0, hk0, -, -, -, -⟩ := chore_box w W0 gc A n c a s r hgc hW0
  have hfr : ∀ W, Frm (fun _ => False) W0 W → Frm (fun _ => False) w W := fun W hW => hF0.trans hW fun _ h => h.elim
  have hR : ∀ W, Frm (fun _ => False) W0 W → RAt W (fun q => q < W.heap.size) (.slice A n c) es := fun W hW => h.keptTo fun q hq => ⟨(hfr W hW).block q hq id, Nat.lt_of_lt_of_le hq (hfr W hW).size⟩
  have hP : ∀ W, Frm (fun _ => False) W0 W → PAt W (fun q => q < W.heap.size) (.slice A1 n1 c1) ps := fun W hW => h1.keptTo fun q hq => ⟨(hfr W hW).block q hq id, Nat.lt_of_lt_of_le hq (hfr W hW).size⟩
  have hcell : ∀ W, Frm (fun _ => False) W0 W → W.cell? ⟨gc, 0, none⟩ = some (.slice A n c) ∧ W.cell? ⟨gc, 1, none⟩ = some (.int .i64 a) ∧ W.cell? ⟨gc, 2, none⟩ = some (.int .u32 s) ∧ W.cell? ⟨gc, 3, none⟩ = some (.int .i64 r) := fun W hW => by
    have hk := hk0.kept hW id
    exact ⟨hk.cell 0, hk.cell 1, hk.cell 2, hk.cell 3⟩
  have H := Lib.hid (And.intro hR (And.intro hP (And.intro hcell (And.intro hfr (And.intro (And.intro hes hcs) (And.intro (And.intro hps hpc) h1.2))))))
  clear h h1 hcs hpc hF0 hk0 hfr hR hP hcell hes hps
  go_enter Try.func5, Try.ntmps5
  go_upto_region 1 with fail
  rw [← hgc, ← hW0]
  clear hgc hW0
  obtain ⟨x0, x1, x2, x3⟩ := H.out.2.2.1 W0 (Frm.refl _ _)
  go_wp2_with fail
  refine (great_any A n c a s r A1 n1 c1 ps W0 (H.out.2.1 W0 (Frm.refl _ _))).mono ?_
  rintro e w1 ⟨g, rfl, hF1, hgr⟩
  cases g with
  | true =>
    have HF := Lib.hid hF1
    clear hF1 x0 x1 x2 x3 hgr
    go_wp2_with fail
    refine (wakes_any w1).mono ?_
    rintro e w2 ⟨rfl, hF2⟩
    have HF2 := Lib.hid (H.out.2.2.2.1 _ (HF.out.trans hF2 fun _ h => h.elim))
    clear hF2
    go_wp2_with fail
    go_ret
    exact ⟨by rfl, HF2.out⟩
  | false =>
    obtain ⟨g80, g12, g30⟩ := hgr rfl
    have HG := Lib.hid (And.intro hF1 (And.intro g80 (And.intro g12 g30)))
    clear hF1 hgr g80 g12 g30 x0 x1 x2 x3
    have hrp := rpipes_any A1 n1 c1 ps w1 (H.out.2.1 w1 HG.out.1) (by have := HG.out.2.2.1; have := H.out.2.2.2.2.2.1.1; omega)
    have HQ := Lib.hid hrp
    clear hrp
    go_wp2_with fail
    refine HQ.out.mono ?_
    rintro e w2 ⟨rfl, hF2⟩
    have HF2 := Lib.hid (HG.out.1.trans hF2 fun _ h => h.elim)
    clear hF2 HQ
    cases hB : pipesB (ps.map (·.p)) with
    | false =>
      clear hB
      go_wp2_with fail
      refine (wakes_any w2).mono ?_
      rintro e w3 ⟨rfl, hF3⟩
      have HF3 := Lib.hid (H.out.2.2.2.1 _ (HF2.out.trans hF3 fun _ h => h.elim))
      clear hF3
      go_wp2_with fail
      go_ret
      exact ⟨by rfl, HF3.out⟩
    | true =>
      have HB := Lib.hid hB
      clear hB
      obtain ⟨x0, x1, x2, x3⟩ := H.out.2.2.1 w2 HF2.out
      go_wp2_with fail
      refine (rright_any A n c a s r (n1 : Int) es w2 (H.out.1 w2 HF2.out)).mono ?_
      rintro e w3 ⟨rfl, hF3⟩
      have HF3 := Lib.hid (HF2.out.trans hF3 fun _ h => h.elim)
      clear hF3 x0 x1 x2 x3
      cases hR : rightB (n1 : Int) ⟨es, a, s, r⟩ with
      | false =>
        clear hR
        go_wp2_with fail
        refine (wakes_any w3).mono ?_
        rintro e w4 ⟨rfl, hF4⟩
        have HF4 := Lib.hid (H.out.2.2.2.1 _ (HF3.out.trans hF4 fun _ h => h.elim))
        clear hF4
        go_wp2_with fail
        go_ret
        exact ⟨by rfl, HF4.out⟩
      | true =>
        have HR := Lib.hid hR
        clear hR
        obtain ⟨x0, x1, x2, x3⟩ := H.out.2.2.1 w3 HF3.out
        go_wp2_with fail
        refine (ready_any A n c a s r es A1 n1 c1 ps w3 (H.out.1 w3 HF3.out) (H.out.2.1 w3 HF3.out)).mono ?_
        rintro e w4 ⟨rfl, hF4⟩
        have HF4 := Lib.hid (HF3.out.trans hF4 fun _ h => h.elim)
        clear hF4 x0 x1 x2 x3 HF2 HF3
        obtain ⟨x0, x1, x2, x3⟩ := H.out.2.2.1 w4 HF4.out
        by_cases ho : a = (n : Int)
        · have hb : (a == (n : Int)) = true := by simpa using ho
          rw [ready_no3 (c := ⟨es, a, s, r⟩) (l := ps.map (·.p)) (by show a = (es.length : Int); rw [ho, H.out.2.2.2.2.1.1])]
          have HO := Lib.hid (decide_eq_true ho)
          clear ho
          go_wp2_with fail
          refine (over_at true HO.out).mono ?_
          rintro e w5 ⟨rfl, hF5⟩
          have HF5 := Lib.hid (HF4.out.trans hF5 fun _ h => h.elim)
          clear hF5 x0 x1 x2 x3
          go_wp2_with fail
          refine (wakes_any w5).mono ?_
          rintro e w6 ⟨rfl, hF6⟩
          have HF6 := Lib.hid (H.out.2.2.2.1 _ (HF5.out.trans hF6 fun _ h => h.elim))
          clear hF6
          go_wp2_with fail
          go_ret
          exact ⟨by rfl, HF6.out⟩
        · have hb : (a == (n : Int)) = false := by simpa using ho
          have HO := Lib.hid (decide_eq_false ho)
          have ho2 : ¬ a = (es.length : Int) := by have := H.out.2.2.2.2.1.1; omega
          obtain ⟨k, rfl, x, hx, hm, hkx⟩ := next_of HR.out ho2
          have hry := ready_yes HB.out (by rw [List.length_map, ← H.out.2.2.2.2.2.1.1]; exact HR.out) ho2 hx
          rw [hry]
          obtain ⟨hkx', rfl⟩ := List.getElem?_eq_some_iff.1 hx
          obtain ⟨g, o, rfl, hg, d0, d1, d2⟩ := H.out.2.2.2.2.1.2 k hkx
          have hFw := H.out.2.2.2.1 _ HF4.out
          replace d0 := hFw.cell d0 id
          replace d1 := hFw.cell d1 id
          replace d2 := hFw.cell d2 id
          have hkn : k < n := by have := H.out.2.2.2.2.1.1; omega
          have HX := Lib.hid (And.intro hx hm)
          clear hx hm ho ho2 hry hg hFw
          generalize es[k] = x at *
          clear hkx hkx'
          obtain ⟨d, q, z⟩ := x
          dsimp only at d0 d1 d2
          go_upto_region 8 with fail
          have hFx : Frm (fun _ => False) w4 (w4.alloc (.cells #[.int .u8 d, .int .i64 q, .int .u32 z] 43)) := (Frm.refl _ w4).alloc _
          have hbx := Blk.new w4 43 #[.int .u8 d, .int .i64 q, .int .u32 z]
          obtain ⟨Gx, hGx⟩ : ∃ G, G = w4.heap.size := ⟨_, rfl⟩
          rw [← hGx] at hbx ⊢
          have HF5 := Lib.hid (And.intro (HF4.out.trans hFx fun _ h => h.elim) hbx)
          clear hFx hbx hGx d0 d1 d2 x0 x1 x2 x3
          generalize w4.alloc (.cells #[.int .u8 d, .int .i64 q, .int .u32 z] 43) = w5 at *
          obtain ⟨x0, x1, x2, x3⟩ := H.out.2.2.1 w5 HF5.out.1
          go_wp2_with fail
          refine (named_any (some ⟨g, o, none⟩) n c k s r es ⟨d, q, z⟩ w5 (H.out.1 w5 HF5.out.1) HX.out.1).mono ?_
          rintro e w6 ⟨rfl, hF6⟩
          have hf6 := HF5.out.1.trans hF6 fun _ h => h.elim
          have hbx6 := HF5.out.2.kept hF6 id
          have y0 : w6.cell? ⟨Gx, 0, none⟩ = some (.int .u8 d) := hbx6.cell 0
          have y1 : w6.cell? ⟨Gx, 1, none⟩ = some (.int .i64 q) := hbx6.cell 1
          clear x0 x1 x2 x3
          obtain ⟨x0, x1, x2, x3⟩ := H.out.2.2.1 w6 hf6
          have HF6 := Lib.hid hf6
          clear hf6 hbx6 hF6 HF4 HF5
          obtain ⟨hd1, hd2⟩ := may_d HX.out.2
          dsimp only at hd1 hd2
          by_cases hd : d = 1 ∨ d = 2 ∨ d = 4
          · obtain ⟨h5, h6⟩ := hd2 hd
            obtain ⟨j, rfl⟩ : ∃ j : Nat, q = j := ⟨q.toNat, by omega⟩
            have hjx : j < ps.length := by have := H.out.2.2.2.2.2.1.1; omega
            obtain ⟨gp, op, rfl, hgp, p0, p1, p2⟩ := H.out.2.2.2.2.2.1.2 j hjx
            obtain ⟨a2, n2, c2, hv, hn2, -⟩ := H.out.2.2.2.2.2.2 ps[j] (List.getElem_mem hjx)
            rw [uv_length] at hn2
            rw [hv] at p1
            have hgj : (ps.map (·.p))[j]? = some ps[j].p := by rw [List.getElem?_map, List.getElem?_eq_getElem hjx]; rfl
            have hpk := pipe_ok HB.out hgj
            have hFw := H.out.2.2.2.1 _ HF6.out
            replace p0 := hFw.cell p0 id
            replace p1 := hFw.cell p1 id
            replace p2 := hFw.cell p2 id
            have hjn : j < n1 := by omega
            have hnm : namedN ⟨d, (j : Int), z⟩ = j := by unfold namedN; rw [if_neg (by dsimp only; omega)]
            have hcan : d = 1 ∨ d = 2 → canB ⟨d, (j : Int), z⟩ (ps.map (·.p)) = canP d ps[j].p := fun h => canB_at d j z _ _ h hgj
            have hcan4 : d = 4 → canB ⟨d, (j : Int), z⟩ (ps.map (·.p)) = true := fun h => by subst h; simp [canB]
            rw [hnm]
            rw [← hn2] at hpk
            have HC : Hid (canP d ps[j].p = if d = 1 then ps[j].p.closed || decide ((n2 : Int) < ps[j].p.room) else ps[j].p.closed || decide (0 < n2)) := Lib.hid (by unfold canP; rw [hn2])
            have HD := Lib.hid (And.intro hcan hcan4)
            clear hcan hcan4 hnm hgj hv hn2 hFw hgp h5 h6 hd1 hd2
            obtain ⟨B, hBB⟩ : ∃ B, B = canB ⟨d, (j : Int), z⟩ (ps.map (·.p)) := ⟨_, rfl⟩
            rw [← hBB]
            rw [← hBB] at HD
            clear hBB
            generalize ps[j].p.room = rm at *
            generalize ps[j].p.closed = cl at *
            generalize canP d ps[j].p = CP at *
            have HK := Lib.hid hpk
            clear hpk
            rcases hd with rfl | rfl | rfl
            · rcases Bool.eq_false_or_eq_true cl with rfl | rfl
              · have hB2 : B = true := by rw [HD.out.1 (.inl rfl), HC.out]; simp
                subst hB2
                go_wp2_with fail
                refine (over_at false HO.out).mono ?_
                rintro e w7 ⟨rfl, hF7⟩
                have HF7 := Lib.hid (HF6.out.trans hF7 fun _ h => h.elim)
                clear hF7 x0 x1 x2 x3
                go_wp2_with fail
                refine (wakes_any w7).mono ?_
                rintro e w8 ⟨rfl, hF8⟩
                have HF8 := Lib.hid (H.out.2.2.2.1 _ (HF7.out.trans hF8 fun _ h => h.elim))
                clear hF8
                go_wp2_with fail
                go_ret
                exact ⟨by rfl, HF8.out⟩
              · by_cases hlt : (n2 : Int) < rm
                · have hB2 : B = true := by rw [HD.out.1 (.inl rfl), HC.out]; simp [hlt]
                  have hne : ((n2 : Int) == rm) = false := by simp; omega
                  subst hB2
                  go_wp2_with fail
                  refine (over_at false HO.out).mono ?_
                  rintro e w7 ⟨rfl, hF7⟩
                  have HF7 := Lib.hid (HF6.out.trans hF7 fun _ h => h.elim)
                  clear hF7 x0 x1 x2 x3
                  go_wp2_with fail
                  refine (wakes_any w7).mono ?_
                  rintro e w8 ⟨rfl, hF8⟩
                  have HF8 := Lib.hid (H.out.2.2.2.1 _ (HF7.out.trans hF8 fun _ h => h.elim))
                  clear hF8
                  go_wp2_with fail
                  go_ret
                  exact ⟨by rfl, HF8.out⟩
                · have hB2 : B = false := by rw [HD.out.1 (.inl rfl), HC.out]; simp; omega
                  have hne : ((n2 : Int) == rm) = true := by simp; have := HK.out; omega
                  subst hB2
                  go_wp2_with fail
                  refine (over_at false HO.out).mono ?_
                  rintro e w7 ⟨rfl, hF7⟩
                  have HF7 := Lib.hid (HF6.out.trans hF7 fun _ h => h.elim)
                  clear hF7 x0 x1 x2 x3
                  go_wp2_with fail
                  refine (wakes_any w7).mono ?_
                  rintro e w8 ⟨rfl, hF8⟩
                  have HF8 := Lib.hid (H.out.2.2.2.1 _ (HF7.out.trans hF8 fun _ h => h.elim))
                  clear hF8
                  go_wp2_with fail
                  go_ret
                  exact ⟨by rfl, HF8.out⟩
            · rcases Bool.eq_false_or_eq_true cl with rfl | rfl
              · have hB2 : B = true := by rw [HD.out.1 (.inr rfl), HC.out]; simp
                subst hB2
                go_wp2_with fail
                refine (over_at false HO.out).mono ?_
                rintro e w7 ⟨rfl, hF7⟩
                have HF7 := Lib.hid (HF6.out.trans hF7 fun _ h => h.elim)
                clear hF7 x0 x1 x2 x3
                go_wp2_with fail
                refine (wakes_any w7).mono ?_
                rintro e w8 ⟨rfl, hF8⟩
                have HF8 := Lib.hid (H.out.2.2.2.1 _ (HF7.out.trans hF8 fun _ h => h.elim))
                clear hF8
                go_wp2_with fail
                go_ret
                exact ⟨by rfl, HF8.out⟩
              · rcases Nat.eq_zero_or_pos n2 with rfl | hpos
                · have hB2 : B = false := by rw [HD.out.1 (.inr rfl), HC.out]; simp
                  subst hB2
                  go_wp2_with fail
                  refine (over_at false HO.out).mono ?_
                  rintro e w7 ⟨rfl, hF7⟩
                  have HF7 := Lib.hid (HF6.out.trans hF7 fun _ h => h.elim)
                  clear hF7 x0 x1 x2 x3
                  go_wp2_with fail
                  refine (wakes_any w7).mono ?_
                  rintro e w8 ⟨rfl, hF8⟩
                  have HF8 := Lib.hid (H.out.2.2.2.1 _ (HF7.out.trans hF8 fun _ h => h.elim))
                  clear hF8
                  go_wp2_with fail
                  go_ret
                  exact ⟨by rfl, HF8.out⟩
                · have hB2 : B = true := by rw [HD.out.1 (.inr rfl), HC.out]; simp; omega
                  have hne : ((n2 : Int) == 0) = false := by simp; omega
                  subst hB2
                  go_wp2_with fail
                  refine (over_at false HO.out).mono ?_
                  rintro e w7 ⟨rfl, hF7⟩
                  have HF7 := Lib.hid (HF6.out.trans hF7 fun _ h => h.elim)
                  clear hF7 x0 x1 x2 x3
                  go_wp2_with fail
                  refine (wakes_any w7).mono ?_
                  rintro e w8 ⟨rfl, hF8⟩
                  have HF8 := Lib.hid (H.out.2.2.2.1 _ (HF7.out.trans hF8 fun _ h => h.elim))
                  clear hF8
                  go_wp2_with fail
                  go_ret
                  exact ⟨by rfl, HF8.out⟩
            · have hB2 : B = true := HD.out.2 rfl
              subst hB2
              rcases Bool.eq_false_or_eq_true cl with rfl | rfl
              all_goals
                go_wp2_with fail
                refine (over_at false HO.out).mono ?_
                rintro e w7 ⟨rfl, hF7⟩
                have HF7 := Lib.hid (HF6.out.trans hF7 fun _ h => h.elim)
                clear hF7 x0 x1 x2 x3
                go_wp2_with fail
                refine (wakes_any w7).mono ?_
                rintro e w8 ⟨rfl, hF8⟩
                have HF8 := Lib.hid (H.out.2.2.2.1 _ (HF7.out.trans hF8 fun _ h => h.elim))
                clear hF8
                go_wp2_with fail
                go_ret
                exact ⟨by rfl, HF8.out⟩
          · have hnm : namedN ⟨d, q, z⟩ = -1 := by unfold namedN; rw [if_pos (by dsimp only; omega)]
            have hB2 : canB ⟨d, q, z⟩ (ps.map (·.p)) = true := by unfold canB; rw [if_neg (by dsimp only; omega)]
            rw [hnm, hB2]
            clear hnm hB2 hd1 hd2
            go_wp2_with fail
            refine (over_at false HO.out).mono ?_
            rintro e w7 ⟨rfl, hF7⟩
            have HF7 := Lib.hid (HF6.out.trans hF7 fun _ h => h.elim)
            clear hF7 x0 x1 x2 x3
            go_wp2_with fail
            refine (wakes_any w7).mono ?_
            rintro e w8 ⟨rfl, hF8⟩
            have HF8 := Lib.hid (H.out.2.2.2.1 _ (HF7.out.trans hF8 fun _ h => h.elim))
            clear hF8
            go_wp2_with fail
            go_ret
            exact ⟨by rfl, HF8.out⟩
end Go.Proofs.Ytbfcpapehfdphaa
