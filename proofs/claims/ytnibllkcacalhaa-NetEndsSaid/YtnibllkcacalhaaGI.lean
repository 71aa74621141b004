/- The walks of teasellaw24.sane, errands. What the laws of nets ask: plain; Great at a value. The walk of teasellaw24.errands; what the end of a net comes to: plain. The end of a net: plain; what is read of a net in a box. -/
import Derived.Test.YtnibllkcacalhaaGF
import Derived.Test.YtnibllkcacalhaaHWa
import Derived.Test.YtnibllkcacalhaaGG
namespace Go.Proofs.Ytnibllkcacalhaa
set_option maxRecDepth 100000
open Go.RowKit
theorem sane_no {cs : List Ch} {k : Nat} (h : k < cs.length) (hf : decide (cs[k].wrong ≤ cs[k].at_) = false) : (cs.all fun c => decide (c.wrong ≤ c.at_)) = false := by
  rw [List.all_eq_false]
  exact ⟨cs[k], List.getElem_mem h, by simp [hf]⟩
set_option maxHeartbeats 1600000 in
theorem sane_v (V : Value) (N : Nt) (w : World) (h : NR w V N) : Calls Try.prog 29 #[V] w (RetBool (saneB N) w) := by
  obtain ⟨A1, n1, c1, A, n, c, rfl⟩ := h.form
  obtain ⟨W, hW⟩ : ∃ W, W = w.alloc (.cells #[.slice A1 n1 c1, .slice A n c] 25) := ⟨_, rfl⟩
  obtain ⟨G, hG⟩ : ∃ G, G = w.heap.size := ⟨_, rfl⟩
  have hF : Frm (fun _ => False) w W := by rw [hW]; exact (Frm.refl _ w).alloc _
  have hb : Blk W G 25 #[.slice A1 n1 c1, .slice A n c] := by rw [hW, hG]; exact Blk.new w _ _
  obtain ⟨_, _, _, _, _, _, e, ps, cks, h1, h2, h3, h4⟩ := h
  cases e
  obtain ⟨hn, hnc, hcm, hx⟩ := h2.cells
  have hnm : n ≤ 9223372036854775807 := by omega
  have H := Lib.hid (And.intro hF (And.intro hb (And.intro hn (And.intro hx h4))))
  clear h1 h2 h3 h4 hn hx hF hb hnc hcm
  go_enter Try.func29, Try.ntmps29
  go_upto_region 1 with fail
  rw [← hG, ← hW]
  clear hG hW
  go_wp2_with fail
  go_loopw [3] (fun i wr => ∃ k : Nat, k ≤ n ∧ i = .int .i64 k ∧ Hid ((∀ j (h : j < N.cs.length), j < k → N.cs[j].wrong ≤ N.cs[j].at_) ∧ Frm (fun _ => False) W wr)) (fun i _ => n - (intOf i).toNat)
  case atStart => exact ⟨0, Nat.zero_le _, rfl, Lib.hid ⟨fun j _ h => by omega, Frm.refl _ _⟩⟩
  case round =>
    obtain ⟨k, hk, rfl, hT⟩ := hrel
    have hbw := H.out.2.1.kept hT.out.2 id
    have x1 : wr.cell? ⟨G, 1, none⟩ = some (.slice A n c) := hbw.cell 1
    clear hbw
    by_cases hlt : k < n
    · obtain ⟨hF, -, hn, hx, h4⟩ := H.out
      have hkx : k < cks.length := by omega
      obtain ⟨g, o, rfl, hg, d0, d1, d2, d3⟩ := hx k hkx
      have hFw := hF.trans hT.out.2 fun _ h => h.elim
      replace d1 := hFw.cell d1 id
      replace d3 := hFw.cell d3 id
      have hkN : k < N.cs.length := by rw [← h4, List.length_map]; exact hkx
      have hck : cks[k].c = N.cs[k] := by simp only [← h4, List.getElem_map]
      rw [hck] at d1 d3
      have hno : decide (N.cs[k].wrong ≤ N.cs[k].at_) = false → saneB N = false := fun h => sane_no hkN h
      have hyes : N.cs[k].wrong ≤ N.cs[k].at_ → ∀ j (h : j < N.cs.length), j < k + 1 → N.cs[j].wrong ≤ N.cs[j].at_ := fun hb j h hj => by
        rcases Nat.lt_or_ge j k with h1 | h1
        · exact hT.out.1 j h h1
        · obtain rfl : j = k := by omega
          exact hb
      have HS := Lib.hid (And.intro hno (And.intro hyes hT.out.2))
      clear hF hn hx h4 hg hFw hck hno hyes hT d0 d2
      generalize N.cs[k] = cc at *
      clear hkN hkx
      have hk0 : (0 : Int) ≤ (k : Int) := by omega
      by_cases hs : cc.wrong ≤ cc.at_
      · have h2 : decide (cc.at_ < cc.wrong) = false := by simp; omega
        have Hy := Lib.hid (HS.out.2.1 hs)
        clear hs
        go_wp2_with fail
        go_quiet (fail)
        go_wp2_with fail
        go_roundw
        case rel => exact ⟨k + 1, by omega, by go_num, Lib.hid ⟨Hy.out, HS.out.2.2.drewN _⟩⟩
        case measure => simp [intOf]; omega
      · have h2 : decide (cc.at_ < cc.wrong) = true := by simp; omega
        have Hn := Lib.hid (HS.out.1 (by simpa using hs))
        clear hs
        go_wp2_with fail
        go_quiet (fail)
        go_wp2_with fail
        go_ret
        exact ⟨by rw [Hn.out]; rfl, (H.out.1.trans HS.out.2.2 fun _ h => h.elim).drewN _⟩
    · obtain rfl : k = n := by omega
      have hr : saneB N = true := by
        unfold saneB
        rw [List.all_eq_true]
        intro y hy
        obtain ⟨j, hj, rfl⟩ := List.getElem_of_mem hy
        simpa using hT.out.1 j hj (by have := H.out.2.2.1; have h4 := H.out.2.2.2.2; have := congrArg List.length h4; simp at this; omega)
      have HR := Lib.hid hr
      clear hr
      go_wp2_with fail
      go_ret
      exact ⟨by rw [HR.out]; rfl, H.out.1.trans hT.out.2 fun _ h => h.elim⟩
end Go.Proofs.Ytnibllkcacalhaa
namespace Go.Proofs.Ytnibllkcacalhaa
set_option maxRecDepth 100000
open Go.RowKit
def GreatV (N : Nt) (w : World) (e : Ending) (w' : World) : Prop := ∃ g : Bool, e = .returned (.bool g) ∧ Frm (fun _ => False) w w' ∧ (g = false → SmN N ∧ leftNt N ≤ 1000000)
theorem left_le (l : List Ch) (h : ∀ c ∈ l, c.row.length ≤ 1000) : (l.map leftC).sum ≤ l.length * 1000 := by
  induction l with
  | nil => simp
  | cons y ys ih =>
    have h1 := h y (by simp)
    have h2 := ih fun c hc => h c (by simp [hc])
    simp only [List.map_cons, List.sum_cons, List.length_cons]
    have : leftC y ≤ y.row.length := by unfold leftC; omega
    omega
theorem great_v (V : Value) (N : Nt) (w : World) (h : NR w V N) : Calls Try.prog 8 #[V] w (GreatV N w) := by
  obtain ⟨A1, n1, c1, A, n, c, rfl, ps, cks, h1, h2, h3, h4⟩ := h
  obtain ⟨N1, N2⟩ := N
  dsimp only at h3 h4
  subst h3 h4
  refine (great_n A1 n1 c1 A n c ps cks w h1 h2).mono ?_
  rintro e w' ⟨g, rfl, hF, hg⟩
  refine ⟨g, rfl, hF, fun h => ?_⟩
  obtain ⟨q1, ⟨-, q2, q3⟩, q4⟩ := hg h
  have hrow : ∀ c ∈ cks.map (·.c), c.row.length ≤ 1000 := fun c hc => by
    obtain ⟨k, hk, rfl⟩ := List.mem_map.1 hc
    have := q4 k hk; omega
  refine ⟨⟨by rw [List.length_map]; omega, by rw [List.length_map]; omega, fun p hp => ?_, fun c hc => by have := hrow c hc; omega⟩, ?_⟩
  · obtain ⟨k, hk, rfl⟩ := List.mem_map.1 hp
    have := q3 k hk; omega
  · have := left_le _ hrow
    unfold leftNt
    rw [List.length_map] at this
    dsimp only
    omega
theorem sm_right {N : Nt} (h : rightNt N = true) : SmN N ∧ leftNt N ≤ 1000000 := by
  obtain ⟨q1, q2, q3, q4⟩ := right_sm h
  refine ⟨⟨by omega, by omega, fun p hp => by have := q3 p hp; omega, fun c hc => by have := q4 c hc; omega⟩, ?_⟩
  have := left_le N.cs fun c hc => by have := q4 c hc; omega
  unfold leftNt
  omega
theorem clean_right {N : Nt} (h : cleanNt N = true) : rightNt N = true := by
  unfold cleanNt at h
  simp only [Bool.and_eq_true] at h
  exact h.1
/-- What NetPicks asks. -/
theorem picks_plain {N : Nt} (xs ys : List Int) (hcl : cleanNt N = true) (hs : saneB N = true) :
    (finN (runNt N xs).1).1 = (finN N).1 ∧ (finN (runNt N ys).1).1 = (finN N).1 ∧ (runNt N xs).2 + (finN (runNt N xs).1).2 = (finN N).2 ∧ (runNt N ys).2 + (finN (runNt N ys).1).2 = (finN N).2 ∧ (finN N).2 ≤ 1000000 ∧
      rightNt N = true ∧ rightNt (runNt N xs).1 = true ∧ rightNt (runNt N ys).1 = true ∧ SmN (runNt N xs).1 ∧ SmN (runNt N ys).1 ∧ leftNt (runNt N xs).1 ≤ 1000000 ∧ leftNt (runNt N ys).1 ≤ 1000000 ∧ True := by
  have e1 := fin_run xs N hcl hs
  have e2 := fin_run ys N hcl hs
  have hr := clean_right hcl
  have r1 := (run_goes xs N hr hs).1
  have r2 := (run_goes ys N hr hs).1
  have hl := (fin_le (leftNt N) N (Nat.le_refl _)).1
  have hm := (sm_right hr).2
  refine ⟨by rw [e1], by rw [e2], by rw [e1], by rw [e2], by omega, hr, r1, r2, (sm_right r1).1, (sm_right r2).1, (sm_right r1).2, (sm_right r2).2, trivial⟩
end Go.Proofs.Ytnibllkcacalhaa
namespace Go.Proofs.Ytnibllkcacalhaa
set_option maxRecDepth 100000
open Go.RowKit
theorem right_all {N : Nt} (h : rightNt N = true) : ∀ c ∈ N.cs, c.row.length ≤ 64 ∧ 0 ≤ c.at_ ∧ c.at_ ≤ c.row.length := by
  intro c hc
  unfold rightNt at h
  simp only [Bool.and_eq_true, decide_eq_true_eq, List.all_eq_true] at h
  have h2 := h.2.2 c hc
  obtain ⟨es, a, s, r⟩ := c
  obtain ⟨q1, q2, q3, -⟩ := head_of h2
  exact ⟨q1, q2, q3⟩
theorem left_take (l : List Ch) (k : Nat) (h : k < l.length) : ((l.take (k + 1)).map leftC).sum = ((l.take k).map leftC).sum + leftC l[k] := by
  rw [List.take_succ_eq_append_getElem h, List.map_append, List.sum_append]
  rfl
theorem left_take_le (l : List Ch) (k : Nat) (h : ∀ c ∈ l, c.row.length ≤ 64) (hk : l.length ≤ 8) : ((l.take k).map leftC).sum ≤ 8000 := by
  have := left_le (l.take k) fun c hc => by have := h c (List.mem_of_mem_take hc); omega
  have h2 := List.length_take_le' k l
  omega
set_option maxHeartbeats 1600000 in
theorem errands_v (V : Value) (N : Nt) (w : World) (h : NR w V N) (hr : rightNt N = true) : Calls Try.prog 30 #[V] w (IntR (leftNt N) w) := by
  obtain ⟨A1, n1, c1, A, n, c, rfl⟩ := h.form
  have hall := right_all hr
  have h8 := (right_sm hr).2.1
  obtain ⟨W, hW⟩ : ∃ W, W = w.alloc (.cells #[.slice A1 n1 c1, .slice A n c] 25) := ⟨_, rfl⟩
  obtain ⟨G, hG⟩ : ∃ G, G = w.heap.size := ⟨_, rfl⟩
  have hF : Frm (fun _ => False) w W := by rw [hW]; exact (Frm.refl _ w).alloc _
  have hb : Blk W G 25 #[.slice A1 n1 c1, .slice A n c] := by rw [hW, hG]; exact Blk.new w _ _
  obtain ⟨_, _, _, _, _, _, e, ps, cks, h1, h2, h3, h4⟩ := h
  cases e
  obtain ⟨hn, hnc, hcm, hx⟩ := h2.cells
  have hnm : n ≤ 9223372036854775807 := by omega
  have H := Lib.hid (And.intro hF (And.intro hb (And.intro hn (And.intro hx (And.intro h4 (And.intro hall (And.intro h8 h2.2)))))))
  clear h1 h2 h3 h4 hn hx hF hb hnc hcm hall h8
  go_enter Try.func30, Try.ntmps30
  go_upto_region 1 with fail
  rw [← hG, ← hW]
  clear hG hW
  go_wp2_with fail
  go_loopw [3, 4] (fun s i wr => ∃ k m : Nat, k ≤ n ∧ m ≤ 8000 ∧ i = .int .i64 k ∧ s = .int .i64 m ∧ Hid (m = ((N.cs.take k).map leftC).sum ∧ Frm (fun _ => False) W wr)) (fun _ i _ => n - (intOf i).toNat)
  case atStart => exact ⟨0, 0, Nat.zero_le _, by omega, rfl, rfl, Lib.hid ⟨by simp, Frm.refl _ _⟩⟩
  case round =>
    obtain ⟨k, m, hk, hm, rfl, rfl, hT⟩ := hrel
    have hbw := H.out.2.1.kept hT.out.2 id
    have x1 : wr.cell? ⟨G, 1, none⟩ = some (.slice A n c) := hbw.cell 1
    clear hbw
    by_cases hlt : k < n
    · obtain ⟨hF, -, hn, hx, h4, hall, h8, hrow⟩ := H.out
      have hkx : k < cks.length := by omega
      obtain ⟨g, o, rfl, hg, d0, d1, d2, d3⟩ := hx k hkx
      have hFw := hF.trans hT.out.2 fun _ h => h.elim
      have hra := hrow cks[k] (List.getElem_mem hkx)
      obtain ⟨A5, n5, c5, e5, -⟩ := id hra
      rw [e5] at d0 hra
      replace d0 := hFw.cell d0 id
      replace d1 := hFw.cell d1 id
      have hkN : k < N.cs.length := by rw [← h4, List.length_map]; exact hkx
      have hck : cks[k].c = N.cs[k] := by simp only [← h4, List.getElem_map]
      have hl5 : n5 = N.cs[k].row.length := by rw [← hck]; exact hra.cells.1
      rw [hck] at d1
      obtain ⟨b1, b2, b3⟩ := hall N.cs[k] (List.getElem_mem hkN)
      have ht := left_take N.cs k hkN
      have htl := left_take_le N.cs (k + 1) (fun c hc => (hall c hc).1) h8
      have hlc : leftC N.cs[k] = n5 - N.cs[k].at_.toNat := by unfold leftC; rw [hl5]
      have HS := Lib.hid (And.intro ht (And.intro hT.out htl))
      clear hF hn hx h4 hall h8 hrow hg hFw hra e5 hck ht htl hT d2 d3
      generalize N.cs[k] = cc at *
      clear hkN hkx
      have hk0 : (0 : Int) ≤ (k : Int) := by omega
      rw [← hl5] at b1 b3
      clear hl5
      generalize cc.at_ = a at *
      have w1 : IntKind.i64.wrap ((m : Int) + (n5 : Int)) = (m : Int) + (n5 : Int) := IntWalk.i64_in _ (by omega)
      have w2 : IntKind.i64.wrap ((m : Int) + (n5 : Int) - a) = (m : Int) + (n5 : Int) - a := IntWalk.i64_in _ (by omega)
      have he : (m : Int) + (n5 : Int) - a = ((m + leftC cc : Nat) : Int) := by omega
      have He := Lib.hid (And.intro he hlc)
      clear he hlc
      go_wp2_with fail
      go_quiet (fail)
      have hle : m + leftC cc ≤ 8000 := by have := HS.out.2.2; rw [HS.out.1, ← HS.out.2.1.1] at this; exact this
      clear w1 w2 d0 d1 x1
      go_wp2_with fail
      go_roundw
      case rel => exact ⟨k + 1, m + leftC cc, by omega, hle, by go_num, by rw [He.out.1], Lib.hid ⟨by rw [HS.out.1, ← HS.out.2.1.1], HS.out.2.1.2.drewN _⟩⟩
      case measure => simp [intOf]; omega
    · obtain rfl : k = n := by omega
      have he : m = leftNt N := by
        have h1 := hT.out.1
        rw [List.take_of_length_le (by have := H.out.2.2.1; have h4 := H.out.2.2.2.2.1; have := congrArg List.length h4; simp at this; omega)] at h1
        exact h1
      have HE := Lib.hid he
      clear he
      go_wp2_with fail
      go_ret
      exact ⟨by rw [← HE.out]; rfl, H.out.1.trans hT.out.2 fun _ h => h.elim⟩
end Go.Proofs.Ytnibllkcacalhaa
namespace Go.Proofs.Ytnibllkcacalhaa
set_option maxRecDepth 100000
open Go.RowKit
theorem NB.chore {w : World} {g : Nat} {A1 A : Option Addr} {n1 c1 n c : Nat} {N : Nt} (h : NB w g A1 n1 c1 A n c N) (i : Nat) (ch : Ch) (hi : N.cs[i]? = some ch) : ∃ gc oc A5 c5, A = some ⟨gc, oc, none⟩ ∧
    (∀ W, Frm (fun _ => False) w W → W.cell? ⟨gc, oc + i * 4, none⟩ = some (.slice A5 ch.row.length c5) ∧ W.cell? ⟨gc, oc + i * 4 + 1, none⟩ = some (.int .i64 ch.at_) ∧ W.cell? ⟨gc, oc + i * 4 + 2, none⟩ = some (.int .u32 ch.sum) ∧ W.cell? ⟨gc, oc + i * 4 + 3, none⟩ = some (.int .i64 ch.wrong)) ∧
    ∀ (j : Nat) (x : Er), ch.row[j]? = some x → ∃ gr ro, A5 = some ⟨gr, ro, none⟩ ∧ ∀ W, Frm (fun _ => False) w W → W.cell? ⟨gr, ro + j * 3, none⟩ = some (.int .u8 x.d) ∧ W.cell? ⟨gr, ro + j * 3 + 1, none⟩ = some (.int .i64 x.q) ∧ W.cell? ⟨gr, ro + j * 3 + 2, none⟩ = some (.int .u32 x.n) := by
  obtain ⟨_, _, _, _, _, _, _, e, ps, cks, h1, h2, h3, h4⟩ := h
  cases e
  obtain ⟨-, -, -, hx⟩ := h2.cells
  rw [← h4, List.getElem?_map] at hi
  have hkx : i < cks.length := by
    rcases Nat.lt_or_ge i cks.length with h | h
    · exact h
    · rw [List.getElem?_eq_none h] at hi; cases hi
  rw [List.getElem?_eq_getElem hkx] at hi
  simp at hi
  obtain ⟨g', o, rfl, -, d0, d1, d2, d3⟩ := hx i hkx
  have hra := h2.2 cks[i] (List.getElem_mem hkx)
  obtain ⟨A5, n5, c5, e5, -⟩ := id hra
  rw [e5] at d0 hra
  rw [hi] at d1 d2 d3 hra
  obtain ⟨q1, -, -, q4⟩ := hra.cells
  subst q1
  refine ⟨g', o, A5, c5, rfl, fun W hW => ⟨hW.cell d0 id, hW.cell d1 id, hW.cell d2 id, hW.cell d3 id⟩, fun j x hj => ?_⟩
  obtain ⟨hjl, rfl⟩ := List.getElem?_eq_some_iff.1 hj
  obtain ⟨gr, ro, rfl, -, e0, e1, e2⟩ := q4 j hjl
  exact ⟨gr, ro, rfl, fun W hW => ⟨hW.cell e0 id, hW.cell e1 id, hW.cell e2 id⟩⟩
theorem NB.pipe {w : World} {g : Nat} {A1 A : Option Addr} {n1 c1 n c : Nat} {N : Nt} (h : NB w g A1 n1 c1 A n c N) (k : Nat) (p : Pi) (hk : N.ps[k]? = some p) : ∃ g' o A5 c5, A1 = some ⟨g', o, none⟩ ∧ ∀ W, Frm (fun _ => False) w W → W.cell? ⟨g', o + k * 3, none⟩ = some (.int .i64 p.room) ∧ W.cell? ⟨g', o + k * 3 + 1, none⟩ = some (.slice A5 p.ins.length c5) ∧ W.cell? ⟨g', o + k * 3 + 2, none⟩ = some (.bool p.closed) := by
  obtain ⟨_, _, _, _, _, _, _, e, ps, cks, h1, h2, h3, h4⟩ := h
  cases e
  obtain ⟨-, -, -, hx⟩ := h1.cells
  rw [← h3, List.getElem?_map] at hk
  have hkx : k < ps.length := by
    rcases Nat.lt_or_ge k ps.length with h | h
    · exact h
    · rw [List.getElem?_eq_none h] at hk; cases hk
  rw [List.getElem?_eq_getElem hkx] at hk
  simp at hk
  obtain ⟨g', o, rfl, -, d0, d1, d2⟩ := hx k hkx
  obtain ⟨A5, n5, c5, e5, hn5, -⟩ := h1.2 ps[k] (List.getElem_mem hkx)
  rw [e5] at d1
  rw [uv_length, hk] at hn5
  subst hn5
  rw [hk] at d0 d2
  exact ⟨g', o, A5, c5, rfl, fun W hW => ⟨hW.cell d0 id, hW.cell d1 id, hW.cell d2 id⟩⟩
/-- Where nobody is ready, whoever is not over waits. -/
theorem waits_at {N : Nt} (hr : rightNt N = true) (h0 : readyNt N = []) {i : Nat} {c : Ch} (hi : N.cs[i]? = some c) (hov : overB c = false) :
    ∃ (j : Nat) (x : Er) (q : Nat) (p : Pi), c.at_ = j ∧ c.row[j]? = some x ∧ x.q = q ∧ N.ps[q]? = some p ∧ p.closed = false ∧ ((x.d = 1 ∧ p.room ≤ p.ins.length) ∨ (x.d = 2 ∧ p.ins.length = 0)) := by
  have hnr : readyB c N.ps = false := by
    cases hb : readyB c N.ps with
    | false => rfl
    | true => have := ready_mk hr hi hb; rw [h0] at this; cases this
  have hcm : c ∈ N.cs := List.mem_of_getElem? hi
  have hrr := hr
  unfold rightNt at hr
  simp only [Bool.and_eq_true, decide_eq_true_eq, List.all_eq_true] at hr
  have hcr := hr.2.2 c hcm
  obtain ⟨es, a, s, r⟩ := c
  obtain ⟨q1, q2, q3, q4, q5, q6⟩ := head_of hcr
  have hne : ¬ a = (es.length : Int) := by simpa [overB] using hov
  obtain ⟨j, rfl⟩ : ∃ j : Nat, a = j := ⟨a.toNat, by omega⟩
  have hj : j < es.length := by omega
  have hx := List.getElem?_eq_getElem hj
  rw [ready_yes hr.1 hcr hne hx] at hnr
  have hm := List.all_eq_true.1 q6 es[j] (List.getElem_mem hj)
  refine ⟨j, es[j], ?_⟩
  generalize es[j] = x at *
  obtain ⟨d, q, z⟩ := x
  unfold mayB at hm
  dsimp only at hm
  by_cases h1 : d = 1
  · subst h1
    rw [if_pos rfl] at hm
    simp only [Bool.and_eq_true, decide_eq_true_eq] at hm
    obtain ⟨qq, rfl⟩ : ∃ j : Nat, q = j := ⟨q.toNat, by omega⟩
    have hql : qq < N.ps.length := by omega
    have hp := List.getElem?_eq_getElem hql
    rw [canB_12 (e := ⟨1, (qq : Nat), z⟩) (.inl rfl) (by rw [Int.toNat_natCast]; exact hp)] at hnr
    unfold canP at hnr
    simp only [if_true, Bool.or_eq_false_iff, decide_eq_false_iff_not] at hnr
    exact ⟨qq, _, rfl, hx, rfl, hp, hnr.1, .inl ⟨rfl, by omega⟩⟩
  · by_cases h2 : d = 2
    · subst h2
      rw [if_neg (by decide), if_pos (.inl rfl)] at hm
      simp only [Bool.and_eq_true, decide_eq_true_eq] at hm
      obtain ⟨qq, rfl⟩ : ∃ j : Nat, q = j := ⟨q.toNat, by omega⟩
      have hql : qq < N.ps.length := by omega
      have hp := List.getElem?_eq_getElem hql
      rw [canB_12 (e := ⟨2, (qq : Nat), z⟩) (.inr rfl) (by rw [Int.toNat_natCast]; exact hp)] at hnr
      unfold canP at hnr
      rw [if_neg (show ¬ (2 : Int) = 1 by decide)] at hnr
      simp only [Bool.or_eq_false_iff, decide_eq_false_iff_not] at hnr
      exact ⟨qq, _, rfl, hx, rfl, hp, hnr.1, .inr ⟨rfl, by omega⟩⟩
    · exfalso
      unfold canB at hnr
      rw [if_neg (by simp only; omega)] at hnr
      cases hnr
/-- What NetEnds asks. -/
theorem ends_plain {N : Nt} (xs : List Int) (hr : rightNt N = true) (hs : saneB N = true) :
    (runNt N xs).2 ≤ xs.length ∧ (runNt N xs).2 + (finN (runNt N xs).1).2 ≤ leftNt N ∧ rdAll (finN (runNt N xs).1).1 = [] ∧ readyNt (finN (runNt N xs).1).1 = [] ∧ rightNt (runNt N xs).1 = true ∧ rightNt (finN (runNt N xs).1).1 = true ∧
      (finN (runNt N xs).1).1.cs.length = N.cs.length ∧ (finN (runNt N xs).1).1.ps.length = N.ps.length ∧ SmN (runNt N xs).1 ∧ leftNt (runNt N xs).1 ≤ 1000000 ∧ leftNt N ≤ 1000000 := by
  have r1 := run_le xs N
  have r2 := run_goes xs N hr hs
  have f1 := fin_le (leftNt (runNt N xs).1) (runNt N xs).1 (Nat.le_refl _)
  have f2 := fin_goes (leftNt (runNt N xs).1) (runNt N xs).1 (Nat.le_refl _) r2.1 r2.2.1
  have s1 := sm_right r2.1
  refine ⟨r1.2, by omega, by unfold rdAll; rw [f1.2]; rfl, f1.2, r2.1, f2.1, by rw [f2.2.2.1, r2.2.2.1], by rw [f2.2.2.2, r2.2.2.2], s1.1, s1.2, (sm_right hr).2⟩
end Go.Proofs.Ytnibllkcacalhaa
