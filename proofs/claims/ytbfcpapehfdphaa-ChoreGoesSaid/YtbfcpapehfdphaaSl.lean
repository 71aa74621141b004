/- The walks of chore.Alike and of teaselref23.Alike. -/
import Derived.Test.YtbfcpapehfdphaaSd
namespace Go.Proofs.Ytbfcpapehfdphaa
open Go.RowKit
def AlikePost (xs ys : List Pk) (w : World) (e : Ending) (w' : World) : Prop := e = .returned (.bool (decide (xs.map (·.p) = ys.map (·.p)))) ∧ Frm (fun _ => False) w w'
theorem map_take1 (l : List Pk) (k : Nat) (h : k < l.length) : (l.map (·.p)).take (k + 1) = (l.map (·.p)).take k ++ [l[k].p] := by
  rw [List.take_succ_eq_append_getElem (by simpa using h)]; simp
set_option maxHeartbeats 1600000 in
theorem eqfun_any (K : Nat → Prop) (A : Option Addr) (n c : Nat) (A' : Option Addr) (n' c' : Nat) (xs ys : List Pk) (w : World) (h : PAt w K (.slice A n c) xs) (h' : PAt w K (.slice A' n' c') ys) (hK : ∀ q, K q → q < w.heap.size) :
    Calls Try.prog 33 #[.slice A n c, .slice A' n' c', .func (.func 34) #[] #[]] w (AlikePost xs ys w) := by
  obtain ⟨hn, hnc, hcm, hx⟩ := h.cells
  obtain ⟨hn', hnc', hcm', hx'⟩ := h'.cells
  have H := Lib.hid (And.intro hn (And.intro hn' (And.intro (And.intro hx h.2) (And.intro (And.intro hx' h'.2) hK))))
  clear h h' hn hn' hx hx' hK
  by_cases hnn : n = n'
  · subst hnn
    have g4 : ((n : Int) != (n : Int)) = false := by simp
    go_enter Try.func33, Try.ntmps33
    go_wp2_with fail
    go_loopw [17] (fun i wr => ∃ k : Nat, k ≤ n ∧ i = .int .i64 k ∧ Hid ((xs.map (·.p)).take k = (ys.map (·.p)).take k ∧ Frm (fun _ => False) w wr)) (fun i _ => n - (intOf i).toNat)
    case atStart => exact ⟨0, Nat.zero_le _, rfl, Lib.hid ⟨rfl, Frm.refl _ _⟩⟩
    case round =>
      obtain ⟨k, hk, rfl, hT⟩ := hrel
      by_cases hlt : k < n
      · obtain ⟨hn, hn', ⟨hx, hs⟩, ⟨hx', hs'⟩, hK⟩ := H.out
        have hkx : k < xs.length := by omega
        have hky : k < ys.length := by omega
        have hF := hT.out.2
        obtain ⟨g1, o1, rfl, hg1, a0, a1, a2⟩ := hx k hkx
        obtain ⟨g2, o2, rfl, hg2, b0, b1, b2⟩ := hx' k hky
        have sa := hs xs[k] (List.getElem_mem hkx)
        have sb := hs' ys[k] (List.getElem_mem hky)
        have h1 := map_take1 xs k hkx
        have h2 := map_take1 ys k hky
        obtain ⟨x, hxk⟩ : ∃ x, x = xs[k] := ⟨_, rfl⟩
        obtain ⟨y, hyk⟩ : ∃ y, y = ys[k] := ⟨_, rfl⟩
        rw [← hxk] at a0 a1 a2 sa h1
        rw [← hyk] at b0 b1 b2 sb h2
        obtain ⟨vx, r1, l1, q1⟩ := x
        obtain ⟨vy, r2, l2, q2⟩ := y
        obtain ⟨A5, n5, c5, e5, -⟩ := id sa
        obtain ⟨A6, n6, c6, e6, -⟩ := id sb
        dsimp only at *
        subst e5 e6
        replace a0 := hF.cell a0 id
        replace a1 := hF.cell a1 id
        replace a2 := hF.cell a2 id
        have hF1 := (Frm.refl (fun _ => False) wr).alloc (.cells #[.int .i64 r1, .slice A5 n5 c5, .bool q1] 46)
        replace b0 := hF1.cell (hF.cell b0 id) id
        replace b1 := hF1.cell (hF.cell b1 id) id
        replace b2 := hF1.cell (hF.cell b2 id) id
        have hF2 := hF.trans (hF1.alloc (.cells #[.int .i64 r2, .slice A6 n6 c6, .bool q2] 46)) fun _ h => h.elim
        have hsame := psame_any K A5 n5 c5 r1 q1 l1 A6 n6 c6 r2 q2 l2 _ (sa.kept fun q hq => hF2.block q (hK q hq) id) (sb.kept fun q hq => hF2.block q (hK q hq) id) (fun q hq => Nat.lt_of_lt_of_le (hK q hq) hF2.size)
        have hk0 : 0 ≤ (k : Int) := by omega
        have H2 := Lib.hid (And.intro h1 (And.intro h2 hF2))
        have HS := Lib.hid hsame
        obtain ⟨r, hr⟩ : ∃ r : Bool, r = decide ((⟨r1, l1, q1⟩ : Pi) = ⟨r2, l2, q2⟩) := ⟨_, rfl⟩
        unfold PiSame at HS
        rw [← hr] at HS
        have HR := Lib.hid hr
        clear hsame h1 h2 hxk hyk hr sa sb hkx hky hx hx' hn hn' hs hs' hK hg1 hg2 hF hF1 hF2
        go_wp2_with fail
        refine HS.out.mono ?_
        rintro e w7 ⟨rfl, hF7⟩
        have HF7 := Lib.hid (H2.out.2.2.trans hF7 fun _ h => h.elim)
        clear hF7 a0 a1 a2 b0 b1 b2
        cases r with
        | true =>
          go_wp2_with fail
          go_roundw
          case rel => exact ⟨k + 1, by omega, by go_num, Lib.hid ⟨by rw [H2.out.1, H2.out.2.1, hT.out.1, of_decide_eq_true HR.out.symm], HF7.out⟩⟩
          case measure => simp [intOf]; omega
        | false =>
          go_wp2_with fail
          go_ret
          refine ⟨ret_b (Eq.symm ?_), HF7.out⟩
          rw [decide_eq_false_iff_not]
          intro he
          have h3 := H2.out.1.symm.trans ((congrArg (List.take (k + 1)) he).trans H2.out.2.1)
          have h4 := List.append_inj_right' h3 rfl
          exact of_decide_eq_false HR.out.symm (by simpa using h4)
      · obtain rfl : k = n := by omega
        go_wp2_with fail
        go_ret
        refine ⟨ret_b (Eq.symm ?_), hT.out.2⟩
        rw [decide_eq_true_iff]
        have h1 := hT.out.1
        obtain ⟨hm, hm', -⟩ := H.out
        rwa [List.take_of_length_le (by simp; omega), List.take_of_length_le (by simp; omega)] at h1
  · have hne : ((n : Int) != (n' : Int)) = true := by simp; omega
    have hno : Hid (decide (xs.map (·.p) = ys.map (·.p)) = false) := Lib.hid (by
      rw [decide_eq_false_iff_not]
      intro he
      have := congrArg List.length he
      obtain ⟨hm, hm', -⟩ := H.out
      simp at this
      omega)
    clear hnn
    go_enter Try.func33, Try.ntmps33
    go_wp2_with fail
    go_ret
    exact ⟨ret_b hno.out.symm, Frm.refl _ _⟩
theorem calike_any (K : Nat → Prop) (A : Option Addr) (n c : Nat) (A' : Option Addr) (n' c' : Nat) (xs ys : List Pk) (w : World) (h : PAt w K (.slice A n c) xs) (h' : PAt w K (.slice A' n' c') ys) (hK : ∀ q, K q → q < w.heap.size) :
    Calls Try.prog 21 #[.slice A n c, .slice A' n' c'] w (AlikePost xs ys w) := by
  have he := eqfun_any K A n c A' n' c' xs ys w h h' hK
  unfold AlikePost at he
  obtain ⟨b, hr⟩ : ∃ b, b = decide (xs.map (·.p) = ys.map (·.p)) := ⟨_, rfl⟩
  rw [← hr] at he
  have HE := Lib.hid he
  clear h h' hK he
  go_enter Try.func21, Try.ntmps21
  go_wp2_with fail
  refine HE.out.mono ?_
  rintro e w7 ⟨rfl, hF7⟩
  have HF := Lib.hid (And.intro hF7 hr)
  clear hF7 hr
  go_wp2_with fail
  go_ret
  exact ⟨ret_b HF.out.2, HF.out.1⟩
set_option maxHeartbeats 1600000 in
theorem ralike_any (K : Nat → Prop) (A : Option Addr) (n c : Nat) (A' : Option Addr) (n' c' : Nat) (xs ys : List Pk) (w : World) (h : PAt w K (.slice A n c) xs) (h' : PAt w K (.slice A' n' c') ys) (hK : ∀ q, K q → q < w.heap.size) :
    Calls Try.prog 11 #[.slice A n c, .slice A' n' c'] w (AlikePost xs ys w) := by
  obtain ⟨hn, hnc, hcm, hx⟩ := h.cells
  obtain ⟨hn', hnc', hcm', hx'⟩ := h'.cells
  have H := Lib.hid (And.intro hn (And.intro hn' (And.intro (And.intro hx h.2) (And.intro (And.intro hx' h'.2) hK))))
  clear h h' hn hn' hx hx' hK
  by_cases hnn : n = n'
  · subst hnn
    have g4 : ((n : Int) != (n : Int)) = false := by simp
    go_enter Try.func11, Try.ntmps11
    go_wp2_with fail
    go_loopw [5] (fun i wr => ∃ k : Nat, k ≤ n ∧ i = .int .i64 k ∧ Hid ((xs.map (·.p)).take k = (ys.map (·.p)).take k ∧ Frm (fun _ => False) w wr)) (fun i _ => n - (intOf i).toNat)
    case atStart => exact ⟨0, Nat.zero_le _, rfl, Lib.hid ⟨rfl, Frm.refl _ _⟩⟩
    case round =>
      obtain ⟨k, hk, rfl, hT⟩ := hrel
      by_cases hlt : k < n
      · obtain ⟨hn, hn', ⟨hx, hs⟩, ⟨hx', hs'⟩, hK⟩ := H.out
        have hkx : k < xs.length := by omega
        have hky : k < ys.length := by omega
        have hF := hT.out.2
        obtain ⟨g1, o1, rfl, hg1, a0, a1, a2⟩ := hx k hkx
        obtain ⟨g2, o2, rfl, hg2, b0, b1, b2⟩ := hx' k hky
        have sa := hs xs[k] (List.getElem_mem hkx)
        have sb := hs' ys[k] (List.getElem_mem hky)
        have h1 := map_take1 xs k hkx
        have h2 := map_take1 ys k hky
        obtain ⟨x, hxk⟩ : ∃ x, x = xs[k] := ⟨_, rfl⟩
        obtain ⟨y, hyk⟩ : ∃ y, y = ys[k] := ⟨_, rfl⟩
        rw [← hxk] at a0 a1 a2 sa h1
        rw [← hyk] at b0 b1 b2 sb h2
        obtain ⟨vx, r1, l1, q1⟩ := x
        obtain ⟨vy, r2, l2, q2⟩ := y
        obtain ⟨A5, n5, c5, e5, -⟩ := id sa
        obtain ⟨A6, n6, c6, e6, -⟩ := id sb
        dsimp only at *
        subst e5 e6
        replace a0 := hF.cell a0 id
        replace a1 := hF.cell a1 id
        replace a2 := hF.cell a2 id
        replace b0 := hF.cell b0 id
        replace b1 := hF.cell b1 id
        replace b2 := hF.cell b2 id
        have hsame := one_any K A5 n5 c5 r1 q1 l1 A6 n6 c6 r2 q2 l2 wr.drew (sa.kept fun q hq => hF.block q (hK q hq) id) (sb.kept fun q hq => hF.block q (hK q hq) id) (fun q hq => Nat.lt_of_lt_of_le (hK q hq) hF.size)
        have hk0 : 0 ≤ (k : Int) := by omega
        have H2 := Lib.hid (And.intro h1 (And.intro h2 hF))
        have HS := Lib.hid hsame
        obtain ⟨r, hr⟩ : ∃ r : Bool, r = decide ((⟨r1, l1, q1⟩ : Pi) = ⟨r2, l2, q2⟩) := ⟨_, rfl⟩
        unfold PiSame at HS
        rw [← hr] at HS
        have HR := Lib.hid hr
        clear hsame h1 h2 hxk hyk hr sa sb hkx hky hx hx' hn hn' hs hs' hK hg1 hg2 hF
        go_upto_region 6 with fail
        go_region_held3 (fun w' => w'.cell? ⟨g1, o1 + k * 3, none⟩ = some (.int .i64 r1) ∧ w'.cell? ⟨g1, o1 + k * 3 + 1, none⟩ = some (.slice A5 n5 c5) ∧ w'.cell? ⟨g1, o1 + k * 3 + 2, none⟩ = some (.bool q1) ∧
            w'.cell? ⟨g2, o2 + k * 3, none⟩ = some (.int .i64 r2) ∧ w'.cell? ⟨g2, o2 + k * 3 + 1, none⟩ = some (.slice A6 n6 c6) ∧ w'.cell? ⟨g2, o2 + k * 3 + 2, none⟩ = some (.bool q2))
          (first | exact ⟨a0, a1, a2, b0, b1, b2⟩ | exact ⟨d0, d1, d2, d3, d4, d5⟩)
          ((go_at_call 27; refine HS.out.mono ?_; rintro e w7 ⟨rfl, hF7⟩; have d0 := hF7.cell a0 id; have d1 := hF7.cell a1 id; have d2 := hF7.cell a2 id; have d3 := hF7.cell b0 id; have d4 := hF7.cell b1 id; have d5 := hF7.cell b2 id))
        have HF7 := Lib.hid ((H2.out.2.2.drew).trans hF7 fun _ h => h.elim)
        clear hF7 a0 a1 a2 b0 b1 b2 d0 d1 d2 d3 d4 d5
        cases r with
        | true =>
          go_wp2_with fail
          go_roundw
          case rel => exact ⟨k + 1, by omega, by go_num, Lib.hid ⟨by rw [H2.out.1, H2.out.2.1, hT.out.1, of_decide_eq_true HR.out.symm], HF7.out⟩⟩
          case measure => simp [intOf]; omega
        | false =>
          go_wp2_with fail
          go_ret
          refine ⟨ret_b (Eq.symm ?_), HF7.out⟩
          rw [decide_eq_false_iff_not]
          intro he
          have h3 := H2.out.1.symm.trans ((congrArg (List.take (k + 1)) he).trans H2.out.2.1)
          have h4 := List.append_inj_right' h3 rfl
          exact of_decide_eq_false HR.out.symm (by simpa using h4)
      · obtain rfl : k = n := by omega
        go_wp2_with fail
        go_ret
        refine ⟨ret_b (Eq.symm ?_), hT.out.2⟩
        rw [decide_eq_true_iff]
        have h1 := hT.out.1
        obtain ⟨hm, hm', -⟩ := H.out
        rwa [List.take_of_length_le (by simp; omega), List.take_of_length_le (by simp; omega)] at h1
  · have hne : ((n : Int) != (n' : Int)) = true := by simp; omega
    have hno : Hid (decide (xs.map (·.p) = ys.map (·.p)) = false) := Lib.hid (by
      rw [decide_eq_false_iff_not]
      intro he
      have := congrArg List.length he
      obtain ⟨hm, hm', -⟩ := H.out
      simp at this
      omega)
    clear hnn
    go_enter Try.func11, Try.ntmps11
    go_wp2_with fail
    go_ret
    exact ⟨ret_b hno.out.symm, Frm.refl _ _⟩
end Go.Proofs.Ytbfcpapehfdphaa
