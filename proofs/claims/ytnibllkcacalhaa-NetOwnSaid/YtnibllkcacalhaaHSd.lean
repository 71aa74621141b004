/- The walks of teaselref23.Same and of one. -/
import Derived.Test.YtnibllkcacalhaaHSc
namespace Go.Proofs.Ytnibllkcacalhaa
set_option maxRecDepth 100000
open Go.RowKit
set_option maxHeartbeats 1600000 in
theorem rsame_any (K : Nat → Prop) (A : Option Addr) (n c : Nat) (a s r : Int) (es : List Er) (A' : Option Addr) (n' c' : Nat) (a' s' r' : Int) (fs : List Er) (w : World) (h : RAt w K (.slice A n c) es) (h' : RAt w K (.slice A' n' c') fs) (hK : ∀ q, K q → q < w.heap.size) :
    Calls Try.prog 42 #[.agg #[.slice A n c, .int .i64 a, .int .u32 s, .int .i64 r], .agg #[.slice A' n' c', .int .i64 a', .int .u32 s', .int .i64 r']] w (ChSame ⟨es, a, s, r⟩ ⟨fs, a', s', r'⟩ w) := by
  obtain ⟨gc, hgc⟩ : ∃ g, g = w.heap.size := ⟨_, rfl⟩
  obtain ⟨W0, hW0⟩ : ∃ W, W = (w.alloc (.cells #[.slice A n c, .int .i64 a, .int .u32 s, .int .i64 r] 46)).alloc (.cells #[.slice A' n' c', .int .i64 a', .int .u32 s', .int .i64 r'] 46) := ⟨_, rfl⟩
  obtain ⟨hF, hb1, hb2⟩ := two_boxes w W0 gc _ _ _ _ hgc hW0
  obtain ⟨hn, hnc, hcm, hx⟩ := (h.keptTo fun q hq => ⟨hF.block q (hK q hq) id, hq⟩ : RAt W0 K _ _).cells
  obtain ⟨hn', hnc', hcm', hx'⟩ := (h'.keptTo fun q hq => ⟨hF.block q (hK q hq) id, hq⟩ : RAt W0 K _ _).cells
  have HD : Hid (∀ b : Bool, (b = true ↔ a = a' ∧ s = s' ∧ r = r' ∧ es = fs) → b = decide ((⟨es, a, s, r⟩ : Ch) = ⟨fs, a', s', r'⟩)) := Lib.hid fun b hb => by
    rw [Bool.eq_iff_iff, hb, decide_eq_true_iff, ch_eq]
  have HF := Lib.hid hF
  have H := Lib.hid (And.intro hn (And.intro hn' (And.intro hx hx')))
  have p0 : W0.cell? ⟨gc, 0, none⟩ = some (.slice A n c) := hb1.cell 0
  have p1 : W0.cell? ⟨gc, 1, none⟩ = some (.int .i64 a) := hb1.cell 1
  have p2 : W0.cell? ⟨gc, 2, none⟩ = some (.int .u32 s) := hb1.cell 2
  have p3 : W0.cell? ⟨gc, 3, none⟩ = some (.int .i64 r) := hb1.cell 3
  have q0 : W0.cell? ⟨gc + 1, 0, none⟩ = some (.slice A' n' c') := hb2.cell 0
  have q1 : W0.cell? ⟨gc + 1, 1, none⟩ = some (.int .i64 a') := hb2.cell 1
  have q2 : W0.cell? ⟨gc + 1, 2, none⟩ = some (.int .u32 s') := hb2.cell 2
  have q3 : W0.cell? ⟨gc + 1, 3, none⟩ = some (.int .i64 r') := hb2.cell 3
  clear hF hb1 hb2 h h' hK hn hn' hx hx'
  go_enter Try.func42, Try.ntmps42
  go_upto_region 1 with fail
  rw [← hgc, ← hW0]
  clear hgc hW0
  unfold ChSame
  by_cases h1 : a = a'
  · have g1 : (a != a') = false := by simpa using h1
    by_cases h2 : s = s'
    · have g2 : (s != s') = false := by simpa using h2
      by_cases h3 : r = r'
      · have g3 : (r != r') = false := by simpa using h3
        have H3 := Lib.hid (And.intro h1 (And.intro h2 h3))
        clear h1 h2 h3
        by_cases h4 : n = n'
        · subst h4
          have g4 : ((n : Int) != (n : Int)) = false := by simp
          go_wp2_with fail
          go_loopw [5] (fun i wr => ∃ k q : Nat, k ≤ n ∧ i = .int .i64 k ∧ es.take k = fs.take k ∧ wr = W0.drewN q) (fun i _ => n - (intOf i).toNat)
          case atStart => exact ⟨0, 0, Nat.zero_le _, rfl, by simp, rfl⟩
          case round =>
            obtain ⟨k, q, hk, rfl, ht, rfl⟩ := hrel
            by_cases hlt : k < n
            · obtain ⟨hn, hn', hx, hx'⟩ := H.out
              have hkx : k < es.length := by omega
              have hky : k < fs.length := by omega
              obtain ⟨g, o, rfl, _, c1, c2, c3⟩ := hx k hkx
              obtain ⟨g', o', rfl, _, b1, b2, b3⟩ := hx' k hky
              have e1 : es.take (k + 1) = es.take k ++ [es[k]] := List.take_succ_eq_append_getElem hkx
              have e2 : fs.take (k + 1) = fs.take k ++ [fs[k]] := List.take_succ_eq_append_getElem hky
              have hne : es[k] ≠ fs[k] → es ≠ fs := fun h1 h2 => by subst h2; exact h1 rfl
              have H2 := Lib.hid (And.intro ht (And.intro e1 (And.intro e2 hne)))
              clear hx hx' hn hn' ht e1 e2 hne
              generalize es[k] = x at *
              generalize fs[k] = y at *
              obtain ⟨x1, x2, x3⟩ := x
              obtain ⟨y1, y2, y3⟩ := y
              dsimp only at c1 c2 c3 b1 b2 b3
              have fin : (⟨x1, x2, x3⟩ : Er) ≠ ⟨y1, y2, y3⟩ → ¬ es = fs := fun h => H2.out.2.2.2 h
              have H4 := Lib.hid fin
              clear fin
              cases h1 : (x1 == y1)
              · have Hf := Lib.hid (H4.out (by intro h; injection h with h h'; subst h; simp at h1))
                go_wp2_with fail
                go_quiet (fail)
                rename_i nq
                go_wp2_with fail
                go_ret
                exact ⟨ret_b (HD.out false (by simp; intro _ _ _; exact Hf.out)), (HF.out.drewN _).drewN _⟩
              · cases h2 : (x2 == y2)
                · have Hf := Lib.hid (H4.out (by intro h; injection h with h h'; subst h'; simp at h2))
                  go_wp2_with fail
                  go_quiet (fail)
                  rename_i nq
                  go_wp2_with fail
                  go_ret
                  exact ⟨ret_b (HD.out false (by simp; intro _ _ _; exact Hf.out)), (HF.out.drewN _).drewN _⟩
                · cases h3 : (x3 == y3)
                  · have Hf := Lib.hid (H4.out (by intro h; injection h with h h' h''; subst h''; simp at h3))
                    go_wp2_with fail
                    go_quiet (fail)
                    rename_i nq
                    go_wp2_with fail
                    go_ret
                    exact ⟨ret_b (HD.out false (by simp; intro _ _ _; exact Hf.out)), (HF.out.drewN _).drewN _⟩
                  · have Hxy : Hid (x1 = y1 ∧ x2 = y2 ∧ x3 = y3) := Lib.hid ⟨by simpa using h1, by simpa using h2, by simpa using h3⟩
                    go_wp2_with fail
                    go_quiet (fail)
                    rename_i nq
                    go_wp2_with fail
                    go_roundw
                    case rel => exact ⟨k + 1, q + nq, by omega, by go_num, by rw [H2.out.2.1, H2.out.2.2.1, H2.out.1, Hxy.out.1, Hxy.out.2.1, Hxy.out.2.2], rfl⟩
                    case measure => simp [intOf]; omega
            · obtain rfl : k = n := by omega
              have Hf : Hid (es = fs) := Lib.hid (by
                obtain ⟨hn, hn', _⟩ := H.out
                rwa [List.take_of_length_le (by omega), List.take_of_length_le (by omega)] at ht)
              clear ht
              go_wp2_with fail
              go_ret
              exact ⟨ret_b (HD.out true (by obtain ⟨a, b, c⟩ := H3.out; simp [a, b, c, Hf.out])), HF.out.drewN _⟩
        · have g4 : ((n : Int) != (n' : Int)) = true := by simp; omega
          have Hf : Hid (¬ es = fs) := Lib.hid (by
            intro h; subst h
            obtain ⟨hn, hn', _⟩ := H.out
            omega)
          clear h4
          go_wp2_with fail
          go_ret
          exact ⟨ret_b (HD.out false (by simp; intro _ _ _; exact Hf.out)), HF.out⟩
      · have g3 : (r != r') = true := by simpa using h3
        have H3 := Lib.hid h3
        clear h1 h2 h3
        go_wp2_with fail
        go_ret
        exact ⟨ret_b (HD.out false (by simp; intro _ _ h; exact absurd h H3.out)), HF.out⟩
    · have g2 : (s != s') = true := by simpa using h2
      have H3 := Lib.hid h2
      clear h1 h2
      go_wp2_with fail
      go_ret
      exact ⟨ret_b (HD.out false (by simp; intro _ h; exact absurd h H3.out)), HF.out⟩
  · have g1 : (a != a') = true := by simpa using h1
    have H3 := Lib.hid h1
    clear h1
    go_wp2_with fail
    go_ret
    exact ⟨ret_b (HD.out false (by simp; intro h; exact absurd h H3.out)), HF.out⟩
set_option maxHeartbeats 1600000 in
theorem one_any (K : Nat → Prop) (A : Option Addr) (n c : Nat) (r : Int) (b : Bool) (xs : List Int) (A' : Option Addr) (n' c' : Nat) (r' : Int) (b' : Bool) (ys : List Int) (w : World) (h : Sl w K (.slice A n c) (uv xs)) (h' : Sl w K (.slice A' n' c') (uv ys)) (hK : ∀ q, K q → q < w.heap.size) :
    Calls Try.prog 61 #[.agg #[.int .i64 r, .slice A n c, .bool b], .agg #[.int .i64 r', .slice A' n' c', .bool b']] w (PiSame ⟨r, xs, b⟩ ⟨r', ys, b'⟩ w) := by
  obtain ⟨gc, hgc⟩ : ∃ g, g = w.heap.size := ⟨_, rfl⟩
  obtain ⟨W0, hW0⟩ : ∃ W, W = (w.alloc (.cells #[.int .i64 r, .slice A n c, .bool b] 52)).alloc (.cells #[.int .i64 r', .slice A' n' c', .bool b'] 52) := ⟨_, rfl⟩
  obtain ⟨hF, hb1, hb2⟩ := two_boxes w W0 gc _ _ _ _ hgc hW0
  obtain ⟨_, _, _, e, hn, hnc, hcm, hx⟩ := (h.kept fun q hq => hF.block q (hK q hq) id : Sl W0 K _ _)
  cases e
  obtain ⟨_, _, _, e, hn', hnc', hcm', hx'⟩ := (h'.kept fun q hq => hF.block q (hK q hq) id : Sl W0 K _ _)
  cases e
  rw [uv_length] at hn hn'
  have HD : Hid (∀ z : Bool, (z = true ↔ r = r' ∧ b = b' ∧ xs = ys) → z = decide ((⟨r, xs, b⟩ : Pi) = ⟨r', ys, b'⟩)) := Lib.hid fun z hz => by
    rw [Bool.eq_iff_iff, hz, decide_eq_true_iff, pi_eq]
  have HF := Lib.hid hF
  have H := Lib.hid (And.intro hn (And.intro hn' (And.intro hx hx')))
  have p0 : W0.cell? ⟨gc, 0, none⟩ = some (.int .i64 r) := hb1.cell 0
  have p1 : W0.cell? ⟨gc, 1, none⟩ = some (.slice A n c) := hb1.cell 1
  have p2 : W0.cell? ⟨gc, 2, none⟩ = some (.bool b) := hb1.cell 2
  have q0 : W0.cell? ⟨gc + 1, 0, none⟩ = some (.int .i64 r') := hb2.cell 0
  have q1 : W0.cell? ⟨gc + 1, 1, none⟩ = some (.slice A' n' c') := hb2.cell 1
  have q2 : W0.cell? ⟨gc + 1, 2, none⟩ = some (.bool b') := hb2.cell 2
  clear hF hb1 hb2 h h' hK hn hn' hx hx'
  go_enter Try.func61, Try.ntmps61
  go_upto_region 1 with fail
  rw [← hgc, ← hW0]
  clear hgc hW0
  unfold PiSame
  by_cases h1 : r = r'
  · have g1 : (r != r') = false := by simpa using h1
    have H1 := Lib.hid h1
    clear h1
    by_cases h4 : n = n'
    · subst h4
      have g4 : ((n : Int) != (n : Int)) = false := by simp
      rcases Bool.eq_false_or_eq_true b with rfl | rfl <;> rcases Bool.eq_false_or_eq_true b' with rfl | rfl
      case inl.inr | inr.inl =>
        go_wp2_with fail
        go_ret
        exact ⟨ret_b (HD.out false (by simp)), HF.out⟩
      all_goals
        go_wp2_with fail
        go_loopw [5] (fun i wr => ∃ k q : Nat, k ≤ n ∧ i = .int .i64 k ∧ xs.take k = ys.take k ∧ wr = W0.drewN q) (fun i _ => n - (intOf i).toNat)
        case atStart => exact ⟨0, 0, Nat.zero_le _, rfl, by simp, rfl⟩
        case round =>
          obtain ⟨k, q, hk, rfl, ht, rfl⟩ := hrel
          by_cases hlt : k < n
          · obtain ⟨hn, hn', hx, hx'⟩ := H.out
            obtain ⟨g, o, rfl, _, hx⟩ := hx.resolve_left (by omega)
            obtain ⟨g', o', rfl, _, hx'⟩ := hx'.resolve_left (by omega)
            have hkx : k < xs.length := by omega
            have hky : k < ys.length := by omega
            have c1 : W0.cell? ⟨g, o + k, none⟩ = some (.int .u32 xs[k]) := by rw [hx k (by rw [uv_length]; exact hkx)]; simp [uv]
            have c2 : W0.cell? ⟨g', o' + k, none⟩ = some (.int .u32 ys[k]) := by rw [hx' k (by rw [uv_length]; exact hky)]; simp [uv]
            have e1 : xs.take (k + 1) = xs.take k ++ [xs[k]] := List.take_succ_eq_append_getElem hkx
            have e2 : ys.take (k + 1) = ys.take k ++ [ys[k]] := List.take_succ_eq_append_getElem hky
            have hne : xs[k] ≠ ys[k] → xs ≠ ys := fun h1 h2 => by subst h2; exact h1 rfl
            have H2 := Lib.hid (And.intro ht (And.intro e1 (And.intro e2 hne)))
            clear hx hx' hn hn' ht e1 e2 hne
            generalize xs[k] = x at *
            generalize ys[k] = y at *
            by_cases hxy : x = y
            · subst hxy
              have hb : (x != x) = false := by simp
              go_wp2_with fail
              go_quiet (fail)
              rename_i nq
              go_wp2_with fail
              go_roundw
              case rel => exact ⟨k + 1, q + nq, by omega, by go_num, by rw [H2.out.2.1, H2.out.2.2.1, H2.out.1], rfl⟩
              case measure => simp [intOf]; omega
            · have hb : (x != y) = true := by simpa using hxy
              have Hf := Lib.hid (H2.out.2.2.2 hxy)
              clear hxy
              go_wp2_with fail
              go_quiet (fail)
              rename_i nq
              go_wp2_with fail
              go_ret
              exact ⟨ret_b (HD.out false (by simp; intro _; exact Hf.out)), (HF.out.drewN _).drewN _⟩
          · obtain rfl : k = n := by omega
            have Hf : Hid (xs = ys) := Lib.hid (by
              obtain ⟨hn, hn', _⟩ := H.out
              rwa [List.take_of_length_le (by omega), List.take_of_length_le (by omega)] at ht)
            clear ht
            go_wp2_with fail
            go_ret
            exact ⟨ret_b (HD.out true (by simp [H1.out, Hf.out])), HF.out.drewN _⟩
    · have g4 : ((n : Int) != (n' : Int)) = true := by simp; omega
      have Hf : Hid (¬ xs = ys) := Lib.hid (by
        intro h; subst h
        obtain ⟨hn, hn', _⟩ := H.out
        omega)
      clear h4
      rcases Bool.eq_false_or_eq_true b with rfl | rfl <;> rcases Bool.eq_false_or_eq_true b' with rfl | rfl
      all_goals
        go_wp2_with fail
        go_ret
        exact ⟨ret_b (HD.out false (by simp <;> (intro _; exact Hf.out))), HF.out⟩
  · have g1 : (r != r') = true := by simpa using h1
    have H3 := Lib.hid h1
    clear h1
    go_wp2_with fail
    go_ret
    exact ⟨ret_b (HD.out false (by simp; intro h; exact absurd h H3.out)), HF.out⟩
end Go.Proofs.Ytnibllkcacalhaa
