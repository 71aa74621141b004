/- The walk of teasellaw18.BufferNext. -/
import Derived.Test.YtkmammeaidfaaaaTells
namespace Go.Proofs.Ytkmammeaidfaaaa
open Go.RowKit
theorem liveTo_count' (us : List Bool) (k : Nat) (hk : k ≤ us.length) : (liveTo us k).length = (us.take k).count true := by
  induction k with
  | zero => simp [liveTo]
  | succ k ih =>
    have hlt : k < us.length := by omega
    rw [List.take_succ_eq_append_getElem hlt, List.count_append]
    have hg : us.getD k false = us[k] := by simp [List.getD, hlt]
    cases hs : us[k] with
    | true => rw [liveTo_yes (by rw [hg, hs]), List.length_append, ih (by omega)]; simp
    | false => rw [liveTo_no (by rw [hg, hs]), ih (by omega)]; simp
/-- A pool, and a row of the walk's own, apart. -/
def N2 (w0 : World) (b m size : Nat) (fr : List Nat) (us : List Bool) (dt : List (List UInt8)) (vo : Value) (lo : List Nat) (wr : World) : Prop :=
  ∃ S, PAt wr S b m size fr us dt ∧ (∀ k, S k → w0.heap.size ≤ k) ∧ wr.ownsRow w0.heap.size 3 1 vo lo.length (lo.map nv) ∧ (∀ k, vo.ownBlock = some k → ¬ S k) ∧ Frm (fun _ => False) w0 wr
section
variable {w0 wr w2 : World} {b m size n N c : Nat} {fr fr1 lo lo' : List Nat} {us us1 : List Bool} {dt dt1 : List (List UInt8)} {vo : Value} {A : Option Addr}
theorem N2.frm (h : N2 w0 b m size fr us dt vo lo wr) : Frm (fun _ => False) w0 wr := by
  obtain ⟨S, h1, h2, h3, h4, h5⟩ := h
  exact h5
theorem N2.own (h : N2 w0 b m size fr us dt vo lo wr) : wr.ownsRow w0.heap.size 3 1 vo lo.length (lo.map nv) := by
  obtain ⟨S, h1, h2, h3, h4, h5⟩ := h
  exact h3
theorem N2.pw (h : N2 w0 b m size fr us dt vo lo wr) : PW w0 b m size fr us dt wr := by
  obtain ⟨S, h1, h2, h3, h4, h5⟩ := h
  exact ⟨S, h1, h2, h5⟩
theorem N2.step {S : Nat → Prop} (h2 : ∀ k, S k → w0.heap.size ≤ k) (h3 : wr.ownsRow w0.heap.size 3 1 vo lo.length (lo.map nv)) (h4 : ∀ k, vo.ownBlock = some k → ¬ S k) (h5 : Frm (fun _ => False) w0 wr) (hL : Left S b m size fr1 us1 dt1 wr w2) : N2 w0 b m size fr1 us1 dt1 vo lo w2 := by
  obtain ⟨S', p1, p2, p3⟩ := hL
  have hs := h5.size
  refine ⟨S', p1, fun k hk => ?_, p3.own h3 h4, fun k hk hk' => ?_, h5.trans p3 fun k hk => .inr (h2 k hk)⟩
  · rcases p2 k hk with h | h
    · exact h2 k h
    · omega
  · rcases p2 k hk' with h | h
    · exact h4 k hk h
    · have := (h3.lt k hk).2; omega
theorem N2.take (h : N2 w0 b m size (fr ++ [n]) us dt vo lo wr) : Calls Try.prog 12 #[.pointer (some ⟨b, 0, none⟩)] wr fun e w2 => e = .returned (.tuple #[.int .i64 n, .bool true]) ∧ N2 w0 b m size fr (us.set n true) (dt.set n []) vo lo w2 := by
  obtain ⟨S, h1, h2, h3, h4, h5⟩ := h
  exact (take_ok S b m size n fr us dt wr h1).mono fun e w' ⟨he, hL⟩ => ⟨he, N2.step h2 h3 h4 h5 hL⟩
theorem N2.give (h : N2 w0 b m size fr us dt vo lo wr) (hu : us[n]? = some true) (hr : fr.length < m) : Calls Try.prog 14 #[.pointer (some ⟨b, 0, none⟩), .int .i64 (n : Int)] wr fun e w2 => e = .returned (.bool true) ∧ N2 w0 b m size (fr ++ [n]) (us.set n false) (dt.set n []) vo lo w2 := by
  obtain ⟨S, h1, h2, h3, h4, h5⟩ := h
  exact (give_ok S b m size n fr us dt wr h1 hu hr).mono fun e w' ⟨he, hL⟩ => ⟨he, N2.step h2 h3 h4 h5 hL⟩
/-- The row is another one, in a new block or where it was. -/
theorem N2.turn (h : N2 w0 b m size fr us dt vo lo wr) {K : Nat → Prop} (hF : Frm K wr w2) (hK : ∀ k, K k → vo.ownBlock = some k) {v' : Value} (ho : w2.ownsRow w0.heap.size 3 1 v' lo'.length (lo'.map nv)) (hat : ∀ k, v'.ownBlock = some k → vo.ownBlock = some k ∨ wr.heap.size ≤ k) : N2 w0 b m size fr us dt v' lo' w2 := by
  obtain ⟨S, h1, h2, h3, h4, h5⟩ := h
  refine ⟨S, h1.kept hF fun k hk hk' => h4 k (hK k hk') hk, h2, ho, fun k hk hk' => ?_, h5.trans hF fun k hk => .inr (h3.lt k (hK k hk)).1⟩
  rcases hat k hk with h | h
  · exact h4 k h hk'
  · have := h1.lt.2 k hk'; omega
theorem N2.push (h : N2 w0 b m size fr us dt vo lo wr) {o : Obj} (hN : N = lo.length + 1) (ho : w2.ownsRow w0.heap.size 3 1 (.slice A N c) N (lo.map nv ++ [.int .i64 (n : Int)])) (hg : (wr.alloc o).grownBy w2 vo.ownBlock) (hat : (Value.slice A N c).ownBlock = vo.ownBlock ∨ (Value.slice A N c).ownBlock = some (wr.alloc o).heap.size) : N2 w0 b m size fr us dt (.slice A N c) (lo ++ [n]) w2 := by
  have hF : Frm (fun k => vo.ownBlock = some k) wr w2 := ((Frm.refl _ wr).alloc o).grown hg (fun k hk => .inl hk)
  refine h.turn hF (fun k hk => hk) ?_ fun k hk => ?_
  · have e : (lo ++ [n]).length = N := by simp; omega
    rw [e]
    simpa [nv] using ho
  · rcases hat with e | e
    · exact .inl (e ▸ hk)
    · rw [e] at hk; cases hk; right; simp
end
/-- The numbers from T on, up to j. -/
def upTo (T j : Nat) : List Nat := (List.range (j - T)).map (T + ·)
theorem upTo_succ {T j : Nat} (h : T ≤ j) : upTo T (j + 1) = upTo T j ++ [j] := by
  unfold upTo
  rw [show j + 1 - T = (j - T) + 1 from by omega, List.range_succ, List.map_append]
  simp; omega
theorem down_rev (m i : Nat) (h : i ≤ m) : ((List.range (m - i)).map (m - 1 - ·)).reverse = upTo i m := by
  apply List.ext_getElem
  · simp [upTo]
  · intro j h1 h2; simp [upTo] at h1 h2 ⊢; omega
theorem down_cons (m i : Nat) (h : i < m) : (List.range (m - i)).map (m - 1 - ·) = (List.range (m - (i + 1))).map (m - 1 - ·) ++ [i] := by
  rw [show m - i = (m - (i + 1)) + 1 from by omega, List.range_succ, List.map_append]
  simp; omega
theorem rev_drop {l : List Nat} {i : Nat} (h : i < l.length) : (l.drop i).reverse = (l.drop (i + 1)).reverse ++ [l[i]] := by
  rw [List.drop_eq_getElem_cons h, List.reverse_cons]
set_option maxRecDepth 100000 in
set_option maxHeartbeats 8000000 in
theorem next_any (many size taken : Int) (hmany : -9223372036854775808 ≤ many ∧ many ≤ 9223372036854775807) (hsize : -9223372036854775808 ≤ size ∧ size ≤ 9223372036854775807) (htaken : -9223372036854775808 ≤ taken ∧ taken ≤ 9223372036854775807) (A : Option Addr) (n c : Nat) (bk : List Int) (_ : ∀ x ∈ bk, -9223372036854775808 ≤ x ∧ x ≤ 9223372036854775807) (w : World) (h : Sl w (fun k => k < w.heap.size) (.slice A n c) (bk.map iv)) :
    Calls Try.prog 5 #[.int .i64 many, .int .i64 size, .int .i64 taken, .slice A n c] w fun e w' => e = .returned (.bool true) ∧ Frm (fun _ => False) w w' := by
  have hbd : n = bk.length ∧ n ≤ c ∧ c ≤ 9223372036854775807 := by
    obtain ⟨A', n', c', he, hn, hc, hm, _⟩ := h
    cases he
    rw [List.length_map] at hn
    exact ⟨hn, hc, hm⟩
  obtain ⟨hn, hnc, hcm⟩ := hbd
  have H := Lib.hid (And.intro h hn)
  clear h hn
  have hmay := rmay_any many size
  cases hm : mayB many size with
  | false =>
    rw [hm] at hmay
    have Hmay := Lib.hid hmay
    clear hmay hm
    go_enter Try.func5, Try.ntmps5
    go_wp2_with fail
    refine (Hmay.out w).mono ?_
    rintro e w' ⟨rfl, rfl⟩
    go_wp2_with fail
    refine (wakes_any w).mono ?_
    rintro e w' ⟨rfl, hF⟩
    go_wp2_with fail
    go_ret
    exact ⟨rfl, hF⟩
  | true =>
    have hmm : 1 ≤ many ∧ many ≤ 16 ∧ 1 ≤ size ∧ size ≤ 288 := by simpa [mayB] using hm
    obtain ⟨m, rfl⟩ := Int.eq_ofNat_of_zero_le (show 0 ≤ many by omega)
    obtain ⟨q, rfl⟩ := Int.eq_ofNat_of_zero_le (show 0 ≤ size by omega)
    rw [hm] at hmay
    have Hmay := Lib.hid hmay
    clear hmay hm hmany hsize
    obtain ⟨hm1, hm2, hm3, hm4⟩ := hmm
    by_cases h40 : (40 : Int) < (n : Int)
    · go_enter Try.func5, Try.ntmps5
      go_wp2_with fail
      refine (Hmay.out w).mono ?_
      rintro e w' ⟨rfl, rfl⟩
      go_wp2_with fail
      refine (wakes_any w).mono ?_
      rintro e w' ⟨rfl, hF⟩
      go_wp2_with fail
      go_ret
      exact ⟨rfl, hF⟩
    · obtain ⟨i0, hi, hz0, hz1, hz2⟩ := info_parts infoI
      go_enter Try.func5, Try.ntmps5
      go_wp2_with fail
      refine (Hmay.out w).mono ?_
      rintro e w' ⟨rfl, rfl⟩
      clear Hmay
      go_wp2_with fail
      refine (new_ok m q w (by omega) (by omega) (by omega) (by omega)).mono ?_
      rintro e w1 ⟨b, S, rfl, hP, hS, hF1⟩
      have HT : Hid (PW w b m q ((List.range (m - 0)).map (m - 1 - ·)) (List.replicate m false) (List.replicate m []) w1 ∧ Inv m ((List.range (m - 0)).map (m - 1 - ·)) (List.replicate m false)) := Lib.hid ⟨⟨S, hP, hS, hF1⟩, by simp, by simp [List.count_replicate], nodup_down m, fun i hi => by
        simp at hi
        obtain ⟨j, hj, rfl⟩ := hi
        rw [List.getElem?_replicate, if_pos (by omega)]⟩
      clear hP hS hF1
      go_upto_region 6 with fail
      go_cut [2] (fun t wc => ∃ T : Nat, T ≤ m ∧ t = .int .i64 T ∧ w1 = wc)
      case first =>
        by_cases ht0 : taken < 0
        · go_wp2_with fail
          all_goals
            go_meet
            case rel => first | exact ⟨0, Nat.zero_le _, rfl, rfl⟩ | exact ⟨m, Nat.le_refl _, rfl, rfl⟩
        · obtain ⟨T, rfl⟩ := Int.eq_ofNat_of_zero_le (show 0 ≤ taken by omega)
          by_cases htm : T ≤ m
          · go_wp2_with fail
            all_goals
              go_meet
              case rel => first | exact ⟨T, htm, rfl, rfl⟩ | exact ⟨0, Nat.zero_le _, rfl, rfl⟩ | exact ⟨m, Nat.le_refl _, rfl, rfl⟩
          · go_wp2_with fail
            all_goals
              go_meet
              case rel => first | exact ⟨m, Nat.le_refl _, rfl, rfl⟩ | exact ⟨0, Nat.zero_le _, rfl, rfl⟩
      case rest =>
        obtain ⟨T, hTm, rfl, rfl⟩ := hcut
        go_wp2_with fail
        go_loopw [11] (fun i wr => ∃ k : Nat, k ≤ T ∧ i = .int .i64 k ∧ Hid (∃ us dt, PW w b m q ((List.range (m - k)).map (m - 1 - ·)) us dt wr ∧ Inv m ((List.range (m - k)).map (m - 1 - ·)) us)) (fun i _ => T - (intOf i).toNat)
        case atStart => exact ⟨0, Nat.zero_le _, rfl, Lib.hid ⟨_, _, HT.out⟩⟩
        case round =>
          clear HT
          obtain ⟨k, hk, rfl, hrel⟩ := hrel
          by_cases hlt : k < T
          · obtain ⟨us, dt, hP, hI⟩ := hrel.out
            rw [down_cons m k (by omega)] at hP hI
            have HP := Lib.hid (And.intro hP hI)
            clear hP hI hrel
            go_wp2_with fail
            refine (HP.out.1.take).mono ?_
            rintro e w2 ⟨rfl, h2⟩
            have H2 := Lib.hid h2
            clear h2
            go_wp2_with fail
            go_roundw
            case rel => exact ⟨k + 1, by omega, by go_num, Lib.hid ⟨_, _, H2.out, HP.out.2.take⟩⟩
            case measure => simp [intOf]; omega
          · obtain rfl : k = T := by omega
            have HF : Hid (∃ F0, F0 = (List.range (m - k)).map (m - 1 - ·) ∧ F0.reverse = upTo k m) := Lib.hid ⟨_, rfl, down_rev m k hTm⟩
            obtain ⟨F0, hF0, hFr⟩ := HF.out
            have HN : Hid (∃ lo us dt, N2 w b m q (F0 ++ lo.reverse) us dt (.slice none 0 0) lo wr ∧ Inv m (F0 ++ lo.reverse) us) := Lib.hid (by
              obtain ⟨us, dt, ⟨S, h1, h2, h3⟩, hI⟩ := hrel.out
              rw [← hF0] at h1 hI
              exact ⟨[], us, dt, ⟨S, by simpa using h1, h2, by simpa using World.ownsRow_nil _ _ _ _, fun _ h => (by cases h), h3⟩, by simpa using hI⟩)
            have HFr := Lib.hid hFr
            clear hF0 hFr HF hrel hlt hk
            go_wp2_with fail
            go_loopw [14, 15] (fun vo i wq => ∃ j : Nat, j ≤ n ∧ i = .int .i64 j ∧ Hid (∃ lo us dt, N2 w b m q (F0 ++ lo.reverse) us dt vo lo wq ∧ Inv m (F0 ++ lo.reverse) us)) (fun _ i _ => n - (intOf i).toNat)
            case atStart => exact ⟨0, Nat.zero_le _, rfl, HN⟩
            case round =>
              clear HN
              obtain ⟨j, hj, rfl, hrel⟩ := hrel
              obtain ⟨lo, us, dt, hN, hI⟩ := hrel.out
              by_cases hlt : j < n
              · obtain ⟨⟨A', n', c', he, -, -, -, hx⟩, hn⟩ := H.out
                cases he
                obtain ⟨g, o, rfl, hg, hx⟩ := hx.resolve_left (by omega)
                have hjl : j < bk.length := by omega
                have cx : w.cell? ⟨g, o + j, none⟩ = some (.int .i64 bk[j]) := by rw [hx j (by simpa using hjl)]; simp [iv]
                have c0 := hN.frm.cell cx id
                have Hcx := Lib.hid cx
                have HN := Lib.hid (And.intro hN hI)
                clear hN hI hrel hx hn hg cx
                generalize bk[j] = x at *
                clear hjl
                cases hu : inUse us x with
                | false =>
                  have Hu := Lib.hid hu
                  clear hu
                  go_wp2_with fail
                  refine (HN.out.1.pw.giveNo Hu.out).mono ?_
                  rintro e w2 ⟨rfl, rfl⟩
                  go_wp2_with fail
                  go_roundw
                  case rel => exact ⟨j + 1, by omega, by go_num, Lib.hid ⟨_, _, _, HN.out⟩⟩
                  case measure => simp [intOf]; omega
                | true =>
                  obtain ⟨y, rfl, _, hyu⟩ := inUse_nat hu
                  have hroom := HN.out.2.room hyu
                  have Hy := Lib.hid (And.intro hyu hroom)
                  clear hu hyu hroom
                  go_wp2_with fail
                  refine (HN.out.1.give Hy.out.1 Hy.out.2).mono ?_
                  rintro e w2 ⟨rfl, h2⟩
                  have hI2 := HN.out.2.give Hy.out.1
                  have c2 := h2.frm.cell Hcx.out id
                  have hlen : lo.length ≤ 16 := by have := hI2.2.1; have := hI2.1; simp at *; omega
                  have hown2 := h2.own
                  have H2 := Lib.hid (And.intro h2 hI2)
                  clear h2 hI2
                  generalize hLo : lo.length = Lo at *
                  have HLo := Lib.hid hLo
                  clear hLo
                  obtain ⟨Ao, co, he, hoc1, hoc2⟩ := own_form hown2
                  subst he
                  have Ho2 := Lib.hid hown2
                  clear hown2
                  have hrm : (lo.map nv).length ≤ 16 := by have := HLo.out; simp; omega
                  go_wp2_with (at_builtin; refine wpList_append_sl (by rfl) _ _ 41 (by rfl) w.heap.size 3 i0 (.int .i64 0) 8 Try.underlying41 hi hz0 hz1 hz2 (by rfl) _ 1 [.int .i64 (y : Int)] (by rfl) (own_new1 rfl (by have := H2.out.1.frm.size; omega)) (fun k => k < w2.heap.size) _ (lo.map nv) (by rfl) (by exact (OSl.of_own (K := fun k => k < w2.heap.size) (by have := HLo.out; exact Ho2.out) (fun k hk => (Ho2.out.lt k hk).2)).sl.keptTo fun k hk => ⟨Below.heap_alloc _ _ _ hk.lt, hk.lt⟩) (by intro u hu; obtain ⟨x, _, rfl⟩ := List.mem_map.1 hu; rfl) (by unfold maxLen; omega) (by omega) (by have := H2.out.1.frm.size; simp; omega) ?_; intro A3 N3 c3' w3 HN3 hNc3 hc3 hown3 hg3 hat3; have hF3 : Frm (fun _ => False) w2 w3 := ((Frm.refl _ w2).alloc _).grown hg3 (fun k hk => Or.inr (by have h : some w2.heap.size = some k := hk; injection h; omega)); have H3 := Lib.hid (And.intro hown3 (And.intro hat3 hF3)); clear hown3 hat3 hF3 hg3)
                  go_roundw
                  case rel => exact ⟨j + 1, by omega, by go_num, Lib.hid ⟨y :: lo, _, _, by
                    obtain ⟨hown3, hat3, hF3⟩ := H3.out
                    have h5 := H2.out.1.turn hF3 (fun _ h => h.elim) (lo' := y :: lo) (v' := .slice A3 N3 c3') (by
                      have e : (y :: lo).length = N3 := by have := HN3.out; simp at *; omega
                      rw [e]
                      simpa [nv] using hown3) (fun k hk => by
                      right
                      rcases hat3 with e | e
                      · rw [e] at hk
                        have h : some w2.heap.size = some k := hk
                        injection h; omega
                      · rw [e] at hk; cases hk; simp)
                    rw [List.reverse_cons, ← List.append_assoc]
                    exact h5, by rw [List.reverse_cons, ← List.append_assoc]; exact H2.out.2⟩⟩
                  case measure => simp [intOf]; omega
              · obtain rfl : j = n := by omega
                have hlen : lo.length + (m - k) ≤ 16 := by
                  have h1 := hI.2.1; have h2 := hI.1
                  have h3 : F0.length = m - k := by rw [← List.length_reverse, HFr.out]; simp [upTo]
                  simp at h1; omega
                have hown2 := hN.own
                have HN : Hid (N2 w b m q (F0 ++ lo.reverse) us dt u14 (lo ++ upTo k k) wr ∧ Inv m (F0 ++ lo.reverse) us) := Lib.hid ⟨by simpa [upTo] using hN, hI⟩
                obtain ⟨Ao, co, rfl, hoc1, hoc2⟩ := own_form hown2
                clear hN hI hrel hlt hj hown2 hoc1
                generalize hLo : lo.length = Lo at *
                have HLo := Lib.hid hLo
                clear hLo
                go_wp2_with fail
                go_loopw [14, 16] (fun vo i wq => ∃ j : Nat, k ≤ j ∧ j ≤ m ∧ i = .int .i64 j ∧ Hid (N2 w b m q (F0 ++ lo.reverse) us dt vo (lo ++ upTo k j) wq)) (fun _ i _ => m - (intOf i).toNat)
                case atStart => exact ⟨k, Nat.le_refl _, hTm, rfl, Lib.hid HN.out.1⟩
                case round =>
                  obtain ⟨j, hkj, hjm, rfl, hrel⟩ := hrel
                  by_cases hlt : j < m
                  · obtain ⟨Aq, cq, he, hq1, hq2⟩ := own_form hrel.out.own
                    subst he
                    have hll : (lo ++ upTo k j).length ≤ 16 := by have := HLo.out; simp [upTo]; omega
                    have hown := hrel.out.own
                    generalize hL : (lo ++ upTo k j).length = L at *
                    have HL := Lib.hid hL
                    clear hL
                    go_wp2_with (at_builtin; refine wpList_append_sl (by rfl) _ _ 41 (by rfl) w.heap.size 3 i0 (.int .i64 0) 8 Try.underlying41 hi hz0 hz1 hz2 (by rfl) _ L _ (by rfl) (by exact hown.alloc _) (fun q => q = wr.heap.size) _ [.int .i64 (j : Int)] (by rfl) (by exact Sl.blk1 wr _ _) (by simp [Value.oneCell']) (by unfold maxLen; simp; omega) (by simp; omega) (by have := hrel.out.frm.size; simp; omega) ?_; intro A3 N3 c3' w3 HN3 hNc3 hc3 hown3 hg3 hat3)
                    go_roundw
                    case rel => exact ⟨j + 1, by omega, by omega, by go_num, Lib.hid (by
                      rw [upTo_succ hkj, ← List.append_assoc]
                      exact hrel.out.push (by have := HN3.out; have := HL.out; simp at *; omega) hown3 hg3 hat3)⟩
                    case measure => simp [intOf]; omega
                  · obtain rfl : j = m := by omega
                    have hrev : lo ++ upTo k j = (F0 ++ lo.reverse).reverse := by rw [List.reverse_append, HFr.out, List.reverse_reverse]
                    have hr0 := hrel.out
                    have hI0 := HN.out.2
                    rw [hrev] at hr0
                    generalize F0 ++ lo.reverse = fr at *
                    obtain ⟨Aq, cq, rfl, hq1, hq2⟩ := own_form hr0.own
                    have hlm : fr.reverse.length ≤ 16 := by have := hI0.2.1; simp; omega
                    have HR : Hid (∃ us dt, N2 w b j q ((fr.reverse.drop 0).reverse) us dt (.slice Aq fr.reverse.length cq) fr.reverse wr ∧ Inv j ((fr.reverse.drop 0).reverse) us) := Lib.hid ⟨_, _, by simpa using hr0, by simpa using hI0⟩
                    clear hr0 hI0 hrel HN hrev hlt hjm hkj HFr
                    generalize hlo : fr.reverse = lp at *
                    clear hlo
                    generalize hL : lp.length = L at *
                    have HL := Lib.hid hL
                    clear hL
                    go_wp2_with fail
                    go_loopw [17] (fun i wq => ∃ p : Nat, p ≤ L ∧ i = .int .i64 p ∧ Hid (∃ us dt, N2 w b j q ((lp.drop p).reverse) us dt (.slice Aq L cq) lp wq ∧ Inv j ((lp.drop p).reverse) us)) (fun i _ => L - (intOf i).toNat)
                    case atStart => exact ⟨0, Nat.zero_le _, rfl, HR⟩
                    case round =>
                      clear HR
                      obtain ⟨p, hp, rfl, hrel⟩ := hrel
                      by_cases hlt : p < L
                      · obtain ⟨us, dt, hN, hI⟩ := hrel.out
                        have hpl : p < lp.length := by have := HL.out; omega
                        rw [rev_drop hpl] at hN hI
                        have HN := Lib.hid (And.intro hN hI)
                        clear hN hI hrel
                        have Hpl := Lib.hid (List.getElem?_eq_getElem hpl)
                        generalize lp[p] = x at *
                        clear hpl
                        go_wp2_with fail
                        refine (HN.out.1.take).mono ?_
                        rintro e w2 ⟨rfl, h2⟩
                        have hown := h2.own
                        rw [HL.out] at hown
                        obtain ⟨g, rfl, cx⟩ := own_at hown p (by simp; have := HL.out; omega)
                        have cx' : w2.cell? ⟨g, p, none⟩ = some (.int .i64 (x : Int)) := by
                          rw [cx]
                          have h1 := Hpl.out
                          simp [nv, (List.getElem?_eq_some_iff.1 h1).2]
                        have H2 := Lib.hid h2
                        clear h2 hown cx
                        go_wp2_with fail
                        go_roundw
                        case rel => exact ⟨p + 1, by omega, by go_num, Lib.hid ⟨_, _, H2.out, HN.out.2.take⟩⟩
                        case measure => simp [intOf]; omega
                      · obtain rfl : p = L := by omega
                        obtain ⟨us, dt, hN, hI⟩ := hrel.out
                        rw [List.drop_eq_nil_of_le (by have := HL.out; omega)] at hN hI
                        have hcnt : (liveTo us j).length = j := by
                          have h1 := hI.2.1; have h2 := hI.1
                          rw [liveTo_count' us j (by omega), List.take_of_length_le (by omega)]
                          simpa using h1
                        have HN := Lib.hid (And.intro hN hcnt)
                        clear hN hI hrel hcnt
                        go_wp2_with fail
                        refine (HN.out.1.pw.takeNo).mono ?_
                        rintro e w' ⟨rfl, rfl⟩
                        go_wp2_with fail
                        refine (HN.out.1.pw.free (k := 0) rfl).mono ?_
                        rintro e w' ⟨rfl, rfl⟩
                        go_wp2_with fail
                        refine (HN.out.1.pw.live).mono ?_
                        rintro e w3 ⟨v3, rfl, hv3, hF3⟩
                        rw [HN.out.2] at hv3
                        obtain ⟨A3, c3, rfl, -, -⟩ := own_form hv3
                        have hF := Lib.hid (HN.out.1.frm.trans hF3 fun _ h => h.elim)
                        clear hv3 hF3
                        go_wp2_with fail
                        refine (wakes_any _).mono ?_
                        rintro e w4 ⟨rfl, hF4⟩
                        go_wp2_with fail
                        go_ret
                        exact ⟨by simp, hF.out.trans hF4 fun _ h => h.elim⟩
end Go.Proofs.Ytkmammeaidfaaaa
