/- The walk of teasellaw19.BlockTells. -/
import Derived.Test.YtecpbnkkgdppoaaRd
import Derived.Test.YtecpbnkkgdppoaaRu
import Derived.Test.YtecpbnkkgdppoaaTm
import Derived.Test.YtecpbnkkgdppoaaWk
import Derived.Test.YtecpbnkkgdppoaaGj
import Derived.Deep.DeepCutAuto
namespace Go.Proofs.Ytecpbnkkgdppoaa
open Go.RowKit
theorem BsAt.kept_ {w w' : World} {A : Option Addr} {m c : Nat} {bs : List Bk} (h : BsAt w (fun q => q < w.heap.size) A m c bs) (hF : Frm (fun _ => False) w w') : BsAt w' (fun q => q < w.heap.size) A m c bs := h.keptTo fun q hq => ⟨hF.block q hq id, hq⟩
/-- What the first half of the law leaves open. -/
def OfEq (E : Int) (bs : List Bc) (w : World) (e : Ending) (w' : World) : Prop :=
  ∃ A N c ys, e = .returned (.tuple #[.slice A N c, .int .i64 E]) ∧ ys.map (·.c) = bs ∧ BsAt w' (fun q => q < w'.heap.size) A N c ys ∧ Frm (fun _ => False) w w'
theorem OfRes.eq_ {s l f : Int} {t : List UInt8} {w w' : World} {e : Ending} (h : OfRes s l f t w e w') : OfEq (if mayB s l f = true then 0 else 2) (if mayB s l f = true then blocksN s.toNat l.toNat f.toNat t else []) w e w' := by
  unfold OfRes at h
  unfold OfEq
  split at h
  · rename_i hm
    obtain ⟨v, rfl, ys, h1, h2, h3, h4⟩ := h
    obtain ⟨A', c', rfl, h5⟩ := BsAt.of_own (K := fun q => q < w'.heap.size) h2 h3 fun q a b => b
    rw [if_pos hm, if_pos hm]
    exact ⟨A', _, c', ys, rfl, h1, h5, h4⟩
  · rename_i hm
    obtain ⟨rfl, h4⟩ := h
    rw [if_neg hm, if_neg hm]
    exact ⟨none, 0, 0, [], rfl, rfl, BsAt.nil _ _, h4⟩
def NewEq (S L F : Nat) (m : Bool) (w : World) (e : Ending) (w' : World) : Prop :=
  ∃ p, e = .returned (.tuple #[.pointer p, .int .i64 (if m = true then 0 else 2)]) ∧ (m = false → p = none) ∧ (m = true → ∃ b, p = some ⟨b, 0, none⟩ ∧ w.heap.size ≤ b ∧ CSt w' (b + 1) b S L F 0 (.slice none 0 0) []) ∧ Frm (fun _ => False) w w'
theorem NewRes.eq_ {s l f : Int} {w w' : World} {e : Ending} (h : NewRes s l f w e w') : NewEq s.toNat l.toNat f.toNat (mayB s l f) w e w' := by
  unfold NewRes at h
  unfold NewEq
  split at h
  · rename_i hm
    obtain ⟨b, rfl, h1, h2, h3⟩ := h
    rw [hm]
    exact ⟨_, rfl, fun h => (by cases h), fun _ => ⟨b, rfl, h1, h2⟩, h3⟩
  · rename_i hm
    obtain ⟨rfl, h3⟩ := h
    rw [Bool.not_eq_true] at hm
    rw [hm]
    exact ⟨_, rfl, fun _ => rfl, fun h => (by cases h), h3⟩
set_option maxRecDepth 100000 in
set_option maxHeartbeats 8000000 in
theorem tells_any (s l f p : Int) (A3 A4 A5 : Option Addr) (n3 c3 n4 c4 n5 c5 : Nat) (t : List UInt8) (vs : List Value) (Ls : List (List UInt8)) (bs : List Bk) (w : World)
    (h3 : Sl w (fun k => k < w.heap.size) (.slice A3 n3 c3) (bv t)) (h4 : Sl w (fun k => k < w.heap.size) (.slice A4 n4 c4) vs) (he : Each w (fun k => k < w.heap.size) vs Ls) (h5 : BsAt w (fun k => k < w.heap.size) A5 n5 c5 bs) (ht : totG bs ≤ 4000000) :
    Calls Try.prog 3 #[.int .i64 s, .int .i64 l, .int .i64 f, .slice A3 n3 c3, .slice A4 n4 c4, .slice A5 n5 c5, .int .i64 p] w fun e w' => e = .returned (.bool true) ∧ Frm (fun _ => False) w w' := by
  have Hg := Lib.hid (great_any (.slice A4 n4 c4) _ _ vs Ls w h4 he)
  have Hh := Lib.hid (great19_any _ A5 n5 c5 bs w h5 ht)
  have Hm := Lib.hid (fun w => may_any s l f w)
  have hn3 : n3 = t.length ∧ n3 ≤ c3 ∧ c3 ≤ 9223372036854775807 := by
    obtain ⟨A', n', c', e, hn, hc, hm, _⟩ := h3
    cases e
    rw [bv_length] at hn
    exact ⟨hn, hc, hm⟩
  obtain ⟨hn3, hnc3, hcm3⟩ := hn3
  have hn5 : n5 = bs.length := h5.1
  by_cases h600 : (600 : Int) < (n3 : Int)
  · clear h3 h4 he h5 hn3 hn5 ht
    go_enter Try.func3, Try.ntmps3
    go_wp2_with fail
    refine (wakes_any w).mono ?_
    rintro e w' ⟨rfl, hF⟩
    go_wp2_with fail
    go_ret
    exact ⟨rfl, hF⟩
  have g1 : decide ((600 : Int) < n3) = false := by simpa using h600
  have hn6 : n3 ≤ 600 := by omega
  obtain ⟨mb, hmb⟩ : ∃ mb, mb = mayB s l f := ⟨_, rfl⟩
  have hof := fun W (hW : Frm (fun _ => False) w W) => (of_any s l f t A3 n3 c3 W (h3.keptTo fun q hq => ⟨hW.block q hq id, Nat.lt_of_lt_of_le hq hW.size⟩) (by omega)).mono fun e w' h => h.eq_
  have hrof := fun W (hW : Frm (fun _ => False) w W) => (rof_any s l f t A3 n3 c3 W (h3.keptTo fun q hq => ⟨hW.block q hq id, Nat.lt_of_lt_of_le hq hW.size⟩) (by omega)).mono fun e w' h => h.eq_
  have hnew := fun W => (new_any s l f W).mono fun e w' h => h.eq_
  rw [← hmb] at hof hrof hnew Hm
  have HO := Lib.hid (And.intro hof (And.intro hrof hnew))
  have H := Lib.hid (And.intro h3 (And.intro h4 (And.intro he (And.intro h5 (And.intro ht (And.intro hmb (And.intro hn3 hn5)))))))
  clear h3 h4 he h5 hn3 hn5 ht hmb hof hrof hnew h600
  go_enter Try.func3, Try.ntmps3
  go_wp2_with fail
  refine Hg.out.mono ?_
  rintro e w' ⟨g, rfl, rfl, hg⟩
  have HG := Lib.hid hg
  clear hg Hg
  cases g with
  | true =>
    go_wp2_with fail
    refine (wakes_any w).mono ?_
    rintro e w' ⟨rfl, hF⟩
    go_wp2_with fail
    go_ret
    exact ⟨rfl, hF⟩
  | false =>
  replace HG : Hid (Ls.length ≤ 80 ∧ tot Ls ≤ 3000) := Lib.hid (HG.out rfl)
  go_wp2_with fail
  refine Hh.out.mono ?_
  rintro e w' ⟨g, rfl, rfl, hg⟩
  have HH := Lib.hid hg
  clear hg Hh
  cases g with
  | true =>
    go_wp2_with fail
    refine (wakes_any w).mono ?_
    rintro e w' ⟨rfl, hF⟩
    go_wp2_with fail
    go_ret
    exact ⟨rfl, hF⟩
  | false =>
  replace HH : Hid (bs.length ≤ 80 ∧ totG bs ≤ 9000) := Lib.hid (HH.out rfl)
  have hn80 : n5 ≤ 80 := by rw [H.out.2.2.2.2.2.2.2]; exact HH.out.1
  cases mb with
  | true =>
    obtain ⟨S, L, F, rfl, rfl, rfl, hC⟩ := mayB_cut H.out.2.2.2.2.2.1.symm
    have HCc := Lib.hid hC
    have hSL : S ≤ 256 ∧ L ≤ 32 ∧ F ≤ 4611686018427387904 := ⟨hC.s2, hC.l2, hC.f⟩
    obtain ⟨hS2, hL2, hF2⟩ := hSL
    clear hC
    go_wp2_with fail
    refine (HO.out.1 w (Frm.refl _ w)).mono ?_
    rintro e w1 ⟨A1, N1, k1, ys, rfl, hys, hB1, hF1⟩
    have H1 := Lib.hid (And.intro hys (And.intro hB1 hF1))
    clear hys hB1 hF1
    go_wp2_with fail
    refine (HO.out.2.1 w1 H1.out.2.2).mono ?_
    rintro e w2 ⟨A2, N2, k2, zs, rfl, hzs, hB2, hF2⟩
    have hF12 := H1.out.2.2.trans hF2 fun _ h => h.elim
    have H2 := Lib.hid (And.intro hzs (And.intro hB2 (And.intro (H1.out.2.1.keptTo (K' := fun q => q < w2.heap.size) fun q hq => ⟨hF2.block q hq id, Nat.lt_of_lt_of_le hq hF2.size⟩) hF12)))
    clear hzs hB2 hF2 hF12
    go_wp2_with fail
    refine (HO.out.2.2 w2).mono ?_
    rintro e w3 ⟨P, rfl, hp0, hp1, hF3⟩
    obtain ⟨b, rfl, hbl, hC3⟩ := hp1 rfl
    simp only [Int.toNat_natCast] at hC3
    have hF13 := H2.out.2.2.2.trans hF3 fun _ h => h.elim
    have HC := Lib.hid (And.intro hbl (And.intro hC3 (Nat.le_trans H2.out.2.2.2.size hbl)))
    clear hp0 hp1 hbl hC3
    have hal := all_true (fun q => q < w3.heap.size) A1 A2 N1 k1 N2 k2 ys zs w3.drew (H2.out.2.2.1.keptTo fun q hq => ⟨hF3.block q hq id, Nat.lt_of_lt_of_le hq hF3.size⟩) (H2.out.2.1.keptTo fun q hq => ⟨hF3.block q hq id, Nat.lt_of_lt_of_le hq hF3.size⟩) (fun q hq => hq) (H1.out.1.trans H2.out.1.symm)
    have H3 := Lib.hid (And.intro hal hF13)
    clear hal hF13 hF3
    go_wp2_with fail
    refine (Hm.out w3).mono ?_
    rintro e w' ⟨rfl, rfl⟩
    go_wp2_with fail
    go_cut [107] (fun t wc => t = .bool false ∧ Hid (Frm (fun _ => False) w3 wc))
    case first => as_aux_lemma =>
      refine plan_begin (by kernel_rfl) 38 (by kernel_rfl) ?_
      refine plan_seq 38 0 10 28 (by kernel_rfl) (by kernel_rfl) (by kernel_rfl) (by intro c d v a w h; cases d <;> exact h) (by kernel_rfl) ?_
      simp only [List.append_eq, List.cons_append, List.nil_append, List.take_succ_cons, List.take_zero, List.drop_succ_cons, List.drop_zero, List.drop_nil, List.take_nil]
      intro K hK
      go_wp2_with fail
      refine H3.out.1.mono ?_
      rintro e w4 ⟨rfl, hF4⟩
      have H4 := Lib.hid ((Frm.refl (fun _ => False) w3).drew.trans hF4 fun _ h => h.elim)
      clear hF4
      go_wp2_with fail
      refine plan_still 38 10 19 9 (by kernel_rfl) (by kernel_rfl) (by kernel_rfl) (by kernel_rfl) (by kernel_rfl) (by kernel_rfl) (by kernel_rfl) (fun Kp hKp => ?_)
      simp only [List.append_eq, List.cons_append, List.nil_append, List.take_succ_cons, List.take_zero, List.drop_succ_cons, List.drop_zero, List.drop_nil, List.take_nil]
      repeat still_step
      refine wpStill_nil ?_
      refine hKp _ ?_
      clear hKp Kp
      refine plan_seq 38 29 2 7 (by kernel_rfl) (by kernel_rfl) (by kernel_rfl) (by intro c d v a w h; cases d <;> exact h) (by kernel_rfl) ?_
      simp only [List.append_eq, List.cons_append, List.nil_append, List.take_succ_cons, List.take_zero, List.drop_succ_cons, List.drop_zero, List.drop_nil, List.take_nil]
      intro K hK
      go_wp2_with fail
      refine plan_move 33 rfl rfl (by kernel_rfl) (by intro c d v a w h; cases d <;> exact h) (by kernel_rfl) (by kernel_rfl) ?_
      intro K hK
      go_wp2_with fail
      have hjl : (joinG (bs.map (·.c))).length ≤ 100000000 := by have := joinG_len bs; have := HH.out.2; omega
      have hbj := gjoin_any (fun q => q < w.heap.size) A5 n5 c5 bs w4 (H.out.2.2.2.1.kept_ (H3.out.2.trans H4.out fun _ h => h.elim)) (fun q hq => Nat.lt_of_lt_of_le hq (H3.out.2.trans H4.out fun _ h => h.elim).size) hjl
      have hrj := fun W (hW : Frm (fun _ => False) w3 W) => rjoin_any (fun q => q < w.heap.size) A5 n5 c5 bs W (H.out.2.2.2.1.kept_ (H3.out.2.trans hW fun _ h => h.elim)) (fun q hq => Nat.lt_of_lt_of_le hq (H3.out.2.trans hW fun _ h => h.elim).size) hjl
      clear hjl
      refine plan_one 31 (by kernel_rfl) rfl ?_
      intro K hK
      go_wp2_with fail
      refine hbj.mono ?_
      rintro e w5 ⟨v5, rfl, ho5, hF5⟩
      obtain ⟨A7, c7, rfl, -, -⟩ := own_form ho5
      have e5 := conv_new ((OSl.of_own (K := fun _ => True) (xs := bv (joinG (bs.map (·.c)))) ho5 (fun _ _ => trivial)).sl)
      have H5 := Lib.hid (And.intro (fun W (hW : Frm (fun _ => False) w5 W) => conv_new ((OSl.of_own (K := fun _ => True) (xs := bv (joinG (bs.map (·.c)))) (hW.own ho5 fun _ _ => id) (fun _ _ => trivial)).sl)) hF5)
      clear ho5 hF5 hbj
      go_wp2_with fail
      refine plan_two 32 34 (by kernel_rfl) rfl rfl ?_ ?_
      · intro K hK
        go_wp2_with fail
        refine plan_one 34 (by kernel_rfl) rfl ?_
        intro K hK
        go_wp2_with fail
        refine (hrj _ (H4.out.trans H5.out.2 fun _ h => h.elim)).mono ?_
        rintro e w6 ⟨v6, rfl, ho6, hF6⟩
        obtain ⟨A6, c6, rfl, -, -⟩ := own_form ho6
        have e6 := conv_new ((OSl.of_own (K := fun _ => True) (xs := bv (joinG (bs.map (·.c)))) ho6 (fun _ _ => trivial)).sl)
        have e7 := H5.out.1 w6 hF6
        have H6 := Lib.hid (And.intro trivial hF6)
        clear ho6 hF6
        go_wp2_with fail
        refine plan_one 35 (by kernel_rfl) rfl ?_
        intro K hK
        go_wp2_with fail
        refine plan_one 36 (by kernel_rfl) rfl ?_
        intro K hK
        go_wp2_with fail
        refine plan_one 37 (by kernel_rfl) rfl ?_
        intro K hK
        go_wp2_with fail
        refine plan_done (by kernel_rfl) ?_
        go_wp2_with fail
        go_meet
        case rel => exact ⟨rfl, Lib.hid ((H4.out.trans H5.out.2 fun _ h => h.elim).trans H6.out.2 fun _ h => h.elim)⟩
      · intro K hK
        go_wp2_with fail
        refine (hrj _ (H4.out.trans H5.out.2 fun _ h => h.elim)).mono ?_
        rintro e w6 ⟨v6, rfl, ho6, hF6⟩
        obtain ⟨A6, c6, rfl, -, -⟩ := own_form ho6
        have e6 := conv_new ((OSl.of_own (K := fun _ => True) (xs := bv (joinG (bs.map (·.c)))) ho6 (fun _ _ => trivial)).sl)
        have e7 := H5.out.1 w6 hF6
        have H6 := Lib.hid (And.intro trivial hF6)
        clear ho6 hF6
        go_wp2_with fail
        refine plan_two 32 35 (by kernel_rfl) rfl rfl ?_ ?_
        · intro K hK
          go_wp2_with fail
          refine plan_one 35 (by kernel_rfl) rfl ?_
          intro K hK
          go_wp2_with fail
          refine plan_one 36 (by kernel_rfl) rfl ?_
          intro K hK
          go_wp2_with fail
          refine plan_one 37 (by kernel_rfl) rfl ?_
          intro K hK
          go_wp2_with fail
          refine plan_done (by kernel_rfl) ?_
          go_wp2_with fail
          go_meet
          case rel => exact ⟨rfl, Lib.hid ((H4.out.trans H5.out.2 fun _ h => h.elim).trans H6.out.2 fun _ h => h.elim)⟩
        · intro K hK
          go_wp2_with fail
          refine plan_one 32 (by kernel_rfl) rfl ?_
          intro K hK
          go_wp2_with fail
          refine plan_one 36 (by kernel_rfl) rfl ?_
          intro K hK
          go_wp2_with fail
          refine plan_one 37 (by kernel_rfl) rfl ?_
          intro K hK
          go_wp2_with fail
          refine plan_done (by kernel_rfl) ?_
          go_wp2_with fail
          go_meet
          case rel => exact ⟨rfl, Lib.hid ((H4.out.trans H5.out.2 fun _ h => h.elim).trans H6.out.2 fun _ h => h.elim)⟩
    case rest =>
      obtain ⟨rfl, hFc⟩ := hcut
      have H3b := Lib.hid hFc.out
      replace hFc : Hid (Frm (fun _ => False) w wc) := Lib.hid (H3.out.2.trans hFc.out fun _ h => h.elim)
      go_upto_if 110 with fail
      go_cut [22] (fun _ wd => Hid (Frm (fun _ => False) wc wd))
      case first => as_aux_lemma =>
        by_cases hz : n5 = 0
        · subst hz
          go_wp2_with fail
          go_meet
          case rel => exact Lib.hid (Frm.refl _ _)
        · have g0 : decide ((0 : Int) < (n5 : Int)) = true := by simp; omega
          have hi : ∃ i : Nat, i < n5 ∧ ((p < 0 ∧ i = 0) ∨ (0 ≤ p ∧ p ≤ (n5 : Int) - 1 ∧ (i : Int) = p) ∨ (0 ≤ p ∧ (n5 : Int) - 1 < p ∧ (i : Int) = (n5 : Int) - 1)) := by
            by_cases h1 : p < 0
            · exact ⟨0, by omega, .inl ⟨h1, rfl⟩⟩
            · by_cases h2 : p ≤ (n5 : Int) - 1
              · exact ⟨p.toNat, by omega, .inr (.inl ⟨by omega, h2, by omega⟩)⟩
              · exact ⟨n5 - 1, by omega, .inr (.inr ⟨by omega, by omega, by omega⟩)⟩
          obtain ⟨i, hi, hcase⟩ := hi
          clear hz
          go_upto_region 10 with fail
          go_cut [22] (fun t wd => wd = wc ∧ t = .int .i64 i)
          case first =>
            rcases hcase with ⟨h1, h2⟩ | ⟨h1, h2, hp⟩ | ⟨h1, h2, hp⟩
            · subst h2
              go_wp2_with fail
              all_goals
                go_meet
                case rel => exact ⟨rfl, congrArg (Value.int .i64) (by omega)⟩
            · subst hp
              go_wp2_with fail
              all_goals
                go_meet
                case rel => exact ⟨rfl, congrArg (Value.int .i64) (by omega)⟩
            · have Hp := Lib.hid hp
              clear hp
              go_wp2_with fail
              all_goals
                go_meet
                case rel => exact ⟨rfl, congrArg (Value.int .i64) (by have := Hp.out; omega)⟩
          case rest =>
            obtain ⟨rfl, rfl⟩ := hcut
            clear hcase
            obtain ⟨hm5, -, -, hx5⟩ := H.out.2.2.2.1.kept_ hFc.out
            obtain ⟨g, o, rfl, hg, a0, a1, a2, a3, sa⟩ := hx5 i (by omega)
            obtain ⟨g', o', e, hg', b0, b1, b2, b3, sb⟩ := hx5 0 (by omega)
            cases e
            simp only [Nat.zero_mul, Nat.add_zero] at b0 b1 b2 b3
            have hK : ∀ W, Frm (fun _ => False) wc W → ∀ v l, Sl wc (fun q => q < w.heap.size) v (bv l) → Sl W (fun q => q < w.heap.size) v (bv l) := fun W hW v l h => h.kept fun q hq => hW.block q (Nat.lt_of_lt_of_le hq hFc.out.size) id
            have r1 := fun W (hW : Frm (fun _ => False) wc W) => bright_gen _ (S : Int) (L : Int) bs[i] W (hK W hW _ _ sa)
            have r2 := fun W (hW : Frm (fun _ => False) wc W) => rright_any _ (S : Int) (L : Int) bs[i] W (hK W hW _ _ sa)
            have r3 := fun W (hW : Frm (fun _ => False) wc W) => bsame_any _ bs[i] bs[0] W (hK W hW _ _ sa) (hK W hW _ _ sb) (fun q hq => Nat.lt_of_lt_of_le (Nat.lt_of_lt_of_le hq hFc.out.size) hW.size)
            have r4 := fun W (hW : Frm (fun _ => False) wc W) => rsame_any _ bs[i] bs[0] W (hK W hW _ _ sa) (hK W hW _ _ sb) (fun q hq => Nat.lt_of_lt_of_le (Nat.lt_of_lt_of_le hq hFc.out.size) hW.size)
            clear hK hx5
            obtain ⟨Ax, nx, cx, ex, -⟩ := id sa
            obtain ⟨Ay, ny, cy, ey, -⟩ := id sb
            clear sa sb hg hg'
            generalize bs[i] = x at *
            generalize bs[0] = y at *
            obtain ⟨vx, n1, s1, w1, l1⟩ := x
            obtain ⟨vy, n2, s2, w2, l2⟩ := y
            dsimp only [bEnc] at *
            subst ex ey
            obtain ⟨rb, hrb⟩ : ∃ rb, rb = rightB (S : Int) (L : Int) ⟨n1, s1, w1, l1⟩ := ⟨_, rfl⟩
            obtain ⟨sb, hsb⟩ : ∃ sb, sb = decide ((⟨n1, s1, w1, l1⟩ : Bc) = ⟨n2, s2, w2, l2⟩) := ⟨_, rfl⟩
            unfold RightPost at r1 r2
            unfold SamePost at r3 r4
            rw [← hrb] at r1 r2
            rw [← hsb] at r3 r4
            have R := Lib.hid (And.intro r1 (And.intro r2 (And.intro r3 r4)))
            clear r1 r2 r3 r4 hrb hsb hm5
            have hk0 : 0 ≤ (i : Int) := by omega
            go_upto_region 11 with fail
            go_region_held3 (fun w' => w'.cell? ⟨g, o + i * 4, none⟩ = some (.int .i64 n1) ∧ w'.cell? ⟨g, o + i * 4 + 1, none⟩ = some (.int .i64 s1) ∧ w'.cell? ⟨g, o + i * 4 + 2, none⟩ = some (.int .i64 w1) ∧ w'.cell? ⟨g, o + i * 4 + 3, none⟩ = some (.slice Ax nx cx) ∧ w'.cell? ⟨g, o, none⟩ = some (.int .i64 n2) ∧ w'.cell? ⟨g, o + 1, none⟩ = some (.int .i64 s2) ∧ w'.cell? ⟨g, o + 2, none⟩ = some (.int .i64 w2) ∧ w'.cell? ⟨g, o + 3, none⟩ = some (.slice Ay ny cy))
              (first | (with_reducible (refine ⟨?_, ?_, ?_, ?_, ?_, ?_, ?_, ?_⟩ <;> assumption)) | (with_reducible exact ⟨cell_dr a0, cell_dr a1, cell_dr a2, cell_dr a3, cell_dr b0, cell_dr b1, cell_dr b2, cell_dr b3⟩))
              (first
              | (go_at_call 18; refine (R.out.1 _ (by exact (Frm.refl _ wc).drew)).mono ?_; rintro e w5 ⟨rfl, hF5'⟩; have hF5 : Frm (fun _ => False) wc w5 := (Frm.refl (fun _ => False) wc).drew.trans hF5' fun _ h => h.elim; have d0 := hF5.cell a0 id; have d1 := hF5.cell a1 id; have d2 := hF5.cell a2 id; have d3 := hF5.cell a3 id; have d4 := hF5.cell b0 id; have d5 := hF5.cell b1 id; have d6 := hF5.cell b2 id; have d7 := hF5.cell b3 id; have H5 := Lib.hid hF5; clear hF5 hF5')
              | (go_at_call 19; refine (R.out.2.1 _ (by exact H5.out)).mono ?_; rintro e w6 ⟨rfl, hF6'⟩; have hF6 : Frm (fun _ => False) wc w6 := H5.out.trans hF6' fun _ h => h.elim; have e0 := hF6.cell a0 id; have e1 := hF6.cell a1 id; have e2 := hF6.cell a2 id; have e3 := hF6.cell a3 id; have e4 := hF6.cell b0 id; have e5 := hF6.cell b1 id; have e6 := hF6.cell b2 id; have e7 := hF6.cell b3 id; have H6 := Lib.hid hF6; clear hF6 hF6' d0 d1 d2 d3 d4 d5 d6 d7)
              | (go_at_call 20; refine (R.out.2.2.1 _ (by exact H6.out)).mono ?_; rintro e w7 ⟨rfl, hF7'⟩; have hF7 : Frm (fun _ => False) wc w7 := H6.out.trans hF7' fun _ h => h.elim; have f0 := hF7.cell a0 id; have f1 := hF7.cell a1 id; have f2 := hF7.cell a2 id; have f3 := hF7.cell a3 id; have f4 := hF7.cell b0 id; have f5 := hF7.cell b1 id; have f6 := hF7.cell b2 id; have f7 := hF7.cell b3 id; have H7 := Lib.hid hF7; clear hF7 hF7' e0 e1 e2 e3 e4 e5 e6 e7)
              | (go_at_call 21; refine (R.out.2.2.2 _ (by exact H7.out)).mono ?_; rintro e w8 ⟨rfl, hF8'⟩; have hF8 : Frm (fun _ => False) wc w8 := H7.out.trans hF8' fun _ h => h.elim; have h0 := hF8.cell a0 id; have h1 := hF8.cell a1 id; have h2 := hF8.cell a2 id; have h3 := hF8.cell a3 id; have h4 := hF8.cell b0 id; have h5 := hF8.cell b1 id; have h6 := hF8.cell b2 id; have h7 := hF8.cell b3 id; have H8 := Lib.hid hF8; clear hF8 hF8' f0 f1 f2 f3 f4 f5 f6 f7))
            all_goals
              go_wp2_with fail
              go_meet
              case rel => exact H8.out
      case rest =>
        have HF := Lib.hid (hFc.out.trans hcut.out fun _ h => h.elim)
        have hC5 := HC.out.2.1.keptF (H3b.out.trans hcut.out fun _ h => h.elim)
        have HC5 := Lib.hid (And.intro (Nat.le_trans H2.out.2.2.2.size HC.out.1) hC5)
        clear hFc hcut hC5 HC H1 H2 H3 H3b HO Hm HH
        go_upto_region 16 with fail
        have hFa : Frm (fun _ => False) wc (wc.alloc (.cells #[.int .i64 S, .int .i64 L, .int .i64 F, .slice none 0 0, .int .i64 0, .bool false] 44)) := (Frm.refl _ wc).alloc _
        have hbr := Blk.new wc 44 #[.int .i64 S, .int .i64 L, .int .i64 F, .slice none 0 0, .int .i64 0, .bool false]
        have hz5 : (wc.alloc (.cells #[.int .i64 S, .int .i64 L, .int .i64 F, .slice none 0 0, .int .i64 0, .bool false] 44)).heap.size = wc.heap.size + 1 := by simp
        obtain ⟨b2, hb2⟩ : ∃ b2, b2 = wc.heap.size := ⟨_, rfl⟩
        rw [← hb2] at hbr hz5 ⊢
        generalize wc.alloc (.cells #[.int .i64 S, .int .i64 L, .int .i64 F, .slice none 0 0, .int .i64 0, .bool false] 44) = w5 at *
        have hbb : b < b2 := by rw [hb2]; exact HC5.out.2.lt.1
        have hBo : Both w5 w5 w5.heap.size b b2 S L F [] := by
          have e1 : ([] : List UInt8).length / S = 0 := by simp
          refine ⟨.slice none 0 0, .slice none 0 0, ?_, ?_, fun q h => (by cases h), by omega, Frm.refl _ _⟩
          · rw [e1, show heldN S L [] = [] from by simp [heldN]]
            exact ⟨(HC5.out.2.keptF hFa).1, World.ownsRow_nil _ _ _ _, by omega, Nat.le_refl _⟩
          · rw [e1]
            exact ⟨hbr, World.ownsRow_nil _ _ _ _, by omega, Nat.le_refl _⟩
        have hw5 : w.heap.size ≤ w5.heap.size ∧ w.heap.size ≤ b ∧ w.heap.size ≤ b2 := ⟨by have := HF.out.size; omega, HC5.out.1, by rw [hb2]; exact HF.out.size⟩
        have HB := Lib.hid (And.intro hBo (And.intro hw5 (And.intro (HF.out.trans hFa fun _ h => h.elim) hbb)))
        clear hFa hbr hz5 hb2 hBo hw5 HC5 hbb HF
        have hn4 : n4 = Ls.length ∧ n4 ≤ c4 ∧ c4 ≤ 9223372036854775807 := by
          obtain ⟨A', n', c', e1, h2, h3, h4, -⟩ := H.out.2.1
          cases e1
          exact ⟨by rw [h2, H.out.2.2.1.1], h3, h4⟩
        obtain ⟨hn4, hnc4, hcm4⟩ := hn4
        have Hn4 := Lib.hid hn4
        clear hn4
        go_wp2_with fail
        go_loopw [24] (fun i wr => ∃ k : Nat, k ≤ n4 ∧ i = .int .i64 k ∧ Hid (Both w5 wr w5.heap.size b b2 S L F (Ls.take k).flatten)) (fun i _ => n4 - (intOf i).toNat)
        case atStart => exact ⟨0, Nat.zero_le _, rfl, Lib.hid HB.out.1⟩
        case round =>
          obtain ⟨k, hk, rfl, hT⟩ := hrel
          by_cases hlt : k < n4
          · have hFr : Frm (fun _ => False) w wr := HB.out.2.2.1.trans hT.out.choose_spec.choose_spec.2.2.2.2 fun q hq => .inr (by have := HB.out.2.1; omega)
            obtain ⟨g0, o0, rfl, hg0, hcs⟩ : ∃ g0 o0, A4 = some ⟨g0, o0, none⟩ ∧ g0 < w.heap.size ∧ ∀ i (h : i < vs.length), w.cell? ⟨g0, o0 + i, none⟩ = some vs[i] := by
              obtain ⟨A', n', c', e1, h2, h3, h4, h5⟩ := H.out.2.1
              cases e1
              exact h5.resolve_left (by omega)
            obtain ⟨x, hx⟩ : ∃ x, Ls[k]? = some x := ⟨_, List.getElem?_eq_getElem (by have := Hn4.out; omega)⟩
            have hkv : k < vs.length := by have := H.out.2.2.1.1; have := Hn4.out; omega
            have hsx : Sl w (fun q => q < w.heap.size) vs[k] (bv x) := H.out.2.2.1.2 k _ x (List.getElem?_eq_getElem hkv) hx
            have hcw := hcs k hkv
            generalize vs[k] = vk at *
            obtain ⟨Ak, mk, ck, rfl, -, -⟩ := id hsx
            have hu : (Ls.take (k + 1)).flatten = (Ls.take k).flatten ++ x := by rw [List.take_add_one, hx]; simp
            have hul : ((Ls.take k).flatten ++ x).length ≤ 3000 := by rw [← hu, tot_flat]; have := tot_take_le Ls (k + 1); have := HG.out.2; omega
            have hc0 := hFr.cell hcw id
            have hk0 : 0 ≤ (k : Int) := by omega
            have hfd := both_feed (A := Ak) (m := mk) (c := ck) (x := x) HCc.out hT.out HB.out.2.1.2.1 HB.out.2.1.2.2 HB.out.2.1.1 hFr.size (hsx.kept fun q hq => hFr.block q hq id) (by omega)
            have HK := Lib.hid (And.intro hsx (And.intro hu (And.intro hul (And.intro hcw hFr))))
            clear hcs hg0 hx hkv hsx hu hul hcw hFr
            go_wp2_with fail
            refine hfd.mono ?_
            rintro e w6 ⟨Af, Nf, cf, ys, rfl, hM⟩
            have hCA : CutAt w6 w5.heap.size b S L F ((Ls.take k).flatten ++ x) := ⟨_, hM.choose_spec.choose_spec.2.2.1⟩
            have hpe := pending_eq w5.heap.size b S L F _ w6 HCc.out hCA (by have := HK.out.2.2.1; omega) _ _ rfl rfl
            have HM := Lib.hid hM
            obtain ⟨o1, ho1⟩ : ∃ o1, o1 = ((Ls.take k).flatten ++ x).length - ((Ls.take k).flatten ++ x).length / S * S := ⟨_, rfl⟩
            obtain ⟨q1, hq1⟩ : ∃ q1, q1 = warmN S L (((Ls.take k).flatten ++ x).length / S) := ⟨_, rfl⟩
            rw [← ho1, ← hq1] at hpe
            have HE := Lib.hid (And.intro ho1 hq1)
            clear hfd hM hCA ho1 hq1 hc0
            go_wp2_with fail
            refine hpe.mono ?_
            rintro e w7 ⟨rfl, hF7⟩
            have hM7 := HM.out.keptF hF7
            have hFw7 : Frm (fun _ => False) w w7 := HB.out.2.2.1.trans hM7.choose_spec.choose_spec.2.2.2.2.2.2.2.2.2 fun q hq => .inr (by have := HB.out.2.1; omega)
            have hc7 := hFw7.cell HK.out.2.2.2.1 id
            have hrf := both_rfeed (w := w) (A := Ak) (m := mk) (c := ck) HCc.out hM7 (HK.out.1.kept fun q hq => hFw7.block q hq id) (by have := HK.out.2.2.1; omega)
            clear hpe hF7 HM hM7 hFw7
            go_wp2_with fail
            refine hrf.mono ?_
            rintro e w8 ⟨Ag, Ng, cg, zs, rfl, hyz, hBy, hBz, hBo⟩
            have hrp := rpending_any w5.heap.size b2 S L F _ _ _ w8 HCc.out hBo.choose_spec.choose_spec.2.1 (div_low _ S HCc.out.s1).1 (by have := HK.out.2.2.1; omega) _ _ HE.out.1.symm HE.out.2.symm
            have HG8 := Lib.hid (And.intro hyz (And.intro hBy (And.intro hBz hBo)))
            clear hrf hyz hBy hBz hBo hc7
            go_wp2_with fail
            refine hrp.mono ?_
            rintro e w9 ⟨rfl, hF9⟩
            have hal := all_true (fun q => q < w9.heap.size) Af Ag Nf cf Ng cg ys zs w9 ((HG8.out.2.1.step (X' := fun _ => False) hF9 (fun _ h => h.elim) fun _ h => h.elim).bs.keptTo fun q hq => ⟨rfl, hq.2⟩) ((HG8.out.2.2.1.step (X' := fun _ => False) hF9 (fun _ h => h.elim) fun _ h => h.elim).bs.keptTo fun q hq => ⟨rfl, hq.2⟩) (fun q hq => hq) HG8.out.1
            have HG9 := Lib.hid (HG8.out.2.2.2.keptF hF9)
            clear hrp hF9
            go_wp2_with fail
            refine hal.mono ?_
            rintro e w10 ⟨rfl, hF10⟩
            have HG10 := Lib.hid (HG9.out.keptF hF10)
            clear hal hF10
            go_wp2_with fail
            go_roundw
            case rel => exact ⟨k + 1, by omega, by go_num, Lib.hid (by rw [HK.out.2.1]; exact HG10.out)⟩
            case measure => simp [intOf]; omega
          · obtain rfl : k = n4 := by omega
            have htk : Ls.take k = Ls := List.take_of_length_le (by have := Hn4.out; omega)
            obtain ⟨vc, vr, hCS, hR, hap, hne, hF⟩ := hT.out
            rw [htk] at hCS hR
            have ht9 : Ls.flatten.length ≤ 3000 := by rw [tot_flat]; exact HG.out.2
            have hcl := close_any w5.heap.size b S L F Ls.flatten vc wr HCc.out hCS (by omega)
            have hrc := fun W (hW : Frm (fun q => q = b) wr W) => rclose_any w5.heap.size b2 S L F vr Ls.flatten W HCc.out (hR.kept hW (fun e => hne e.symm) fun q hq e => own_blk_ne hR.2.1 hCS.1 (by decide) (by rw [hq, e])) (by omega)
            have HE := Lib.hid (And.intro hcl (And.intro hrc (And.intro hne (And.intro hF (And.intro hCS.lt.1 hR.lt.1)))))
            clear hT htk hCS hR hap hne hF ht9 hcl hrc
            go_wp2_with fail
            refine HE.out.1.mono ?_
            rintro e w6 ⟨v6, ys, rfl, hys, ho6, hg6, hsh, hF6⟩
            obtain ⟨A6, k6, rfl, hB6⟩ := BsAt.of_own (K := fun q => wr.heap.size ≤ q ∧ q < w6.heap.size) ho6 hg6 fun q h1 h2 => ⟨h1, h2⟩
            have H6 := Lib.hid (And.intro hys (And.intro hB6 (And.intro hsh hF6)))
            clear hys hB6 hsh hF6 ho6 hg6
            obtain ⟨N6, hN6⟩ : ∃ N6, N6 = ys.length := ⟨_, rfl⟩
            rw [← hN6] at H6 ⊢
            clear hN6
            go_wp2_with fail
            refine (HE.out.2.1 w6 H6.out.2.2.2).mono ?_
            rintro e w7 ⟨v7, zs, rfl, hzs, hB7, hF7⟩
            obtain ⟨A7, k7, rfl⟩ := hB7.form
            have hsh7 : ShutAt w7 b S L F := by obtain ⟨n, hb⟩ := H6.out.2.2.1; exact ⟨n, hb.kept hF7 HE.out.2.2.1⟩
            have hal := all_true (fun q => q < w7.heap.size) A6 A7 N6 k6 zs.length k7 ys zs w7 (H6.out.2.1.keptTo fun q hq => ⟨hF7.block q hq.2 (by have := HE.out.2.2.2.2.2; omega), Nat.lt_of_lt_of_le hq.2 hF7.size⟩) (hB7.bs.keptTo fun q hq => ⟨rfl, hq.2⟩) (fun q hq => hq) (H6.out.1.trans hzs.symm)
            have hF27 : Frm (fun q => q = b ∨ q = b2 ∨ w5.heap.size ≤ q) w5 w7 := (HE.out.2.2.2.1.trans H6.out.2.2.2 fun q hq => .inl (.inl hq)).trans hF7 fun q hq => .inl (.inr (.inl hq))
            have hF77 : Frm (fun _ => False) w w7 := HB.out.2.2.1.trans hF27 fun q hq => .inr (by have := HB.out.2.1; omega)
            have H7 := Lib.hid (And.intro hsh7 hF77)
            clear hsh7 hF77 hF27 hB7 hzs hF7
            obtain ⟨N7, hN7⟩ : ∃ N7, N7 = zs.length := ⟨_, rfl⟩
            rw [← hN7] at hal ⊢
            clear hN7
            go_wp2_with fail
            refine hal.mono ?_
            rintro e w8 ⟨rfl, hF8⟩
            have H8 := Lib.hid (And.intro (H7.out.1.keptF hF8) (H7.out.2.trans hF8 fun _ h => h.elim))
            clear hF8 hal
            go_wp2_with fail
            have hsa := H8.out.1.keptF ((Frm.refl (fun _ => False) w8).alloc (.cells #[.slice A3 n3 c3] 22))
            refine (feed_shut b S L F _ 1 1 _ hsa).mono ?_
            rintro e w9 ⟨rfl, rfl⟩
            go_wp2_with fail
            refine (close_shut b S L F _ hsa).mono ?_
            rintro e w9 ⟨rfl, rfl⟩
            clear hsa
            go_wp2_with fail
            refine (wakes_any _).mono ?_
            rintro e w9 ⟨rfl, hF9⟩
            go_wp2_with fail
            go_ret
            exact ⟨rfl, (H8.out.2.alloc _).trans hF9 fun _ h => h.elim⟩
  | false =>
    go_wp2_with fail
    refine (HO.out.1 w (Frm.refl _ w)).mono ?_
    rintro e w1 ⟨A1, N1, k1, ys, rfl, hys, hB1, hF1⟩
    have H1 := Lib.hid (And.intro hys (And.intro hB1 hF1))
    clear hys hB1 hF1
    go_wp2_with fail
    refine (HO.out.2.1 w1 H1.out.2.2).mono ?_
    rintro e w2 ⟨A2, N2, k2, zs, rfl, hzs, hB2, hF2⟩
    have hF12 := H1.out.2.2.trans hF2 fun _ h => h.elim
    have H2 := Lib.hid (And.intro hzs (And.intro hB2 (And.intro (H1.out.2.1.keptTo (K' := fun q => q < w2.heap.size) fun q hq => ⟨hF2.block q hq id, Nat.lt_of_lt_of_le hq hF2.size⟩) hF12)))
    clear hzs hB2 hF2 hF12
    go_wp2_with fail
    refine (HO.out.2.2 w2).mono ?_
    rintro e w3 ⟨P, rfl, hp0, hp1, hF3⟩
    obtain rfl := hp0 rfl
    have hF13 := H2.out.2.2.2.trans hF3 fun _ h => h.elim
    clear hp0 hp1
    have hal := all_true (fun q => q < w3.heap.size) A1 A2 N1 k1 N2 k2 ys zs w3.drew (H2.out.2.2.1.keptTo fun q hq => ⟨hF3.block q hq id, Nat.lt_of_lt_of_le hq hF3.size⟩) (H2.out.2.1.keptTo fun q hq => ⟨hF3.block q hq id, Nat.lt_of_lt_of_le hq hF3.size⟩) (fun q hq => hq) (H1.out.1.trans H2.out.1.symm)
    have H3 := Lib.hid (And.intro hal hF13)
    clear hal hF13 hF3
    go_wp2_with fail
    refine (Hm.out w3).mono ?_
    rintro e w' ⟨rfl, rfl⟩
    go_wp2_with fail
    go_cut [107] (fun t wc => t = .bool false ∧ Hid (Frm (fun _ => False) w3 wc))
    case first => as_aux_lemma =>
      refine plan_begin (by kernel_rfl) 38 (by kernel_rfl) ?_
      refine plan_seq 38 0 10 28 (by kernel_rfl) (by kernel_rfl) (by kernel_rfl) (by intro c d v a w h; cases d <;> exact h) (by kernel_rfl) ?_
      simp only [List.append_eq, List.cons_append, List.nil_append, List.take_succ_cons, List.take_zero, List.drop_succ_cons, List.drop_zero, List.drop_nil, List.take_nil]
      intro K hK
      go_wp2_with fail
      refine H3.out.1.mono ?_
      rintro e w4 ⟨rfl, hF4⟩
      have H4 := Lib.hid ((Frm.refl (fun _ => False) w3).drew.trans hF4 fun _ h => h.elim)
      clear hF4
      go_wp2_with fail
      refine plan_still 38 10 19 9 (by kernel_rfl) (by kernel_rfl) (by kernel_rfl) (by kernel_rfl) (by kernel_rfl) (by kernel_rfl) (by kernel_rfl) (fun Kp hKp => ?_)
      simp only [List.append_eq, List.cons_append, List.nil_append, List.take_succ_cons, List.take_zero, List.drop_succ_cons, List.drop_zero, List.drop_nil, List.take_nil]
      repeat still_step
      refine wpStill_nil ?_
      refine hKp _ ?_
      clear hKp Kp
      refine plan_seq 38 29 2 7 (by kernel_rfl) (by kernel_rfl) (by kernel_rfl) (by intro c d v a w h; cases d <;> exact h) (by kernel_rfl) ?_
      simp only [List.append_eq, List.cons_append, List.nil_append, List.take_succ_cons, List.take_zero, List.drop_succ_cons, List.drop_zero, List.drop_nil, List.take_nil]
      intro K hK
      go_wp2_with fail
      refine plan_move 33 rfl rfl (by kernel_rfl) (by intro c d v a w h; cases d <;> exact h) (by kernel_rfl) (by kernel_rfl) ?_
      intro K hK
      go_wp2_with fail
      have hjl : (joinG (bs.map (·.c))).length ≤ 100000000 := by have := joinG_len bs; have := HH.out.2; omega
      have hbj := gjoin_any (fun q => q < w.heap.size) A5 n5 c5 bs w4 (H.out.2.2.2.1.kept_ (H3.out.2.trans H4.out fun _ h => h.elim)) (fun q hq => Nat.lt_of_lt_of_le hq (H3.out.2.trans H4.out fun _ h => h.elim).size) hjl
      have hrj := fun W (hW : Frm (fun _ => False) w3 W) => rjoin_any (fun q => q < w.heap.size) A5 n5 c5 bs W (H.out.2.2.2.1.kept_ (H3.out.2.trans hW fun _ h => h.elim)) (fun q hq => Nat.lt_of_lt_of_le hq (H3.out.2.trans hW fun _ h => h.elim).size) hjl
      clear hjl
      refine plan_one 31 (by kernel_rfl) rfl ?_
      intro K hK
      go_wp2_with fail
      refine hbj.mono ?_
      rintro e w5 ⟨v5, rfl, ho5, hF5⟩
      obtain ⟨A7, c7, rfl, -, -⟩ := own_form ho5
      have e5 := conv_new ((OSl.of_own (K := fun _ => True) (xs := bv (joinG (bs.map (·.c)))) ho5 (fun _ _ => trivial)).sl)
      have H5 := Lib.hid (And.intro (fun W (hW : Frm (fun _ => False) w5 W) => conv_new ((OSl.of_own (K := fun _ => True) (xs := bv (joinG (bs.map (·.c)))) (hW.own ho5 fun _ _ => id) (fun _ _ => trivial)).sl)) hF5)
      clear ho5 hF5 hbj
      go_wp2_with fail
      refine plan_two 32 34 (by kernel_rfl) rfl rfl ?_ ?_
      · intro K hK
        go_wp2_with fail
        refine plan_one 34 (by kernel_rfl) rfl ?_
        intro K hK
        go_wp2_with fail
        refine (hrj _ (H4.out.trans H5.out.2 fun _ h => h.elim)).mono ?_
        rintro e w6 ⟨v6, rfl, ho6, hF6⟩
        obtain ⟨A6, c6, rfl, -, -⟩ := own_form ho6
        have e6 := conv_new ((OSl.of_own (K := fun _ => True) (xs := bv (joinG (bs.map (·.c)))) ho6 (fun _ _ => trivial)).sl)
        have e7 := H5.out.1 w6 hF6
        have H6 := Lib.hid (And.intro trivial hF6)
        clear ho6 hF6
        go_wp2_with fail
        refine plan_one 35 (by kernel_rfl) rfl ?_
        intro K hK
        go_wp2_with fail
        refine plan_one 36 (by kernel_rfl) rfl ?_
        intro K hK
        go_wp2_with fail
        refine plan_one 37 (by kernel_rfl) rfl ?_
        intro K hK
        go_wp2_with fail
        refine plan_done (by kernel_rfl) ?_
        go_wp2_with fail
        go_meet
        case rel => exact ⟨rfl, Lib.hid ((H4.out.trans H5.out.2 fun _ h => h.elim).trans H6.out.2 fun _ h => h.elim)⟩
      · intro K hK
        go_wp2_with fail
        refine (hrj _ (H4.out.trans H5.out.2 fun _ h => h.elim)).mono ?_
        rintro e w6 ⟨v6, rfl, ho6, hF6⟩
        obtain ⟨A6, c6, rfl, -, -⟩ := own_form ho6
        have e6 := conv_new ((OSl.of_own (K := fun _ => True) (xs := bv (joinG (bs.map (·.c)))) ho6 (fun _ _ => trivial)).sl)
        have e7 := H5.out.1 w6 hF6
        have H6 := Lib.hid (And.intro trivial hF6)
        clear ho6 hF6
        go_wp2_with fail
        refine plan_two 32 35 (by kernel_rfl) rfl rfl ?_ ?_
        · intro K hK
          go_wp2_with fail
          refine plan_one 35 (by kernel_rfl) rfl ?_
          intro K hK
          go_wp2_with fail
          refine plan_one 36 (by kernel_rfl) rfl ?_
          intro K hK
          go_wp2_with fail
          refine plan_one 37 (by kernel_rfl) rfl ?_
          intro K hK
          go_wp2_with fail
          refine plan_done (by kernel_rfl) ?_
          go_wp2_with fail
          go_meet
          case rel => exact ⟨rfl, Lib.hid ((H4.out.trans H5.out.2 fun _ h => h.elim).trans H6.out.2 fun _ h => h.elim)⟩
        · intro K hK
          go_wp2_with fail
          refine plan_one 32 (by kernel_rfl) rfl ?_
          intro K hK
          go_wp2_with fail
          refine plan_one 36 (by kernel_rfl) rfl ?_
          intro K hK
          go_wp2_with fail
          refine plan_one 37 (by kernel_rfl) rfl ?_
          intro K hK
          go_wp2_with fail
          refine plan_done (by kernel_rfl) ?_
          go_wp2_with fail
          go_meet
          case rel => exact ⟨rfl, Lib.hid ((H4.out.trans H5.out.2 fun _ h => h.elim).trans H6.out.2 fun _ h => h.elim)⟩
    case rest =>
      obtain ⟨rfl, hFc⟩ := hcut
      have H3b := Lib.hid hFc.out
      replace hFc : Hid (Frm (fun _ => False) w wc) := Lib.hid (H3.out.2.trans hFc.out fun _ h => h.elim)
      go_upto_if 110 with fail
      go_cut [22] (fun _ wd => Hid (Frm (fun _ => False) wc wd))
      case first => as_aux_lemma =>
        by_cases hz : n5 = 0
        · subst hz
          go_wp2_with fail
          go_meet
          case rel => exact Lib.hid (Frm.refl _ _)
        · have g0 : decide ((0 : Int) < (n5 : Int)) = true := by simp; omega
          have hi : ∃ i : Nat, i < n5 ∧ ((p < 0 ∧ i = 0) ∨ (0 ≤ p ∧ p ≤ (n5 : Int) - 1 ∧ (i : Int) = p) ∨ (0 ≤ p ∧ (n5 : Int) - 1 < p ∧ (i : Int) = (n5 : Int) - 1)) := by
            by_cases h1 : p < 0
            · exact ⟨0, by omega, .inl ⟨h1, rfl⟩⟩
            · by_cases h2 : p ≤ (n5 : Int) - 1
              · exact ⟨p.toNat, by omega, .inr (.inl ⟨by omega, h2, by omega⟩)⟩
              · exact ⟨n5 - 1, by omega, .inr (.inr ⟨by omega, by omega, by omega⟩)⟩
          obtain ⟨i, hi, hcase⟩ := hi
          clear hz
          go_upto_region 10 with fail
          go_cut [22] (fun t wd => wd = wc ∧ t = .int .i64 i)
          case first =>
            rcases hcase with ⟨h1, h2⟩ | ⟨h1, h2, hp⟩ | ⟨h1, h2, hp⟩
            · subst h2
              go_wp2_with fail
              all_goals
                go_meet
                case rel => exact ⟨rfl, congrArg (Value.int .i64) (by omega)⟩
            · subst hp
              go_wp2_with fail
              all_goals
                go_meet
                case rel => exact ⟨rfl, congrArg (Value.int .i64) (by omega)⟩
            · have Hp := Lib.hid hp
              clear hp
              go_wp2_with fail
              all_goals
                go_meet
                case rel => exact ⟨rfl, congrArg (Value.int .i64) (by have := Hp.out; omega)⟩
          case rest =>
            obtain ⟨rfl, rfl⟩ := hcut
            clear hcase
            obtain ⟨hm5, -, -, hx5⟩ := H.out.2.2.2.1.kept_ hFc.out
            obtain ⟨g, o, rfl, hg, a0, a1, a2, a3, sa⟩ := hx5 i (by omega)
            obtain ⟨g', o', e, hg', b0, b1, b2, b3, sb⟩ := hx5 0 (by omega)
            cases e
            simp only [Nat.zero_mul, Nat.add_zero] at b0 b1 b2 b3
            have hK : ∀ W, Frm (fun _ => False) wc W → ∀ v l, Sl wc (fun q => q < w.heap.size) v (bv l) → Sl W (fun q => q < w.heap.size) v (bv l) := fun W hW v l h => h.kept fun q hq => hW.block q (Nat.lt_of_lt_of_le hq hFc.out.size) id
            have r1 := fun W (hW : Frm (fun _ => False) wc W) => bright_gen _ s l bs[i] W (hK W hW _ _ sa)
            have r2 := fun W (hW : Frm (fun _ => False) wc W) => rright_any _ s l bs[i] W (hK W hW _ _ sa)
            have r3 := fun W (hW : Frm (fun _ => False) wc W) => bsame_any _ bs[i] bs[0] W (hK W hW _ _ sa) (hK W hW _ _ sb) (fun q hq => Nat.lt_of_lt_of_le (Nat.lt_of_lt_of_le hq hFc.out.size) hW.size)
            have r4 := fun W (hW : Frm (fun _ => False) wc W) => rsame_any _ bs[i] bs[0] W (hK W hW _ _ sa) (hK W hW _ _ sb) (fun q hq => Nat.lt_of_lt_of_le (Nat.lt_of_lt_of_le hq hFc.out.size) hW.size)
            clear hK hx5
            obtain ⟨Ax, nx, cx, ex, -⟩ := id sa
            obtain ⟨Ay, ny, cy, ey, -⟩ := id sb
            clear sa sb hg hg'
            generalize bs[i] = x at *
            generalize bs[0] = y at *
            obtain ⟨vx, n1, s1, w1, l1⟩ := x
            obtain ⟨vy, n2, s2, w2, l2⟩ := y
            dsimp only [bEnc] at *
            subst ex ey
            obtain ⟨rb, hrb⟩ : ∃ rb, rb = rightB s l ⟨n1, s1, w1, l1⟩ := ⟨_, rfl⟩
            obtain ⟨sb, hsb⟩ : ∃ sb, sb = decide ((⟨n1, s1, w1, l1⟩ : Bc) = ⟨n2, s2, w2, l2⟩) := ⟨_, rfl⟩
            unfold RightPost at r1 r2
            unfold SamePost at r3 r4
            rw [← hrb] at r1 r2
            rw [← hsb] at r3 r4
            have R := Lib.hid (And.intro r1 (And.intro r2 (And.intro r3 r4)))
            clear r1 r2 r3 r4 hrb hsb hm5
            have hk0 : 0 ≤ (i : Int) := by omega
            go_upto_region 11 with fail
            go_region_held3 (fun w' => w'.cell? ⟨g, o + i * 4, none⟩ = some (.int .i64 n1) ∧ w'.cell? ⟨g, o + i * 4 + 1, none⟩ = some (.int .i64 s1) ∧ w'.cell? ⟨g, o + i * 4 + 2, none⟩ = some (.int .i64 w1) ∧ w'.cell? ⟨g, o + i * 4 + 3, none⟩ = some (.slice Ax nx cx) ∧ w'.cell? ⟨g, o, none⟩ = some (.int .i64 n2) ∧ w'.cell? ⟨g, o + 1, none⟩ = some (.int .i64 s2) ∧ w'.cell? ⟨g, o + 2, none⟩ = some (.int .i64 w2) ∧ w'.cell? ⟨g, o + 3, none⟩ = some (.slice Ay ny cy))
              (first | (with_reducible (refine ⟨?_, ?_, ?_, ?_, ?_, ?_, ?_, ?_⟩ <;> assumption)) | (with_reducible exact ⟨cell_dr a0, cell_dr a1, cell_dr a2, cell_dr a3, cell_dr b0, cell_dr b1, cell_dr b2, cell_dr b3⟩))
              (first
              | (go_at_call 18; refine (R.out.1 _ (by exact (Frm.refl _ wc).drew)).mono ?_; rintro e w5 ⟨rfl, hF5'⟩; have hF5 : Frm (fun _ => False) wc w5 := (Frm.refl (fun _ => False) wc).drew.trans hF5' fun _ h => h.elim; have d0 := hF5.cell a0 id; have d1 := hF5.cell a1 id; have d2 := hF5.cell a2 id; have d3 := hF5.cell a3 id; have d4 := hF5.cell b0 id; have d5 := hF5.cell b1 id; have d6 := hF5.cell b2 id; have d7 := hF5.cell b3 id; have H5 := Lib.hid hF5; clear hF5 hF5')
              | (go_at_call 19; refine (R.out.2.1 _ (by exact H5.out)).mono ?_; rintro e w6 ⟨rfl, hF6'⟩; have hF6 : Frm (fun _ => False) wc w6 := H5.out.trans hF6' fun _ h => h.elim; have e0 := hF6.cell a0 id; have e1 := hF6.cell a1 id; have e2 := hF6.cell a2 id; have e3 := hF6.cell a3 id; have e4 := hF6.cell b0 id; have e5 := hF6.cell b1 id; have e6 := hF6.cell b2 id; have e7 := hF6.cell b3 id; have H6 := Lib.hid hF6; clear hF6 hF6' d0 d1 d2 d3 d4 d5 d6 d7)
              | (go_at_call 20; refine (R.out.2.2.1 _ (by exact H6.out)).mono ?_; rintro e w7 ⟨rfl, hF7'⟩; have hF7 : Frm (fun _ => False) wc w7 := H6.out.trans hF7' fun _ h => h.elim; have f0 := hF7.cell a0 id; have f1 := hF7.cell a1 id; have f2 := hF7.cell a2 id; have f3 := hF7.cell a3 id; have f4 := hF7.cell b0 id; have f5 := hF7.cell b1 id; have f6 := hF7.cell b2 id; have f7 := hF7.cell b3 id; have H7 := Lib.hid hF7; clear hF7 hF7' e0 e1 e2 e3 e4 e5 e6 e7)
              | (go_at_call 21; refine (R.out.2.2.2 _ (by exact H7.out)).mono ?_; rintro e w8 ⟨rfl, hF8'⟩; have hF8 : Frm (fun _ => False) wc w8 := H7.out.trans hF8' fun _ h => h.elim; have h0 := hF8.cell a0 id; have h1 := hF8.cell a1 id; have h2 := hF8.cell a2 id; have h3 := hF8.cell a3 id; have h4 := hF8.cell b0 id; have h5 := hF8.cell b1 id; have h6 := hF8.cell b2 id; have h7 := hF8.cell b3 id; have H8 := Lib.hid hF8; clear hF8 hF8' f0 f1 f2 f3 f4 f5 f6 f7))
            all_goals
              go_wp2_with fail
              go_meet
              case rel => exact H8.out
      case rest =>
        have HF := Lib.hid (hFc.out.trans hcut.out fun _ h => h.elim)
        clear hFc hcut
        go_wp2_with fail
        refine (wakes_any _).mono ?_
        rintro e w' ⟨rfl, hF⟩
        go_wp2_with fail
        go_ret
        exact ⟨rfl, HF.out.trans hF fun _ h => h.elim⟩
end Go.Proofs.Ytecpbnkkgdppoaa
