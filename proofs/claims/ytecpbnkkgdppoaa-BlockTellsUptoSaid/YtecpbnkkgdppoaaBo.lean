/- The blocks of a text: the iterator. -/
import Derived.Test.YtecpbnkkgdppoaaWb
import Derived.Stop.RegionWithIn
import Derived.Sort.CutIn
import Derived.Deep.DeepCutAuto
namespace Go.Proofs.Ytecpbnkkgdppoaa
open Go.RowKit Go.Shelf
attribute [local go_sem] Oper.semAt_some
def kGood (B : Nat) (x : Bk) (W : World) : Prop := W.ownsRow B 5 1 x.v x.c.data.length (bv x.c.data)
theorem kGood_stays (B n₀ : Nat) : Stays n₀ 5 (kGood B) := fun _ _ _ h k => KpW.own k h
theorem run_cut {P : Program} {t e sz : Nat} (ht : P.underlying t = some (.slice e)) (hz : ∀ w, (sizeOf e).run P w = .ok sz w) (A : Option Addr) (len cap : Nat) (l h : Int) (h0 : 0 ≤ l) (h1 : l ≤ h) (h2 : h ≤ cap) (w : World) :
    (Instr.slice t (.slice A len cap) (some (.int .i64 l)) (some (.int .i64 h)) none).run P w = .ok (.slice (if cap = l.toNat then A else A.map (·.add (l.toNat * sz))) (h.toNat - l.toNat) (cap - l.toNat)) w := by
  have he : P.elem t = e := by simp [Program.elem, ht]
  rw [run_slice_lh w t A len cap (by rw [he]; exact ht) .i64 .i64 l h h0 h1 h2, he, hz]
  simp [Result.andThen, sliced]
theorem Sl.cut {w : World} {K : Nat → Prop} {A : Option Addr} {n c : Nat} {xs : List Value} (h : Sl w K (.slice A n c) xs) (l e : Nat) (hl : l ≤ e) (he : e ≤ n) : Sl w K (.slice (if c = l then A else A.map (·.add (l * 1))) (e - l) (c - l)) ((xs.take e).drop l) := by
  have h1 : Sl w K (.slice A e c) (xs.take e) := by
    obtain ⟨A', n', c', he2, hn, hc, hm, hx⟩ := h
    cases he2
    refine ⟨_, _, _, rfl, by simp; omega, by omega, by omega, ?_⟩
    by_cases h0 : e = 0
    · exact .inl h0
    · obtain ⟨g, o, rfl, hK, hx⟩ := hx.resolve_left (by omega)
      exact .inr ⟨g, o, rfl, hK, fun i hi => by simp at hi; rw [hx i (by omega)]; simp⟩
  have h2 := h1.drop l hl
  rw [Nat.mul_one]
  exact h2
theorem sizeU (w : World) : (sizeOf 5).run Try.prog w = .ok 1 w := by kernel_rfl
theorem bv_cut (t : List UInt8) (l e : Nat) : ((bv t).take e).drop l = bv ((t.take e).drop l) := by simp [bv, List.map_take, List.map_drop]
set_option maxRecDepth 100000 in
set_option maxHeartbeats 4000000 in
theorem blocks1_in (n : Nat) (hn : 3 ≤ n) (l Bc Bt n₀ S L F : Nat) (t : List UInt8) (A : Option Addr) (m c : Nat) (J : List Bk → World → Prop) (hC : Cut S L F) (ht : t.length ≤ 1000000000)
    (hJ : ∀ pre X Y, J pre X → Frm (fun _ => False) X Y → J pre Y)
    (hY : ∀ pre x W1, J pre W1 → kGood n₀ x W1 → pre.length < numN S t → YieldAt Fence.wide (n - 1) Try.prog l #[bEnc x] W1 fun e W' => e = .returned (.bool true) ∧ J (pre ++ [x]) W' ∧ KpW n₀ 5 W1 W')
    (W : World) (hBc : Blk W Bc 56 #[.int .i64 S, .int .i64 L, .int .i64 F]) (hBt : W.cell? ⟨Bt, 0, none⟩ = some (.slice A m c)) (hsl : Sl W (fun q => q < n₀) (.slice A m c) (bv t))
    (hlt : Bc < n₀ ∧ Bt < n₀ ∧ n₀ ≤ W.heap.size) (h0 : J [] W) :
    CallsIn Fence.wide n Try.prog 40 #[.func (.yield l) #[] #[], .pointer (some ⟨Bc, 0, none⟩), .pointer (some ⟨Bt, 0, none⟩)] W fun e W' => (∃ v, e = .returned v) ∧
      ∃ ys, ys.map (·.c) = blocksN S L F t ∧ J ys W' := by
  have hmt : m = t.length := by obtain ⟨A', m', c', e, e1, -⟩ := hsl; cases e; simpa using e1
  have hmc : m ≤ c ∧ c ≤ 9223372036854775807 := by obtain ⟨A', m', c', e, -, e1, e2, -⟩ := hsl; cases e; exact ⟨e1, e2⟩
  obtain ⟨hmc, hcm⟩ := hmc
  have hm9 : m ≤ 1000000000 := by omega
  refine callsIn_of_wp Try.func40 rfl trivial ?_ rfl
  simp only [Try.ntmps40, List.size_toArray, List.length_cons, List.length_nil, Nat.reduceAdd, Nat.reduceSub, Array.replicate_succ, Array.replicate_zero, List.push_toArray, List.append_toArray, List.nil_append, List.cons_append]
  have HL := Lib.hid (And.intro hmt (And.intro hC (And.intro hlt (And.intro hBc (And.intro hBt hsl)))))
  have HT : Hid (∃ pre, J pre W ∧ pre.map (·.c) = (List.range 0).map (blkN S L F t) ∧ pre.length = 0 ∧ Frm (fun q => n₀ ≤ q) W W) := Lib.hid ⟨[], h0, rfl, rfl, Frm.refl _ _⟩
  obtain ⟨hS1, hS2, -, -, -⟩ := id hC
  have HY := Lib.hid (And.intro hJ hY)
  clear h0 hsl hBc hBt hlt hmt ht hC hJ hY
  gi_wp2
  gi_loopw [4] (fun i wr => ∃ k : Nat, k ≤ numN S t ∧ i = .int .i64 k ∧ Hid (∃ pre, J pre wr ∧ pre.map (·.c) = (List.range k).map (blkN S L F t) ∧ pre.length = k ∧ Frm (fun q => n₀ ≤ q) W wr)) (fun i _ => numN S t - (intOf i).toNat)
  case atStart => exact ⟨0, Nat.zero_le _, rfl, HT⟩
  case round =>
    clear HT
    obtain ⟨k, hk, rfl, hT⟩ := hrel
    obtain ⟨pre, hJp, hpm, hpl, hF⟩ := hT.out
    obtain ⟨hmt, hC, hlt, hBc, hBt, hsl⟩ := HL.out
    have hbc := hBc.kept hF (by omega)
    have c0 : wr.cell? ⟨Bc, 0, none⟩ = some (.int .i64 S) := hbc.cell 0
    have c1 : wr.cell? ⟨Bc, 1, none⟩ = some (.int .i64 L) := hbc.cell 1
    have c2 : wr.cell? ⟨Bc, 2, none⟩ = some (.int .i64 F) := hbc.cell 2
    have c3 := hF.cell hBt (by show ¬ (n₀ ≤ Bt); omega)
    have hkm : k * S ≤ m + 256 := by
      rcases Nat.eq_zero_or_pos k with h | h
      · subst h; omega
      · have := (num_bnd S t hC.s1 (k - 1)).1 (by omega)
        have e : k * S = (k - 1) * S + S := by rw [← Nat.succ_mul]; congr 1; omega
        omega
    have hmul : IntKind.i64.wrap ((k : Int) * (S : Int)) = ((k * S : Nat) : Int) := by rw [Int.natCast_mul]; exact IntWalk.i64_in _ (by rw [← Int.natCast_mul]; omega)
    have hbd := num_bnd S t hC.s1 k
    have hkk : k ≤ m := by
      rcases Nat.eq_zero_or_pos k with h | h
      · omega
      · have h1 := (num_bnd S t hC.s1 (k - 1)).1 (by omega)
        have h2 : k - 1 ≤ (k - 1) * S := Nat.le_mul_of_pos_right _ (by omega)
        omega
    obtain ⟨P, hP⟩ : ∃ P, P = k * S := ⟨_, rfl⟩
    rw [← hP] at hmul hbd hkm
    by_cases hlt2 : P < m
    · have hw := fun w => warm_any S L F k w ⟨hC.l1, hC.l2⟩ (by omega)
      have hwl := warm_le S L k
      obtain ⟨Wm, hWm⟩ : ∃ Wm, Wm = warmN S L k := ⟨_, rfl⟩
      rw [← hWm] at hwl
      rw [← hWm] at hw
      obtain ⟨E, hE⟩ : ∃ E, E = min (P + S) m := ⟨_, rfl⟩
      have hPW : Wm ≤ P := by omega
      have hdat : dataN S L t k = (t.take E).drop (P - Wm) := by
        unfold dataN
        rw [← hWm, ← hP, hE, Nat.add_mul, Nat.one_mul, ← hP]
        by_cases h : P + S ≤ m
        · rw [Nat.min_eq_left h]
        · rw [Nat.min_eq_right (by omega), List.take_of_length_le (by omega), List.take_of_length_le (by omega)]
      have hslr : Sl wr (fun q => q < n₀) (.slice A m c) (bv t) := hsl.kept fun q hq => hF.block q (by omega) (by show ¬ n₀ ≤ q; omega)
      have hcut := run_cut (P := Try.prog) (t := 22) Try.underlying22 sizeU A m c ((P : Int) - (Wm : Int)) (E : Int) (by omega) (by omega) (by omega)
      have e1 : ((P : Int) - (Wm : Int)).toNat = P - Wm := by omega
      rw [e1, Int.toNat_natCast] at hcut
      have hslc := hslr.cut (P - Wm) E (by omega) (by omega)
      rw [bv_cut, ← hdat] at hslc
      have hsub : IntKind.i64.wrap ((P : Int) - (Wm : Int)) = (P : Int) - (Wm : Int) := IntWalk.i64_in _ (by omega)
      have hEl : E ≤ t.length := by omega
      have hdl : (dataN S L t k).length = E - (P - Wm) := by rw [hdat, List.length_drop, List.length_take]; omega
      generalize (if c = P - Wm then A else A.map fun x => x.add ((P - Wm) * 1)) = A2 at *
      have hstep : ∀ v, (pre ++ [(⟨v, blkN S L F t k⟩ : Bk)]).map (·.c) = (List.range (k + 1)).map (blkN S L F t) := fun v => by rw [List.map_append, hpm, List.range_succ, List.map_append]; rfl
      obtain ⟨Q, hQ⟩ : ∃ Q, Q = P - Wm := ⟨_, rfl⟩
      rw [← hQ] at hcut hslc hdl
      have hblk : ∀ w2, Frm (fun _ => False) wr w2 → Calls Try.prog 38 #[.agg #[.int .i64 S, .int .i64 L, .int .i64 F], .int .i64 k, .slice A2 (E - Q) (c - Q)] w2 (BlkPost S L F k (dataN S L t k) w2) := fun w2 h2 =>
        block_any (fun q => q < n₀) S L F k _ _ w2 hC (by omega) (hslc.kept fun q hq => h2.block q (by have := hF.size; omega) id) (by omega) (fun q hq => by have := hF.size; have := h2.size; omega)
      have hcl : E - Q ≤ c - Q := by omega
      have hkn : k < numN S t := hbd.2 (by omega)
      have HN : Hid (k + 1 ≤ numN S t) := Lib.hid hkn
      have HR := Lib.hid (And.intro hJp (And.intro hstep (And.intro hpl (And.intro hF (And.intro hslc hblk)))))
      have Hw := Lib.hid hw
      have Hc := Lib.hid hcut
      have HE := Lib.hid (And.intro hE (And.intro hP (And.intro hWm (And.intro hdl (And.intro hQ hkn)))))
      have hcase : (P + S ≤ m ∧ E = P + S) ∨ (m < P + S ∧ E = m) := by omega
      have hPm : P ≤ 1000000000 := by omega
      have hk9 : k ≤ 1000000000 := by omega
      clear hpm hJp hpl hF hslc hblk hw hcut hE hP hWm hdl hQ hkn hbd hwl hdat hslr hstep hmt hC hlt hBc hBt hsl hbc e1 hEl hT hkm hkk
      gi_upto_region 4 with fail
      gi_cut [6] from 20 (fun t wc => wc = wr ∧ t = .int .i64 E)
      case first =>
        rcases hcase with ⟨hpm2, hE2⟩ | ⟨hpm2, hE2⟩
        · have hES : (P : Int) + (S : Int) = (E : Int) := by omega
          clear hE2
          gi_wp2_with fail
          gi_meet
          case rel => exact ⟨rfl, rfl⟩
        · have hES : (m : Int) = (E : Int) := by omega
          gi_wp2_with fail
          gi_meet
          case rel => exact ⟨rfl, rfl⟩
      case rest =>
        obtain ⟨rfl, rfl⟩ := hcut
        clear hcase
        gi_upto_region 5 with fail
        gi_cut [40] from 20 (fun u w5 => u = .bool false ∧ Hid (∃ pre2, J pre2 w5 ∧ pre2.map (·.c) = (List.range (k + 1)).map (blkN S L F t) ∧ pre2.length = k + 1 ∧ Frm (fun q => n₀ ≤ q) W w5))
        case first =>
          gi_region_with (first
            | (refine ⟨trivial, fun _ => by omega, ?_⟩; gi_at_call 34; refine (callsIn_wide.2 (Hw.out _)).mono ?_; rintro e w2 ⟨rfl, hF2⟩; have d0 := hF2.cell c0 id; have d1 := hF2.cell c1 id; have d2 := hF2.cell c2 id; have d3 := hF2.cell c3 id; have hcw := Hc.out w2)
            | (refine ⟨trivial, fun _ => by omega, ?_⟩; gi_at_call 38; refine (callsIn_wide.2 (HR.out.2.2.2.2.2 _ (((Frm.refl (fun _ => False) wc).drew).trans hF2 fun _ h => h.elim))).mono ?_; rintro e w3 ⟨v3, rfl, ho3, hF3⟩; have hFF := (((Frm.refl (fun _ => False) wc).drew).trans hF2 fun _ h => h.elim).trans hF3 fun _ h => h.elim; have hY3 := HY.out.2 pre ⟨v3, blkN S L F t k⟩ w3 (HY.out.1 _ _ _ HR.out.1 hFF) (World.ownsRow.mono ho3 (by have := HR.out.2.2.2.1.size; have := (((Frm.refl (fun _ => False) wc).drew).trans hF2 fun _ h => h.elim).size; have := HL.out.2.2.1.2.2; omega)) (by rw [HR.out.2.2.1]; exact HE.out.2.2.2.2.2); obtain ⟨A3, c3', rfl, -, -⟩ := own_form ho3; simp only [bEnc, blkN] at hY3; obtain ⟨fn, tmps, assign, body, hy, hRd⟩ := hY3; have HRd := Lib.hid hRd; have HFF := Lib.hid hFF; clear hRd hFF ho3)
            | (refine ⟨fun _ => by omega, HRd.out.mono ?_⟩; rintro e w4 ⟨rfl, hJ4, hk4⟩; have HX4 := Lib.hid (And.intro hJ4 hk4); clear hJ4 hk4))
          all_goals
            gi_wp2_with fail
            gi_meet
            case rel => exact ⟨rfl, Lib.hid ⟨_, HX4.out.1, HR.out.2.1 _, by simp [HR.out.2.2.1], (HR.out.2.2.2.1.trans HFF.out fun _ h => h.elim).trans HX4.out.2 fun q hq => .inl hq.1⟩⟩
        case rest =>
          obtain ⟨rfl, hrel⟩ := hcut
          gi_wp2_with fail
          go_roundw
          case rel => exact ⟨k + 1, HN.out, by go_num, hrel⟩
          case measure => have := HN.out; simp [intOf]; omega
    · have hke : k = numN S t := by
        rcases Nat.lt_or_ge k (numN S t) with h | h
        · exact absurd (hbd.1 h) (by omega)
        · omega
      have HK := Lib.hid (And.intro hke hT)
      clear hke hT hJp hpm hpl hF hbd hkk hkm hP hbc hmt hC hlt hBc hBt hsl
      gi_wp2_with fail
      go_end0
      obtain ⟨hke, hT⟩ := HK.out
      obtain ⟨pre, h1, h2, -, -⟩ := hT.out
      exact ⟨⟨_, rfl⟩, pre, by rw [h2, hke]; rfl, h1⟩
end Go.Proofs.Ytecpbnkkgdppoaa
