/- All the same blocks? -/
import Derived.Test.YtecpbnkkgdppoaaSam
namespace Go.Proofs.Ytecpbnkkgdppoaa
open Go.RowKit
/-- A slice of blocks, in blocks of K. -/
def BsAt (w : World) (K : Nat → Prop) (A : Option Addr) (m c : Nat) (bs : List Bk) : Prop :=
  m = bs.length ∧ m ≤ c ∧ c ≤ 9223372036854775807 ∧ ∀ i (h : i < bs.length), ∃ g o, A = some ⟨g, o, none⟩ ∧ K g ∧ w.cell? ⟨g, o + i * 4, none⟩ = some (.int .i64 bs[i].c.num) ∧ w.cell? ⟨g, o + i * 4 + 1, none⟩ = some (.int .i64 bs[i].c.start) ∧
    w.cell? ⟨g, o + i * 4 + 2, none⟩ = some (.int .i64 bs[i].c.warm) ∧ w.cell? ⟨g, o + i * 4 + 3, none⟩ = some bs[i].v ∧ Sl w K bs[i].v (bv bs[i].c.data)
theorem BsAt.keptTo {w w' : World} {K K' : Nat → Prop} {A : Option Addr} {m c : Nat} {bs : List Bk} (h : BsAt w K A m c bs) (hf : ∀ q, K q → w'.heap[q]? = w.heap[q]? ∧ K' q) : BsAt w' K' A m c bs := by
  obtain ⟨h1, h2, h3, h4⟩ := h
  refine ⟨h1, h2, h3, fun i hi => ?_⟩
  obtain ⟨g, o, e, hg, d0, d1, d2, d3, hs⟩ := h4 i hi
  have hk : ∀ j v, w.cell? ⟨g, j, none⟩ = some v → w'.cell? ⟨g, j, none⟩ = some v := fun j v hv => (World.cell?_of_block (w := w) (hf g hg).1).trans hv
  exact ⟨g, o, e, (hf g hg).2, hk _ _ d0, hk _ _ d1, hk _ _ d2, hk _ _ d3, hs.keptTo hf⟩
theorem BsAt.nil (w : World) (K : Nat → Prop) : BsAt w K none 0 0 [] := ⟨rfl, Nat.le_refl _, by omega, fun _ h => by cases h⟩
theorem cells_bk (ys : List Bk) (i : Nat) (h : i < ys.length) : (WB.cellsOf ys)[i * 4]? = some (.int .i64 ys[i].c.num) ∧ (WB.cellsOf ys)[i * 4 + 1]? = some (.int .i64 ys[i].c.start) ∧ (WB.cellsOf ys)[i * 4 + 2]? = some (.int .i64 ys[i].c.warm) ∧ (WB.cellsOf ys)[i * 4 + 3]? = some ys[i].v := by
  induction ys generalizing i with
  | nil => simp at h
  | cons y ys ih =>
    cases i with
    | zero => exact ⟨rfl, rfl, rfl, rfl⟩
    | succ i =>
      have := ih i (by simpa using h)
      have e : WB.cellsOf (y :: ys) = .int .i64 y.c.num :: .int .i64 y.c.start :: .int .i64 y.c.warm :: y.v :: WB.cellsOf ys := rfl
      rw [e, show (i + 1) * 4 = i * 4 + 4 from by omega]
      simpa using this
theorem cellsb_len (ys : List Bk) : (WB.cellsOf ys).length = ys.length * 4 := by
  induction ys with
  | nil => rfl
  | cons y ys ih =>
    have e : WB.cellsOf (y :: ys) = .int .i64 y.c.num :: .int .i64 y.c.start :: .int .i64 y.c.warm :: y.v :: WB.cellsOf ys := rfl
    rw [e]; simp only [List.length_cons, ih]; omega
theorem BsAt.of_own {w : World} {base : Nat} {v : Value} {ys : List Bk} {K : Nat → Prop} (ho : w.ownsRow base 40 4 v ys.length (WB.cellsOf ys)) (hg : ∀ y ∈ ys, kGood base y w) (hK : ∀ q, base ≤ q → q < w.heap.size → K q) :
    ∃ A c, v = .slice A ys.length c ∧ BsAt w K A ys.length c ys := by
  obtain ⟨A, c, rfl, hc, hm⟩ := own_form ho
  refine ⟨A, c, rfl, rfl, hc, hm, fun i hi => ?_⟩
  have hl := cellsb_len ys
  obtain ⟨h0, h1, h2, h3⟩ := cells_bk ys i hi
  obtain ⟨g, rfl, c0⟩ := own_at ho (i * 4) (by omega)
  obtain ⟨g', e, c1⟩ := own_at ho (i * 4 + 1) (by omega)
  cases e
  obtain ⟨g', e, c2⟩ := own_at ho (i * 4 + 2) (by omega)
  cases e
  obtain ⟨g', e, c3⟩ := own_at ho (i * 4 + 3) (by omega)
  cases e
  rw [← List.getElem?_eq_getElem, h0] at c0
  rw [← List.getElem?_eq_getElem, h1] at c1
  rw [← List.getElem?_eq_getElem, h2] at c2
  rw [← List.getElem?_eq_getElem, h3] at c3
  have hy := hg _ (List.getElem_mem hi)
  have hlt := World.ownsRow.lt ho g rfl
  exact ⟨g, 0, rfl, hK g hlt.1 hlt.2, by simpa using c0, by simpa using c1, by simpa using c2, by simpa using c3, (OSl.of_own hy (K := K) fun q hq => hK q (World.ownsRow.lt hy q hq).1 (World.ownsRow.lt hy q hq).2).sl.mono fun q hq => hq.1⟩
def AllPost (xs ys : List Bk) (w : World) (e : Ending) (w' : World) : Prop := e = .returned (.bool (decide (xs.map (·.c) = ys.map (·.c)))) ∧ Frm (fun _ => False) w w'
set_option maxHeartbeats 1600000 in
theorem all_any (K : Nat → Prop) (A A' : Option Addr) (m c m' c' : Nat) (xs ys : List Bk) (w : World) (hx : BsAt w K A m c xs) (hy : BsAt w K A' m' c' ys) (hK : ∀ q, K q → q < w.heap.size) :
    Calls Try.prog 15 #[.slice A m c, .slice A' m' c'] w (AllPost xs ys w) := by
  obtain ⟨hm, hmc, hcm, hxx⟩ := id hx
  obtain ⟨hm', hmc', hcm', hyy⟩ := id hy
  have H := Lib.hid (And.intro hx (And.intro hy (And.intro hK (And.intro hm hm'))))
  clear hx hy hK hm hm' hxx hyy
  by_cases hmm : m = m'
  · subst hmm
    go_enter Try.func15, Try.ntmps15
    go_wp2_with fail
    go_loopw [5] (fun i wr => ∃ k : Nat, k ≤ m ∧ i = .int .i64 k ∧ Hid ((xs.map (·.c)).take k = (ys.map (·.c)).take k ∧ Frm (fun _ => False) w wr)) (fun i _ => m - (intOf i).toNat)
    case atStart => exact ⟨0, Nat.zero_le _, rfl, Lib.hid ⟨rfl, Frm.refl _ _⟩⟩
    case round =>
      obtain ⟨k, hk, rfl, hT⟩ := hrel
      by_cases hlt : k < m
      · obtain ⟨hx, hy, hK, hm, hm'⟩ := H.out
        have hkx : k < xs.length := by omega
        have hky : k < ys.length := by omega
        have hF := hT.out.2
        obtain ⟨g1, o1, rfl, hg1, a0, a1, a2, a3, sa⟩ := hx.2.2.2 k hkx
        obtain ⟨g2, o2, rfl, hg2, b0, b1, b2, b3, sb⟩ := hy.2.2.2 k hky
        replace a0 := hF.cell a0 id
        replace a1 := hF.cell a1 id
        replace a2 := hF.cell a2 id
        replace a3 := hF.cell a3 id
        replace b0 := hF.cell b0 id
        replace b1 := hF.cell b1 id
        replace b2 := hF.cell b2 id
        replace b3 := hF.cell b3 id
        have hk0 : 0 ≤ (k : Int) := by omega
        have hsame := rsame_any K xs[k] ys[k] wr.drew (sa.kept fun q hq => hF.block q (hK q hq) id) (sb.kept fun q hq => hF.block q (hK q hq) id) (fun q hq => Nat.lt_of_lt_of_le (hK q hq) hF.size)
        have hstep : ∀ (l : List Bk) (h : k < l.length), (l.map (·.c)).take (k + 1) = (l.map (·.c)).take k ++ [l[k].c] := fun l h => by rw [List.take_succ_eq_append_getElem (by simpa using h)]; simp
        have h1 := hstep xs hkx
        have h2 := hstep ys hky
        obtain ⟨A5, n5, c5, e5, -⟩ := id sa
        obtain ⟨A6, n6, c6, e6, -⟩ := id sb
        obtain ⟨x, hxk⟩ : ∃ x, x = xs[k] := ⟨_, rfl⟩
        obtain ⟨y, hyk⟩ : ∃ y, y = ys[k] := ⟨_, rfl⟩
        rw [← hxk] at a0 a1 a2 a3 hsame h1 e5
        rw [← hyk] at b0 b1 b2 b3 hsame h2 e6
        obtain ⟨vx, n1, s1, w1, l1⟩ := x
        obtain ⟨vy, n2, s2, w2, l2⟩ := y
        dsimp only [bEnc] at *
        subst e5 e6
        have H2 := Lib.hid (And.intro h1 h2)
        have HS := Lib.hid hsame
        obtain ⟨r, hr⟩ : ∃ r : Bool, r = decide ((⟨n1, s1, w1, l1⟩ : Bc) = ⟨n2, s2, w2, l2⟩) := ⟨_, rfl⟩
        unfold SamePost at HS
        rw [← hr] at HS
        have HR := Lib.hid hr
        clear hsame h1 h2 hstep hxk hyk hr sa sb hkx hky hx hy hK hm hm' hg1 hg2 hF
        go_upto_region 6 with fail
        go_region_held3 (fun w' => w'.cell? ⟨g1, o1 + k * 4, none⟩ = some (.int .i64 n1) ∧ w'.cell? ⟨g1, o1 + k * 4 + 1, none⟩ = some (.int .i64 s1) ∧ w'.cell? ⟨g1, o1 + k * 4 + 2, none⟩ = some (.int .i64 w1) ∧ w'.cell? ⟨g1, o1 + k * 4 + 3, none⟩ = some (.slice A5 n5 c5) ∧
            w'.cell? ⟨g2, o2 + k * 4, none⟩ = some (.int .i64 n2) ∧ w'.cell? ⟨g2, o2 + k * 4 + 1, none⟩ = some (.int .i64 s2) ∧ w'.cell? ⟨g2, o2 + k * 4 + 2, none⟩ = some (.int .i64 w2) ∧ w'.cell? ⟨g2, o2 + k * 4 + 3, none⟩ = some (.slice A6 n6 c6))
          (first | exact ⟨a0, a1, a2, a3, b0, b1, b2, b3⟩ | exact ⟨d0, d1, d2, d3, d4, d5, d6, d7⟩)
          ((go_at_call 21; refine HS.out.mono ?_; rintro e w7 ⟨rfl, hF7⟩; have d0 := hF7.cell a0 id; have d1 := hF7.cell a1 id; have d2 := hF7.cell a2 id; have d3 := hF7.cell a3 id; have d4 := hF7.cell b0 id; have d5 := hF7.cell b1 id; have d6 := hF7.cell b2 id; have d7 := hF7.cell b3 id))
        have HF7 := Lib.hid ((hT.out.2.drew).trans hF7 fun _ h => h.elim)
        clear hF7 a0 a1 a2 a3 b0 b1 b2 b3 d0 d1 d2 d3 d4 d5 d6 d7
        cases r with
        | true =>
          go_wp2_with fail
          go_roundw
          case rel => exact ⟨k + 1, by omega, by go_num, Lib.hid ⟨by rw [H2.out.1, H2.out.2, hT.out.1, of_decide_eq_true HR.out.symm], HF7.out⟩⟩
          case measure => simp [intOf]; omega
        | false =>
          go_wp2_with fail
          go_ret
          refine ⟨ret_bool (Eq.symm ?_), HF7.out⟩
          rw [decide_eq_false_iff_not]
          intro he
          have h3 := H2.out.1.symm.trans ((congrArg (List.take (k + 1)) he).trans H2.out.2)
          have h4 := List.append_inj_right' h3 rfl
          exact of_decide_eq_false HR.out.symm (by simpa using h4)
      · obtain rfl : k = m := by omega
        go_wp2_with fail
        go_ret
        refine ⟨ret_bool (Eq.symm ?_), hT.out.2⟩
        rw [decide_eq_true_iff]
        have h1 := hT.out.1
        obtain ⟨-, -, -, hm, hm'⟩ := H.out
        rwa [List.take_of_length_le (by simp; omega), List.take_of_length_le (by simp; omega)] at h1
  · have hne : ((m : Int) != (m' : Int)) = true := by simp; omega
    have hno : Hid (decide (xs.map (·.c) = ys.map (·.c)) = false) := Lib.hid (by
      rw [decide_eq_false_iff_not]
      intro he
      have := congrArg List.length he
      obtain ⟨-, -, -, hm, hm'⟩ := H.out
      simp at this
      omega)
    clear hmm
    go_enter Try.func15, Try.ntmps15
    go_wp2_with fail
    go_ret
    exact ⟨ret_bool hno.out.symm, Frm.refl _ _⟩
end Go.Proofs.Ytecpbnkkgdppoaa
