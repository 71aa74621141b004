/- The walks of (*net.work).ready: an iterator over the numbers of the chores that are ready. -/
import Derived.Stop.RegionWithIn
import Derived.Sort.CutIn
import Derived.Deep.DeepCutAuto
import Derived.Test.YtnibllkcacalhaaGE
import Derived.Test.YtnibllkcacalhaaGA
namespace Go.Proofs.Ytnibllkcacalhaa
set_option maxRecDepth 100000
open Go.RowKit Go.Shelf
attribute [local go_sem] Oper.semAt_some
theorem plan_yield_k {P : Program} {md : Region.Mode} {l : List Oper} {Q : Exit → Act → World → Prop} {listed : Array Bool} {a : Act} {w : World} {fuel : Nat} (i k : Nat) {o : Oper} {v : Value} (hi : l.toArray[i]? = some o) (hd : o.dst = some k) (hy : Yields P l.toArray o v a) (hsel : Region.noSelect l.toArray = true) (hQ : ∀ c d v a w, Q (.panic c) (Act.put a d v) w → Q (.panic c) a w) (hf : Region.free md l.toArray listed i = true) (hr : (Region.ready md l.toArray listed).contains i = true)
    (h : wpAny P md l.toArray Q fuel (listed.setIfInBounds i true) (a.put (some k) v) w) : wpAny P md l.toArray Q (fuel + 1) listed a w :=
  plan_yield i hi hy hsel hQ hf hr (by rw [hd]; exact h)
def rdTo (N : Nt) (k : Nat) : List Int := ((List.range k).filter (readyAt N)).map fun i : Nat => (i : Int)
def rdAll (N : Nt) : List Int := (readyNt N).map fun i : Nat => (i : Int)
theorem rdTo_yes {N : Nt} {k : Nat} (h : readyAt N k = true) : rdTo N (k + 1) = rdTo N k ++ [(k : Int)] := by
  unfold rdTo
  rw [List.range_succ, List.filter_append, List.map_append]
  simp [h]
theorem rdTo_no {N : Nt} {k : Nat} (h : readyAt N k = false) : rdTo N (k + 1) = rdTo N k := by
  unfold rdTo
  rw [List.range_succ, List.filter_append, List.map_append]
  simp [h]
theorem rdTo_pre {N : Nt} {m : Nat} : ∀ {k : Nat}, k ≤ m → rdTo N k <+: rdTo N m := by
  induction m with
  | zero => intro k h; obtain rfl : k = 0 := by omega
            exact List.prefix_refl _
  | succ m ih =>
    intro k h
    by_cases hk : k = m + 1
    · subst hk; exact List.prefix_refl _
    · refine (ih (by omega)).trans ?_
      cases hr : readyAt N m with
      | true => rw [rdTo_yes hr]; exact List.prefix_append _ _
      | false => rw [rdTo_no hr]; exact List.prefix_refl _
theorem rdAll_right {N : Nt} (h : rightNt N = true) : rdAll N = rdTo N N.cs.length := by unfold rdAll readyNt rdTo; rw [if_pos h]
theorem rdAll_not {N : Nt} (h : rightNt N = false) : rdAll N = [] := by unfold rdAll readyNt; rw [if_neg (by rw [h]; simp)]; rfl
def LeftPost (N : Nt) (J Jx : List Int → World → Prop) (e : Ending) (W' : World) : Prop := (∃ v, e = .returned v) ∧ ((∃ ys, ys = rdAll N ∧ J ys W') ∨ (∃ pre, pre <+: rdAll N ∧ Jx pre W'))
def CutR (N : Nt) (k : Nat) (n₀ : Nat) (W : World) (J Jx : List Int → World → Prop) (t : Bool) (wc : World) : Prop :=
  (t = false → J (rdTo N (k + 1)) wc ∧ Below n₀ W wc) ∧ (t = true → Jx (rdTo N (k + 1)) wc)
theorem yield_either {A B : Prop} {e : Ending} (h : (e = .returned (.bool true) ∧ A) ∨ (e = .returned (.bool false) ∧ B)) : ∃ yb : Bool, e = .returned (.bool yb) ∧ Hid ((yb = true → A) ∧ (yb = false → B)) := by
  rcases h with ⟨h1, h2⟩ | ⟨h1, h2⟩
  · exact ⟨true, h1, Lib.hid ⟨fun _ => h2, (fun h => by cases h)⟩⟩
  · exact ⟨false, h1, Lib.hid ⟨(fun h => by cases h), fun _ => h2⟩⟩
set_option maxRecDepth 100000 in
set_option maxHeartbeats 4000000 in
theorem ready1_in (m : Nat) (hm : 1 ≤ m) (l Bc n₀ b : Nat) (N : Nt) (J Jx : List Int → World → Prop) (hJ : ∀ s A A', J s A → Frm (fun _ => False) A A' → J s A')
    (hY : ∀ pre x W, J pre W → pre ++ [x] <+: rdAll N → YieldAt Fence.wide (m - 1) Try.prog l #[iv x] W fun e W' =>
      (e = .returned (.bool true) ∧ J (pre ++ [x]) W' ∧ Below n₀ W W') ∨ (e = .returned (.bool false) ∧ Jx (pre ++ [x]) W'))
    (W : World) (hBc : W.cell? ⟨Bc, 0, none⟩ = some (.pointer (some ⟨b, 0, none⟩))) (hR : Rd W b 66 (fun q => q < n₀) N) (hlt : Bc < n₀ ∧ b < n₀ ∧ n₀ ≤ W.heap.size) (h0 : J [] W) :
    CallsIn Fence.wide m Try.prog 55 #[.func (.yield l) #[] #[], .pointer (some ⟨Bc, 0, none⟩)] W (LeftPost N J Jx) := by
  obtain ⟨hl1, hl2, hl3⟩ := hlt
  obtain ⟨A1, n1, c1, A, n, c, ps, cks, hb, hp, hc, hps, hcs⟩ := hR
  obtain ⟨N1, N2⟩ := N
  dsimp only at hps hcs
  subst hps hcs
  obtain ⟨hn, hnc, hcm, hx⟩ := hc.cells
  have hnm : n ≤ 9223372036854775807 := by omega
  clear hnc hcm
  have hrt := right_w b A1 n1 c1 A n c ps cks W hb (hp.keptTo fun q hq => ⟨rfl, Nat.lt_of_lt_of_le hq hl3⟩) (hc.keptTo fun q hq => ⟨rfl, Nat.lt_of_lt_of_le hq hl3⟩)
  have H := Lib.hid (And.intro hn (And.intro hx (And.intro hc.2 (And.intro hb (And.intro hp (And.intro hJ (And.intro hY (And.intro h0 (And.intro hrt hl3)))))))))
  obtain ⟨N, hN⟩ : ∃ N : Nt, N = ⟨ps.map (·.p), cks.map (·.c)⟩ := ⟨_, rfl⟩
  have hNcs : N.cs.length = n := by rw [hN, List.length_map, hn]
  rw [← hN] at H hrt hY ⊢
  have HN := Lib.hid (And.intro hN hNcs)
  have HJ := Lib.hid hJ
  have HY := Lib.hid hY
  clear hn hx hc hb hp hJ hY h0 hrt hl3 hN hNcs
  refine callsIn_of_wp Try.func55 rfl trivial ?_ rfl
  simp only [Try.ntmps55, List.size_toArray, List.length_cons, List.length_nil, Nat.reduceAdd, Nat.reduceSub, Array.replicate_succ, Array.replicate_zero, List.push_toArray, List.append_toArray, List.nil_append, List.cons_append]
  gi_wp2_with fail
  refine ⟨trivial, ?_⟩
  refine (callsIn_wide.2 H.out.2.2.2.2.2.2.2.2.1).mono ?_
  rintro e w1 ⟨rfl, hF1⟩
  have hbc1 : w1.cell? ⟨Bc, 0, none⟩ = some (.pointer (some ⟨b, 0, none⟩)) := hF1.cell hBc id
  have hb1 := H.out.2.2.2.1.kept hF1 id
  have b1 : w1.cell? ⟨b, 1, none⟩ = some (.slice A n c) := hb1.cell 1
  have HF1 := Lib.hid (And.intro hF1 hb1)
  clear hF1 hb1
  cases hR : rightNt N with
  | false =>
    have HR := Lib.hid (rdAll_not hR)
    clear hR
    gi_wp2_with fail
    refine bodyPost_ret (results_none rfl _ _ _) rfl ?_
    exact ⟨⟨_, rfl⟩, .inl ⟨_, rfl, by rw [HR.out]; exact H.out.2.2.2.2.2.1 _ _ _ H.out.2.2.2.2.2.2.2.1 HF1.out.1⟩⟩
  | true =>
    have HR := Lib.hid (rdAll_right hR)
    clear hR
    gi_wp2_with fail
    gi_loopw [14] (fun i wr => ∃ k : Nat, k ≤ n ∧ i = .int .i64 k ∧ Hid (J (rdTo N k) wr ∧ Below n₀ W wr)) (fun i _ => n - (intOf i).toNat)
    case atStart => exact ⟨0, Nat.zero_le _, rfl, Lib.hid ⟨H.out.2.2.2.2.2.1 [] _ _ H.out.2.2.2.2.2.2.2.1 HF1.out.1, HF1.out.1.below H.out.2.2.2.2.2.2.2.2.2 (fun _ h => h.elim)⟩⟩
    case round =>
      obtain ⟨k, hk, rfl, hT⟩ := hrel
      by_cases hlt : k < n
      · have HKn : Hid (k + 1 ≤ n) := Lib.hid hlt
        obtain ⟨hJk, hB⟩ := hT.out
        obtain ⟨hn, hx, hrow, -, hp, hJ, hY, -, -, hl3⟩ := H.out
        have hkx : k < cks.length := by omega
        obtain ⟨g, o, rfl, hg, d0, d1, d2, d3⟩ := hx k hkx
        have hra := hrow cks[k] (List.getElem_mem hkx)
        obtain ⟨A5, n5, c5, e5, hn5, -⟩ := id hra
        rw [e5] at d0 hra
        replace d0 := (hB.cell (p := ⟨g, o + k * 4, none⟩) hg).trans d0
        replace d1 := (hB.cell (p := ⟨g, o + k * 4 + 1, none⟩) hg).trans d1
        replace d2 := (hB.cell (p := ⟨g, o + k * 4 + 2, none⟩) hg).trans d2
        replace d3 := (hB.cell (p := ⟨g, o + k * 4 + 3, none⟩) hg).trans d3
        have hat : readyAt N k = readyB cks[k].c (ps.map (·.p)) := by
          rw [HN.out.1]
          unfold readyAt
          simp only [List.getElem?_map, List.getElem?_eq_getElem hkx, Option.map_some]
        have hbr : wr.heap[b]? = some (.cells #[.slice A1 n1 c1, .slice (some ⟨g, o, none⟩) n c] 66 (0, 0)) := (hB.block b hl2).trans H.out.2.2.2.1
        have x0 : wr.cell? ⟨Bc, 0, none⟩ = some (.pointer (some ⟨b, 0, none⟩)) := (hB.cell (p := ⟨Bc, 0, none⟩) hl1).trans hBc
        have hrd := fun (W' : World) (hF : Frm (fun _ => False) wr W') => ready_any A5 n5 c5 cks[k].c.at_ cks[k].c.sum cks[k].c.wrong cks[k].c.row (A1 := A1) (n1 := n1) (c1 := c1) (ps := ps) (w := W') (hra.keptTo fun q hq => ⟨(hF.block q (Nat.lt_of_lt_of_le hq (Nat.le_trans hl3 hB.size)) id).trans (hB.block q hq), Nat.lt_of_lt_of_le hq (Nat.le_trans hl3 (Nat.le_trans hB.size hF.size))⟩) (hp.keptTo fun q hq => ⟨(hF.block q (Nat.lt_of_lt_of_le hq (Nat.le_trans hl3 hB.size)) id).trans (hB.block q hq), Nat.lt_of_lt_of_le hq (Nat.le_trans hl3 (Nat.le_trans hB.size hF.size))⟩)
        have HS := Lib.hid (And.intro hJk (And.intro hB (And.intro hat (And.intro hrd (And.intro hbr hl3)))))
        clear hJk hB hn hx hrow hp hJ hY hg hra e5 hn5 hat hrd hbr hl3 hT b1 hbc1
        generalize hck : cks[k].c = ck at *
        clear hck hkx
        obtain ⟨es, a, s, r⟩ := ck
        dsimp only at *
        gi_upto_region 4 with fail
        have hFa : Frm (fun _ => False) wr (wr.alloc (.cells #[.slice A5 n5 c5, .int .i64 a, .int .u32 s, .int .i64 r] 46)) := (Frm.refl _ wr).alloc _
        have hba := Blk.new wr 46 #[.slice A5 n5 c5, .int .i64 a, .int .u32 s, .int .i64 r]
        obtain ⟨G, hG⟩ : ∃ G, G = wr.heap.size := ⟨_, rfl⟩
        rw [← hG] at hba ⊢
        have hb6 : Blk (wr.alloc (.cells #[.slice A5 n5 c5, .int .i64 a, .int .u32 s, .int .i64 r] 46)) b 66 #[.slice A1 n1 c1, .slice (some ⟨g, o, none⟩) n c] := (show Blk wr b _ _ from HS.out.2.2.2.2.1).kept hFa id
        replace x0 := hFa.cell x0 id
        generalize wr.alloc (.cells #[.slice A5 n5 c5, .int .i64 a, .int .u32 s, .int .i64 r] 46) = w6 at *
        clear hG d0 d1 d2 d3
        have y0 : w6.cell? ⟨G, 0, none⟩ = some (.slice A5 n5 c5) := hba.cell 0
        have y1 : w6.cell? ⟨G, 1, none⟩ = some (.int .i64 a) := hba.cell 1
        have y2 : w6.cell? ⟨G, 2, none⟩ = some (.int .u32 s) := hba.cell 2
        have y3 : w6.cell? ⟨G, 3, none⟩ = some (.int .i64 r) := hba.cell 3
        have z0 : w6.cell? ⟨b, 0, none⟩ = some (.slice A1 n1 c1) := hb6.cell 0
        have H6 := Lib.hid hFa
        clear hFa hba hb6
        gi_cut [31] from 15 (fun t wc => ∃ tb, t = .bool tb ∧ Hid (CutR N k n₀ W J Jx tb wc))
        case first =>
          cases hrb : readyB ⟨es, a, s, r⟩ (ps.map (·.p)) with
          | false =>
            have Hrb := Lib.hid hrb
            have Hno := Lib.hid (rdTo_no (N := N) (k := k) (by rw [HS.out.2.2.1, hrb]))
            clear hrb
            refine wpIn_wide.2 ?_
            refine wp_region_of (by kernel_rfl) 13 (by kernel_rfl) _ (by rfl) ?_
            refine plan_still 13 0 6 7 (by kernel_rfl) (by kernel_rfl) (by kernel_rfl) (by kernel_rfl) (by kernel_rfl) (by kernel_rfl) (by kernel_rfl) (fun Kp hKp => ?_)
            simp only [List.append_eq, List.cons_append, List.nil_append, List.take_succ_cons, List.take_zero, List.drop_succ_cons, List.drop_zero, List.drop_nil, List.take_nil]
            repeat still_step
            refine wpStill_nil ?_
            refine hKp _ ?_
            clear hKp Kp
            refine plan_one 6 (by kernel_rfl) rfl ?_
            intro K hK
            go_wp2_with fail
            refine (HS.out.2.2.2.1 _ (H6.out.trans (Frm.refl (fun _ => False) w6).drew fun _ h => h.elim)).mono ?_
            rintro e w2 ⟨rfl, hF2⟩
            rw [Hrb.out]
            have HF2 := Lib.hid (H6.out.trans ((Frm.refl (fun _ => False) w6).drew.trans hF2 fun _ h => h.elim) fun _ h => h.elim)
            clear hF2 x0 y0 y1 y2 y3 z0
            go_wp2_with fail
            refine plan_one 7 (by kernel_rfl) rfl ?_
            intro K hK
            go_wp2_with fail
            refine plan_yield_k 8 27 (v := undef) rfl (by kernel_rfl) (Or.inr ⟨by kernel_rfl, rfl⟩) (by kernel_rfl) (by intro c d v a w h; cases d <;> exact h) (by kernel_rfl) (by kernel_rfl) ?_
            simp only [Act.put, List.setIfInBounds_toArray, List.set_cons_zero, List.set_cons_succ]
            refine plan_yield_k 9 28 (v := undef) rfl (by kernel_rfl) (Or.inr ⟨by kernel_rfl, rfl⟩) (by kernel_rfl) (by intro c d v a w h; cases d <;> exact h) (by kernel_rfl) (by kernel_rfl) ?_
            simp only [Act.put, List.setIfInBounds_toArray, List.set_cons_zero, List.set_cons_succ]
            refine plan_yield_k 10 29 (v := undef) rfl (by kernel_rfl) (Or.inr ⟨by kernel_rfl, rfl⟩) (by kernel_rfl) (by intro c d v a w h; cases d <;> exact h) (by kernel_rfl) (by kernel_rfl) ?_
            simp only [Act.put, List.setIfInBounds_toArray, List.set_cons_zero, List.set_cons_succ]
            refine plan_yield_k 11 30 (v := undef) rfl (by kernel_rfl) (Or.inr ⟨by kernel_rfl, rfl⟩) (by kernel_rfl) (by intro c d v a w h; cases d <;> exact h) (by kernel_rfl) (by kernel_rfl) ?_
            simp only [Act.put, List.setIfInBounds_toArray, List.set_cons_zero, List.set_cons_succ]
            refine plan_one 12 (by kernel_rfl) rfl ?_
            intro K hK
            go_wp2_with fail
            refine plan_done (by kernel_rfl) ?_
            gi_wp2_with fail
            gi_meet
            case rel => exact ⟨false, rfl, Lib.hid ⟨fun _ => ⟨by rw [Hno.out]; exact HJ.out _ _ _ HS.out.1 HF2.out, HS.out.2.1.trans (HF2.out.below (Nat.le_trans HS.out.2.2.2.2.2 HS.out.2.1.size) fun _ h => h.elim)⟩, (fun h => by cases h)⟩⟩
          | true =>
            have Hrb := Lib.hid hrb
            have Hyes := Lib.hid (rdTo_yes (N := N) (k := k) (by rw [HS.out.2.2.1, hrb]))
            clear hrb
            gi_region_with (first
              | (refine ⟨trivial, ?_⟩; refine (callsIn_wide.2 (HS.out.2.2.2.1 _ (H6.out.trans (Frm.refl (fun _ => False) w6).drew fun _ h => h.elim))).mono ?_; rintro e w2 ⟨rfl, hF2⟩; rw [Hrb.out]; have hF3 := H6.out.trans ((Frm.refl (fun _ => False) w6).drew.trans hF2 fun _ h => h.elim) fun _ h => h.elim; have hY3 := HY.out _ (k : Int) w2 (HJ.out _ _ _ HS.out.1 hF3) (by
                  have h1 := rdTo_pre (N := N) (show k + 1 ≤ N.cs.length by rw [HN.out.2]; omega)
                  rw [Hyes.out] at h1
                  rw [HR.out]
                  exact h1); simp only [iv] at hY3; obtain ⟨fn, tmps, assign, body, hy, hRd⟩ := hY3; have HRd := Lib.hid (And.intro hF3 (hRd.mono fun e W' hh => yield_either hh)); clear hRd hF3 hF2)
              | (refine HRd.out.2.mono ?_; rintro e w4 ⟨yb, rfl, hyb⟩))
            all_goals
              gi_wp2_with fail
              gi_meet
              case rel => exact ⟨!yb, rfl, Lib.hid ⟨fun h => by
                obtain ⟨h1, h2⟩ := hyb.out.1 (by simpa using h)
                exact ⟨by rw [Hyes.out]; exact h1, HS.out.2.1.trans ((HRd.out.1.below (Nat.le_trans HS.out.2.2.2.2.2 HS.out.2.1.size) fun _ h => h.elim).trans h2)⟩, fun h => by
                rw [Hyes.out]
                exact hyb.out.2 (by simpa using h)⟩⟩
        case rest =>
          obtain ⟨tb, rfl, hC⟩ := hcut
          have hkn := HKn.out
          clear x0 y0 y1 y2 y3 z0
          cases tb with
          | false =>
            gi_wp2_with fail
            go_roundw
            case rel => exact ⟨k + 1, HKn.out, by go_num, Lib.hid (hC.out.1 rfl)⟩
            case measure => have := HKn.out; simp [intOf]; omega
          | true =>
            gi_wp2_with fail
            refine bodyPost_ret (results_none rfl _ _ _) rfl ?_
            exact ⟨⟨_, rfl⟩, .inr ⟨_, by rw [HR.out]; exact rdTo_pre (by rw [HN.out.2]; exact HKn.out), hC.out.2 rfl⟩⟩
      · obtain rfl : k = n := by omega
        gi_wp2_with fail
        go_end0
        exact ⟨⟨_, rfl⟩, .inl ⟨_, rfl, by rw [HR.out, HN.out.2]; exact hT.out.1⟩⟩
end Go.Proofs.Ytnibllkcacalhaa
