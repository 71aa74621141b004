/- The walk of ChoreGoes. -/
import Derived.Test.YtbfcpapehfdphaaGp
import Derived.Test.YtbfcpapehfdphaaTells
namespace Go.Proofs.Ytbfcpapehfdphaa
open Go.RowKit
theorem sizePi (w : World) : (sizeOf 46).run Try.prog w = .ok 3 w := by kernel_rfl
/-- One pipe alone. -/
theorem sub_one {w : World} {K : Nat → Prop} {A : Option Addr} {n c i : Nat} {ps : List Pk} (h : PAt w K (.slice A n c) ps) (hi : i < ps.length) : ∃ g o, A = some ⟨g, o, none⟩ ∧ (¬ c = i ∧ (i : Int) + 1 ≤ (c : Int)) ∧ PAt w K (.slice (some ⟨g, o + i * 3, none⟩) 1 (c - i)) [ps[i]] := by
  obtain ⟨hn, hnc, hcm, hc⟩ := h.cells
  obtain ⟨g, o, rfl, hg, d0, d1, d2⟩ := hc i hi
  refine ⟨g, o, rfl, ⟨by omega, by omega⟩, ⟨some ⟨g, o + i * 3, none⟩, 1, c - i, rfl, rfl, by omega, by omega, .inr ⟨g, o + i * 3, rfl, hg, fun j hj => ?_⟩⟩, fun p hp => ?_⟩
  · have hj3 : j < 3 := by simpa [pCells] using hj
    have e : ([ps[i]].flatMap pCells)[j]? = (pCells ps[i])[j]? := by simp
    rw [← List.getElem?_eq_getElem, e]
    rcases (by omega : j = 0 ∨ j = 1 ∨ j = 2) with rfl | rfl | rfl
    · exact d0
    · exact d1
    · exact d2
  · simp at hp
    subst hp
    exact h.2 _ (List.getElem_mem hi)
theorem yields_slice {P : Program} {ops : Array Oper} {o : Oper} {a : Act} {v vx vl vh : Value} {t : TypeId} {x lo hi : Operand} {dst : Option Tmp} {ty : TypeId} {pos : String} {after : Array Edge} {guard : Option (Nat × Bool)} (ho : o = { dst := dst, op := .slice t x (some lo) (some hi) none, type := ty, pos := pos, after := after, guard := guard }) (hw : Region.wanted o (yielded ops a.tmps) = true)
    (hx : a.eval x = vx) (hl : a.eval lo = vl) (hh : a.eval hi = vh) (h : ∀ w, (Instr.sliceAt t vx (some vl) (some vh) none).run P w = .ok v w) : Yields P ops o v a := by
  subst ho hx hl hh
  exact .inl ⟨hw, fun w => by simp [execOp, h]⟩
theorem sub_run {g o n c i : Nat} (h : ¬ c = i) (h' : (i : Int) + 1 ≤ (c : Int)) (W : World) : (Instr.sliceAt 26 (.slice (some ⟨g, o, none⟩) n c) (some (.int .i64 i)) (some (.int .i64 ((i : Int) + 1))) none).run Try.prog W = .ok (.slice (some ⟨g, o + i * 3, none⟩) 1 (c - i)) W := by
  have he : Try.prog.elem 26 = 46 := by simp [Program.elem, Try.underlying26]
  have hu : Try.prog.underlying 26 = some (.slice (Try.prog.elem 26)) := by rw [he]; exact Try.underlying26
  have e1 : ((i : Int) + 1).toNat = i + 1 := by omega
  have e2 : (⟨g, o, none⟩ : Addr).add (i * 3) = ⟨g, o + i * 3, none⟩ := by
    unfold Addr.add; split
    · rename_i h0; rw [h0]; rfl
    · rfl
  rw [run_sliceAt_slice W 26 _ _ _ _ hu, run_slice_lh W 26 (some ⟨g, o, none⟩) n c hu .i64 .i64 (i : Int) ((i : Int) + 1) (by omega) (by omega) (by omega), he, sizePi]
  simp [Result.andThen, sliced, e1, e2, h]
theorem plan_yield_k {P : Program} {md : Region.Mode} {l : List Oper} {Q : Exit → Act → World → Prop} {listed : Array Bool} {a : Act} {w : World} {fuel : Nat} (i k : Nat) {o : Oper} {v : Value} (hi : l.toArray[i]? = some o) (hd : o.dst = some k) (hy : Yields P l.toArray o v a) (hsel : Region.noSelect l.toArray = true) (hQ : ∀ c d v a w, Q (.panic c) (Act.put a d v) w → Q (.panic c) a w) (hf : Region.free md l.toArray listed i = true) (hr : (Region.ready md l.toArray listed).contains i = true)
    (h : wpAny P md l.toArray Q fuel (listed.setIfInBounds i true) (a.put (some k) v) w) : wpAny P md l.toArray Q (fuel + 1) listed a w :=
  plan_yield i hi hy hsel hQ hf hr (by rw [hd]; exact h)
set_option maxRecDepth 100000 in
set_option maxHeartbeats 6400000 in
theorem goes_law (A : Option Addr) (n c : Nat) (a s r : Int) (es : List Er) (A1 : Option Addr) (n1 c1 : Nat) (ps : List Pk) (w : World) (h : RAt w (fun q => q < w.heap.size) (.slice A n c) es) (h1 : PAt w (fun q => q < w.heap.size) (.slice A1 n1 c1) ps) :
    Calls Try.prog 4 #[.agg #[.slice A n c, .int .i64 a, .int .u32 s, .int .i64 r], .slice A1 n1 c1] w (TrueF w) := by
  obtain ⟨hes, -, -, hcs⟩ := h.cells
  obtain ⟨hps, -, -, hpc⟩ := h1.cells
  obtain ⟨gc, hgc⟩ : ∃ g, g = w.heap.size := ⟨_, rfl⟩
  obtain ⟨W0, hW0⟩ : ∃ W, W = w.alloc (.cells #[.slice A n c, .int .i64 a, .int .u32 s, .int .i64 r] 25) := ⟨_, rfl⟩
  obtain ⟨hF0, hk0, -, -, -, -⟩ := chore_box w W0 gc A n c a s r hgc hW0
  have hfr : ∀ W, Frm (fun _ => False) W0 W → Frm (fun _ => False) w W := fun W hW => hF0.trans hW fun _ h => h.elim
  have hR : ∀ W, Frm (fun _ => False) W0 W → RAt W (fun q => q < W.heap.size) (.slice A n c) es := fun W hW => h.keptTo fun q hq => ⟨(hfr W hW).block q hq id, Nat.lt_of_lt_of_le hq (hfr W hW).size⟩
  have hP : ∀ W, Frm (fun _ => False) W0 W → PAt W (fun q => q < W.heap.size) (.slice A1 n1 c1) ps := fun W hW => h1.keptTo fun q hq => ⟨(hfr W hW).block q hq id, Nat.lt_of_lt_of_le hq (hfr W hW).size⟩
  have hcell : ∀ W, Frm (fun _ => False) W0 W → W.cell? ⟨gc, 0, none⟩ = some (.slice A n c) ∧ W.cell? ⟨gc, 1, none⟩ = some (.int .i64 a) ∧ W.cell? ⟨gc, 2, none⟩ = some (.int .u32 s) ∧ W.cell? ⟨gc, 3, none⟩ = some (.int .i64 r) := fun W hW => by
    have hk := hk0.kept hW id
    exact ⟨hk.cell 0, hk.cell 1, hk.cell 2, hk.cell 3⟩
  have H := Lib.hid (And.intro hR (And.intro hP (And.intro hcell (And.intro hfr (And.intro (And.intro hes hcs) (And.intro (And.intro hps hpc) h1.2))))))
  clear h h1 hcs hpc hF0 hk0 hfr hR hP hcell hes hps
  go_enter Try.func4, Try.ntmps4
  go_upto_region 1 with fail
  rw [← hgc, ← hW0]
  clear hgc hW0
  obtain ⟨x0, x1, x2, x3⟩ := H.out.2.2.1 W0 (Frm.refl _ _)
  go_wp2_with fail
  refine (great_any A n c a s r A1 n1 c1 ps W0 (H.out.2.1 W0 (Frm.refl _ _))).mono ?_
  rintro e w1 ⟨g, rfl, hF1, hgr⟩
  cases g with
  | true =>
    have HF := Lib.hid hF1
    clear hF1 x0 x1 x2 x3 hgr
    go_wp2_with fail
    refine (wakes_any w1).mono ?_
    rintro e w2 ⟨rfl, hF2⟩
    have HF2 := Lib.hid (H.out.2.2.2.1 _ (HF.out.trans hF2 fun _ h => h.elim))
    clear hF2
    go_wp2_with fail
    go_ret
    exact ⟨by rfl, HF2.out⟩
  | false =>
    obtain ⟨g80, g12, g30⟩ := hgr rfl
    have HG := Lib.hid (And.intro hF1 (And.intro g80 (And.intro g12 g30)))
    clear hF1 hgr g80 g12 g30 x0 x1 x2 x3
    have hrp := rpipes_any A1 n1 c1 ps w1 (H.out.2.1 w1 HG.out.1) (by have := HG.out.2.2.1; have := H.out.2.2.2.2.2.1.1; omega)
    have HQ := Lib.hid hrp
    clear hrp
    go_wp2_with fail
    refine HQ.out.mono ?_
    rintro e w2 ⟨rfl, hF2⟩
    have HF2 := Lib.hid (HG.out.1.trans hF2 fun _ h => h.elim)
    clear hF2 HQ
    cases hB : pipesB (ps.map (·.p)) with
    | false =>
      clear hB
      go_wp2_with fail
      refine (wakes_any w2).mono ?_
      rintro e w3 ⟨rfl, hF3⟩
      have HF3 := Lib.hid (H.out.2.2.2.1 _ (HF2.out.trans hF3 fun _ h => h.elim))
      clear hF3
      go_wp2_with fail
      go_ret
      exact ⟨by rfl, HF3.out⟩
    | true =>
      have HB := Lib.hid hB
      clear hB
      obtain ⟨x0, x1, x2, x3⟩ := H.out.2.2.1 w2 HF2.out
      go_wp2_with fail
      refine (rright_any A n c a s r (n1 : Int) es w2 (H.out.1 w2 HF2.out)).mono ?_
      rintro e w3 ⟨rfl, hF3⟩
      have HF3 := Lib.hid (HF2.out.trans hF3 fun _ h => h.elim)
      clear hF3 x0 x1 x2 x3
      cases hR : rightB (n1 : Int) ⟨es, a, s, r⟩ with
      | false =>
        clear hR
        go_wp2_with fail
        refine (wakes_any w3).mono ?_
        rintro e w4 ⟨rfl, hF4⟩
        have HF4 := Lib.hid (H.out.2.2.2.1 _ (HF3.out.trans hF4 fun _ h => h.elim))
        clear hF4
        go_wp2_with fail
        go_ret
        exact ⟨by rfl, HF4.out⟩
      | true =>
        have HR := Lib.hid hR
        clear hR
        obtain ⟨x0, x1, x2, x3⟩ := H.out.2.2.1 w3 HF3.out
        by_cases hw64 : r = 64
        · have hb64 : (r == 64) = true := by simpa using hw64
          clear hw64
          go_wp2_with fail
          refine (wakes_any w3).mono ?_
          rintro e wk ⟨rfl, hFk⟩
          have HFk := Lib.hid (H.out.2.2.2.1 _ (HF3.out.tr hFk))
          clear hFk
          go_wp2_with fail
          go_ret
          exact ⟨by rfl, HFk.out⟩
        · have hb64 : (r == 64) = false := by simpa using hw64
          have hn80 : n ≤ 1000000 := by have := HG.out.2.1; omega
          have hn12 : n1 ≤ 1000 := by have := HG.out.2.2.1; have := H.out.2.2.2.2.2.1.1; omega
          have hin : ∀ p ∈ ps, p.p.ins.length ≤ 1000000 := fun p hp => by have := HG.out.2.2.2 p hp; omega
          have hst := step_any A n c a s r es A1 n1 c1 ps w3 (H.out.1 w3 HF3.out) (H.out.2.1 w3 HF3.out) hn80 hn12 hin
          have HS := Lib.hid (And.intro hst (And.intro hw64 (And.intro (show n1 ≤ 12 by have := HG.out.2.2.1; have := H.out.2.2.2.2.2.1.1; omega) hn80)))
          clear hst hn80 hn12 hin hw64
          go_wp2_with fail
          refine HS.out.1.mono ?_
          rintro e w4 ⟨Ar, nr, cr, Ap, np, cp, ps', c', b, rfl, ⟨hb, hst⟩, hR4, hP4, hF4⟩
          have H4 := Lib.hid (And.intro hb (And.intro hst (And.intro hR4 (And.intro hP4 (And.intro hF4 (HF3.out.tr hF4))))))
          clear hb hst hR4 hP4 hF4 x0 x1 x2 x3 hb64
          go_upto_region 4 with fail
          obtain ⟨gA, hgA⟩ : ∃ g, g = w4.heap.size := ⟨_, rfl⟩
          have hFa : Frm (fun _ => False) w4 (w4.alloc (.cells #[.slice Ar nr cr, .int .i64 c'.at_, .int .u32 c'.sum, .int .i64 c'.wrong] 25)) := (Frm.refl _ w4).alloc _
          have hba := Blk.new w4 25 #[.slice Ar nr cr, .int .i64 c'.at_, .int .u32 c'.sum, .int .i64 c'.wrong]
          rw [← hgA] at hba ⊢
          have H6 := Lib.hid (And.intro hba (And.intro hFa (H4.out.2.2.2.2.2.tr hFa)))
          have HgA := Lib.hid hgA
          clear hFa hba hgA
          generalize w4.alloc (.cells #[.slice Ar nr cr, .int .i64 c'.at_, .int .u32 c'.sum, .int .i64 c'.wrong] 25) = w6 at *
          have f0 : ∀ W, Frm (fun _ => False) w6 W → Frm (fun _ => False) W0 W := fun W hW => H6.out.2.2.tr hW
          have rO : ∀ W, Frm (fun _ => False) w6 W → RAt W (fun q => q < W.heap.size) (.slice Ar nr cr) c'.row := fun W hW => H4.out.2.2.1.keptTo fun q hq => ⟨(H6.out.2.1.tr hW).block q hq.2 id, Nat.lt_of_lt_of_le hq.2 (H6.out.2.1.tr hW).size⟩
          have pM : ∀ W, Frm (fun _ => False) w6 W → PAt W (fun q => q < W.heap.size) (.slice Ap np cp) ps' := fun W hW => H4.out.2.2.2.1.keptTo fun q hq => ⟨(H6.out.2.1.tr hW).block q hq.2 id, Nat.lt_of_lt_of_le hq.2 (H6.out.2.1.tr hW).size⟩
          have bA : ∀ W, Frm (fun _ => False) w6 W → B4 W gA (.slice Ar nr cr) c'.at_ c'.sum c'.wrong := fun W hW => B4.of H6.out.1 hW
          have hnp : np = ps'.length := (pM w6 (Frm.refl _ _)).cells.1
          have HO := Lib.hid (And.intro f0 (And.intro rO (And.intro pM (And.intro bA hnp))))
          have HRd : Hid (∀ W, Frm (fun _ => False) w6 W → Calls Try.prog 12 #[.agg #[.slice A n c, .int .i64 a, .int .u32 s, .int .i64 r], .slice A1 n1 c1] W (RetB b W)) := Lib.hid fun W hW => retB (ready_any A n c a s r es A1 n1 c1 ps W (H.out.1 W (f0 W hW)) (H.out.2.1 W (f0 W hW))) H4.out.1.symm
          clear f0 rO pM bA hnp HF3 HF2
          obtain ⟨x0, x1, x2, x3⟩ := H.out.2.2.1 w6 (HO.out.1 _ (Frm.refl _ _))
          cases b with
          | false =>
            have hst := H4.out.2.1
            unfold stepN at hst
            rw [if_neg (by rw [← H4.out.1]; simp)] at hst
            obtain ⟨rfl, hpp⟩ : c' = ⟨es, a, s, r⟩ ∧ ps'.map (·.p) = ps.map (·.p) := by
              injection hst with e1 e2
              exact ⟨e1, e2⟩
            have hlen : ((np : Int) != (n1 : Int)) = false := by
              have h1 := congrArg List.length hpp
              simp at h1
              have := HO.out.2.2.2.2
              have := H.out.2.2.2.2.2.1.1
              simp
              omega
            have HP := Lib.hid hpp
            clear hpp hst
            go_wp2_with fail
            refine (HRd.out _ (Frm.refl _ _)).mono ?_
            rintro e w7 ⟨rfl, hF7⟩
            have HF7 := Lib.hid hF7
            clear hF7 x0 x1 x2 x3
            obtain ⟨x0, x1, x2, x3⟩ := H.out.2.2.1 w7 (HO.out.1 _ HF7.out)
            obtain ⟨y0, y1, y2, y3⟩ := HO.out.2.2.2.1 w7 HF7.out
            go_wp2_with fail
            refine (retB (b' := true) (rsame_any (fun q => q < w7.heap.size) Ar nr cr a s r es A n c a s r es w7 (HO.out.2.1 w7 HF7.out) (H.out.1 w7 (HO.out.1 _ HF7.out)) fun _ h => h) (decide_eq_true rfl)).mono ?_
            rintro e w8 ⟨rfl, hF8⟩
            have HF8 := Lib.hid (HF7.out.tr hF8)
            clear hF8 x0 x1 x2 x3 y0 y1 y2 y3
            go_wp2_with fail
            refine (retB (b' := true) (ralike_any (fun q => q < w8.heap.size) Ap np cp A1 n1 c1 ps' ps w8 (HO.out.2.2.1 w8 HF8.out) (H.out.2.1 w8 (HO.out.1 _ HF8.out)) fun _ h => h) (decide_eq_true HP.out)).mono ?_
            rintro e w9 ⟨rfl, hF9⟩
            have HF9 := Lib.hid (HO.out.1 _ (HF8.out.tr hF9))
            clear hF9
            go_wp2_with fail
            refine (wakes_any w9).mono ?_
            rintro e wk ⟨rfl, hFk⟩
            have HFk := Lib.hid (H.out.2.2.2.1 _ (HF9.out.tr hFk))
            clear hFk
            go_wp2_with fail
            go_ret
            exact ⟨by rfl, HFk.out⟩
          | true =>
            obtain ⟨k, x, rfl, hx, -, hk64, -, -, -⟩ := ready_parts H4.out.1.symm
            have hgo := goes_plain HB.out (by rw [List.length_map, ← H.out.2.2.2.2.2.1.1]; exact HR.out) HS.out.2.1 H4.out.1.symm
            rw [← H4.out.2.1] at hgo
            obtain ⟨g1, g2, g3, g4, g5, g6⟩ := hgo
            dsimp only at g1 g2 g3 g4 g5 g6
            rw [List.length_map, List.length_map] at g4
            have hnn : np = n1 := by
              have := HO.out.2.2.2.2
              have := H.out.2.2.2.2.2.1.1
              omega
            subst hnn
            rw [List.length_map, ← HO.out.2.2.2.2] at g2
            have hn12 : np ≤ 12 := HS.out.2.2.1
            have hlen : ((np : Int) != (np : Int)) = false := by simp
            have HGo := Lib.hid (And.intro g2 (And.intro g3 (And.intro g5 (And.intro (fun i hi => g6 x (by rw [Int.toNat_natCast]; exact hx) i hi) hx))))
            have hes := H.out.2.2.2.2.1.1
            rw [← hes] at g1
            clear g2 g3 g4 g5 g6 hx hes
            go_wp2_with fail
            refine (HRd.out _ (Frm.refl _ _)).mono ?_
            rintro e w7 ⟨rfl, hF7⟩
            have HF7 := Lib.hid hF7
            clear hF7 x0 x1 x2 x3
            obtain ⟨x0, x1, x2, x3⟩ := H.out.2.2.1 w7 (HO.out.1 _ HF7.out)
            obtain ⟨y0, y1, y2, y3⟩ := HO.out.2.2.2.1 w7 HF7.out
            have hRt : Hid (Calls Try.prog 14 #[.agg #[.slice Ar nr cr, .int .i64 c'.at_, .int .u32 c'.sum, .int .i64 c'.wrong], .int .i64 np] w7 (RetB true w7)) := Lib.hid (retB (right_any Ar nr cr c'.at_ c'.sum c'.wrong np c'.row w7 (HO.out.2.1 w7 HF7.out)) HGo.out.1)
            obtain ⟨at', hat⟩ : ∃ v, v = c'.at_ := ⟨_, rfl⟩
            rw [← hat] at y1 g1 hRt
            rw [← hat]
            have h2 : ((at' != (k : Int) + 1) = false) ∨ ((at' != (k : Int) + 1) = true ∧ (at' != (n : Int)) = false) := by
              by_cases e : at' = (k : Int) + 1
              · left; simpa using e
              · right; exact ⟨by simpa using e, by have := g1.resolve_left e; simpa using this⟩
            have Hat := Lib.hid hat
            clear hat g1
            go_upto_region 8 with fail
            go_cut [87] (fun t wc => t = .bool false ∧ Hid (Frm (fun _ => False) w6 wc))
            case first => as_aux_lemma =>
              rcases h2 with h2 | ⟨h2, h3⟩
              all_goals
                go_wp2_with fail
                refine hRt.out.mono ?_
                rintro e w8 ⟨rfl, hF8⟩
                have HF8 := Lib.hid (HF7.out.tr hF8)
                clear hF8 x0 x1 x2 x3 y0 y1 y2 y3
                go_wp2_with fail
                refine (retB (b' := true) (pipes_any Ap np cp ps' w8 (HO.out.2.2.1 w8 HF8.out)) HGo.out.2.1).mono ?_
                rintro e w9 ⟨rfl, hF9⟩
                have HF9 := Lib.hid (HF8.out.tr hF9)
                clear hF9
                go_wp2_with fail
                go_meet
                case rel => exact ⟨rfl, HF9⟩
            case rest =>
              obtain ⟨rfl, hB8⟩ := hcut
              clear x0 x1 x2 x3 y0 y1 y2 y3 h2 hRt
              go_wp2_with fail
              go_loopw [8] (fun i wr => ∃ i' : Nat, i' ≤ np ∧ i = .int .i64 i' ∧ Hid (Frm (fun _ => False) w6 wr)) (fun i _ => np - (intOf i).toNat)
              case atStart => exact ⟨0, Nat.zero_le _, rfl, hB8⟩
              case round =>
                obtain ⟨i, hi, rfl, hT⟩ := hrel
                by_cases hlt : i < np
                · have hip : i < ps.length := by have := H.out.2.2.2.2.2.1.1; omega
                  have him : i < ps'.length := by have := HO.out.2.2.2.2; omega
                  obtain ⟨gm, om, rfl, ⟨qm, qm'⟩, hPm⟩ := sub_one (HO.out.2.2.1 wr hT.out) him
                  obtain ⟨gl, ol, rfl, ⟨ql, ql'⟩, hPl⟩ := sub_one (H.out.2.1 wr (HO.out.1 _ hT.out)) hip
                  obtain ⟨x0, x1, x2, x3⟩ := H.out.2.2.1 wr (HO.out.1 _ hT.out)
                  have h0 : Frm (fun _ => False) wr wr.drew := (Frm.refl _ wr).drew
                  have HK : Hid (∀ W, Frm (fun _ => False) wr W → B4 W gc (.slice A n c) k s r) := Lib.hid fun W hW => H.out.2.2.1 W (HO.out.1 _ (hT.out.tr hW))
                  have hii : ((i : Int) != namedN x) = decide ((i : Int) ≠ namedN x) := by by_cases e : (i : Int) = namedN x <;> simp [e]
                  have HNm : Hid (∀ W, Frm (fun _ => False) wr W → Calls Try.prog 23 #[.agg #[.slice A n c, .int .i64 k, .int .u32 s, .int .i64 r]] W fun e w' => e = .returned (.int .i64 (namedN x)) ∧ Frm (fun _ => False) W w') := Lib.hid fun W hW => named_any A n c k s r es x W (H.out.1 W (HO.out.1 _ (hT.out.tr hW))) HGo.out.2.2.2.2
                  have HAl : Hid ((i : Int) ≠ namedN x → ∀ W, Frm (fun _ => False) wr W → Calls Try.prog 11 #[.slice (some ⟨gm, om + i * 3, none⟩) 1 (cp - i), .slice (some ⟨gl, ol + i * 3, none⟩) 1 (c1 - i)] W (RetB true W)) := Lib.hid fun hne W hW => by
                    have e1 := HGo.out.2.2.2.1 i hne
                    rw [List.getElem?_map, List.getElem?_map, List.getElem?_eq_getElem him, List.getElem?_eq_getElem hip] at e1
                    refine retB (b' := true) (ralike_any (fun q => q < W.heap.size) (some ⟨gm, om + i * 3, none⟩) 1 (cp - i) (some ⟨gl, ol + i * 3, none⟩) 1 (c1 - i) [ps'[i]] [ps[i]] W (hPm.keptTo fun q hq => ⟨hW.block q hq id, Nat.lt_of_lt_of_le hq hW.size⟩) (hPl.keptTo fun q hq => ⟨hW.block q hq id, Nat.lt_of_lt_of_le hq hW.size⟩) fun _ h => h) (decide_eq_true ?_)
                    simpa using e1
                  generalize namedN x = nm at *
                  clear hip him hPm hPl
                  by_cases hne : (i : Int) = nm
                  · have hb : ((i : Int) != nm) = false := by simpa using hne
                    clear hne hii HAl qm qm' ql ql'
                    go_upto_region 13 with fail
                    refine wp_region_of (by kernel_rfl) 18 (by kernel_rfl) _ (by rfl) ?_
                    refine plan_yield_k 0 94 (v := .int .i64 i) rfl (by kernel_rfl) (Or.inl ⟨by kernel_rfl, fun _ => rfl⟩) (by kernel_rfl) (by intro c d v a w h; cases d <;> exact h) (by kernel_rfl) (by kernel_rfl) ?_
                    simp only [Act.put, List.setIfInBounds_toArray, List.set_cons_zero, List.set_cons_succ]
                    refine plan_one 1 (by kernel_rfl) rfl ?_
                    intro K hK
                    go_wp2_with fail
                    refine plan_one 2 (by kernel_rfl) rfl ?_
                    intro K hK
                    go_wp2_with fail
                    refine (HNm.out _ h0).mono ?_
                    rintro e wa ⟨rfl, hFa⟩
                    have HZ := Lib.hid (hT.out.tr (h0.tr hFa))
                    clear hFa h0 x0 x1 x2 x3
                    go_wp2_with fail
                    refine plan_one 3 (by kernel_rfl) rfl ?_
                    intro K hK
                    go_wp2_with fail
                    refine plan_one 4 (by kernel_rfl) rfl ?_
                    intro K hK
                    go_wp2_with fail
                    refine plan_yield_k 5 99 (v := undef) rfl (by kernel_rfl) (Or.inr ⟨by kernel_rfl, rfl⟩) (by kernel_rfl) (by intro c d v a w h; cases d <;> exact h) (by kernel_rfl) (by kernel_rfl) ?_
                    simp only [Act.put, List.setIfInBounds_toArray, List.set_cons_zero, List.set_cons_succ]
                    refine plan_yield_k 6 100 (v := undef) rfl (by kernel_rfl) (Or.inr ⟨by kernel_rfl, rfl⟩) (by kernel_rfl) (by intro c d v a w h; cases d <;> exact h) (by kernel_rfl) (by kernel_rfl) ?_
                    simp only [Act.put, List.setIfInBounds_toArray, List.set_cons_zero, List.set_cons_succ]
                    refine plan_yield_k 7 101 (v := undef) rfl (by kernel_rfl) (Or.inr ⟨by kernel_rfl, rfl⟩) (by kernel_rfl) (by intro c d v a w h; cases d <;> exact h) (by kernel_rfl) (by kernel_rfl) ?_
                    simp only [Act.put, List.setIfInBounds_toArray, List.set_cons_zero, List.set_cons_succ]
                    refine plan_yield_k 8 102 (v := undef) rfl (by kernel_rfl) (Or.inr ⟨by kernel_rfl, rfl⟩) (by kernel_rfl) (by intro c d v a w h; cases d <;> exact h) (by kernel_rfl) (by kernel_rfl) ?_
                    simp only [Act.put, List.setIfInBounds_toArray, List.set_cons_zero, List.set_cons_succ]
                    refine plan_yield_k 9 103 (v := undef) rfl (by kernel_rfl) (Or.inr ⟨by kernel_rfl, rfl⟩) (by kernel_rfl) (by intro c d v a w h; cases d <;> exact h) (by kernel_rfl) (by kernel_rfl) ?_
                    simp only [Act.put, List.setIfInBounds_toArray, List.set_cons_zero, List.set_cons_succ]
                    refine plan_yield_k 10 104 (v := undef) rfl (by kernel_rfl) (Or.inr ⟨by kernel_rfl, rfl⟩) (by kernel_rfl) (by intro c d v a w h; cases d <;> exact h) (by kernel_rfl) (by kernel_rfl) ?_
                    simp only [Act.put, List.setIfInBounds_toArray, List.set_cons_zero, List.set_cons_succ]
                    refine plan_yield_k 11 105 (v := undef) rfl (by kernel_rfl) (Or.inr ⟨by kernel_rfl, rfl⟩) (by kernel_rfl) (by intro c d v a w h; cases d <;> exact h) (by kernel_rfl) (by kernel_rfl) ?_
                    simp only [Act.put, List.setIfInBounds_toArray, List.set_cons_zero, List.set_cons_succ]
                    refine plan_yield_k 12 106 (v := undef) rfl (by kernel_rfl) (Or.inr ⟨by kernel_rfl, rfl⟩) (by kernel_rfl) (by intro c d v a w h; cases d <;> exact h) (by kernel_rfl) (by kernel_rfl) ?_
                    simp only [Act.put, List.setIfInBounds_toArray, List.set_cons_zero, List.set_cons_succ]
                    refine plan_yield_k 13 107 (v := undef) rfl (by kernel_rfl) (Or.inr ⟨by kernel_rfl, rfl⟩) (by kernel_rfl) (by intro c d v a w h; cases d <;> exact h) (by kernel_rfl) (by kernel_rfl) ?_
                    simp only [Act.put, List.setIfInBounds_toArray, List.set_cons_zero, List.set_cons_succ]
                    refine plan_yield_k 14 108 (v := undef) rfl (by kernel_rfl) (Or.inr ⟨by kernel_rfl, rfl⟩) (by kernel_rfl) (by intro c d v a w h; cases d <;> exact h) (by kernel_rfl) (by kernel_rfl) ?_
                    simp only [Act.put, List.setIfInBounds_toArray, List.set_cons_zero, List.set_cons_succ]
                    refine plan_yield_k 15 109 (v := undef) rfl (by kernel_rfl) (Or.inr ⟨by kernel_rfl, rfl⟩) (by kernel_rfl) (by intro c d v a w h; cases d <;> exact h) (by kernel_rfl) (by kernel_rfl) ?_
                    simp only [Act.put, List.setIfInBounds_toArray, List.set_cons_zero, List.set_cons_succ]
                    refine plan_yield_k 16 110 (v := undef) rfl (by kernel_rfl) (Or.inr ⟨by kernel_rfl, rfl⟩) (by kernel_rfl) (by intro c d v a w h; cases d <;> exact h) (by kernel_rfl) (by kernel_rfl) ?_
                    simp only [Act.put, List.setIfInBounds_toArray, List.set_cons_zero, List.set_cons_succ]
                    refine plan_one 17 (by kernel_rfl) rfl ?_
                    intro K hK
                    go_wp2_with fail
                    refine plan_done (by kernel_rfl) ?_
                    go_wp2_with fail
                    go_roundw
                    case rel => exact ⟨i + 1, by omega, by go_num, HZ⟩
                    case measure => simp [intOf]; omega
                  · have hb : ((i : Int) != nm) = true := by simpa using hne
                    have HAl2 := Lib.hid (HAl.out hne)
                    have Hrm := Lib.hid (sub_run (g := gm) (o := om) (n := np) qm qm')
                    have Hrl := Lib.hid (sub_run (g := gl) (o := ol) (n := np) ql ql')
                    generalize om + i * 3 = sm at HAl2 Hrm
                    generalize cp - i = cm at HAl2 Hrm
                    generalize ol + i * 3 = sl at HAl2 Hrl
                    generalize c1 - i = cl at HAl2 Hrl
                    clear qm qm' ql ql'
                    clear hne hii HAl
                    go_upto_region 13 with fail
                    refine wp_region_of (by kernel_rfl) 18 (by kernel_rfl) _ (by rfl) ?_
                    refine plan_yield_k 0 94 (v := .int .i64 i) rfl (by kernel_rfl) (Or.inl ⟨by kernel_rfl, fun _ => by kernel_rfl⟩) (by kernel_rfl) (by intro c d v a w h; cases d <;> exact h) (by kernel_rfl) (by kernel_rfl) ?_
                    simp only [Act.put, List.setIfInBounds_toArray, List.set_cons_zero, List.set_cons_succ]
                    refine plan_one 1 (by kernel_rfl) rfl ?_
                    intro K hK
                    go_wp2_with fail
                    refine plan_one 2 (by kernel_rfl) rfl ?_
                    intro K hK
                    go_wp2_with fail
                    refine (HNm.out _ h0).mono ?_
                    rintro e wa ⟨rfl, hFa⟩
                    have ha := Lib.hid (h0.tr hFa)
                    clear hFa h0 x0 x1 x2 x3
                    go_wp2_with fail
                    refine plan_one 3 (by kernel_rfl) rfl ?_
                    intro K hK
                    go_wp2_with fail
                    refine plan_one 4 (by kernel_rfl) rfl ?_
                    intro K hK
                    go_wp2_with fail
                    refine plan_yield_k 5 99 (v := .slice (some ⟨gm, om, none⟩) np cp) rfl (by kernel_rfl) (Or.inl ⟨by kernel_rfl, fun _ => by kernel_rfl⟩) (by kernel_rfl) (by intro c d v a w h; cases d <;> exact h) (by kernel_rfl) (by kernel_rfl) ?_
                    simp only [Act.put, List.setIfInBounds_toArray, List.set_cons_zero, List.set_cons_succ]
                    refine plan_yield_k 6 100 (v := .int .i64 i) rfl (by kernel_rfl) (Or.inl ⟨by kernel_rfl, fun _ => by kernel_rfl⟩) (by kernel_rfl) (by intro c d v a w h; cases d <;> exact h) (by kernel_rfl) (by kernel_rfl) ?_
                    simp only [Act.put, List.setIfInBounds_toArray, List.set_cons_zero, List.set_cons_succ]
                    refine plan_yield_k 7 101 (v := .int .i64 i) rfl (by kernel_rfl) (Or.inl ⟨by kernel_rfl, fun _ => by kernel_rfl⟩) (by kernel_rfl) (by intro c d v a w h; cases d <;> exact h) (by kernel_rfl) (by kernel_rfl) ?_
                    simp only [Act.put, List.setIfInBounds_toArray, List.set_cons_zero, List.set_cons_succ]
                    refine plan_yield_k 8 102 (v := .int .i64 ((i : Int) + 1)) rfl (by kernel_rfl) (Or.inl ⟨by kernel_rfl, by intro w; go_simp; exact IntWalk.i64_in _ (by omega)⟩) (by kernel_rfl) (by intro c d v a w h; cases d <;> exact h) (by kernel_rfl) (by kernel_rfl) ?_
                    simp only [Act.put, List.setIfInBounds_toArray, List.set_cons_zero, List.set_cons_succ]
                    refine plan_yield_k 9 103 (v := .slice (some ⟨gm, sm, none⟩) 1 cm) rfl (by kernel_rfl) (yields_slice rfl (by kernel_rfl) (by kernel_rfl) (by kernel_rfl) (by kernel_rfl) Hrm.out) (by kernel_rfl) (by intro c d v a w h; cases d <;> exact h) (by kernel_rfl) (by kernel_rfl) ?_
                    simp only [Act.put, List.setIfInBounds_toArray, List.set_cons_zero, List.set_cons_succ]
                    refine plan_yield_k 10 104 (v := .slice (some ⟨gl, ol, none⟩) np c1) rfl (by kernel_rfl) (Or.inl ⟨by kernel_rfl, fun _ => by kernel_rfl⟩) (by kernel_rfl) (by intro c d v a w h; cases d <;> exact h) (by kernel_rfl) (by kernel_rfl) ?_
                    simp only [Act.put, List.setIfInBounds_toArray, List.set_cons_zero, List.set_cons_succ]
                    refine plan_yield_k 11 105 (v := .int .i64 i) rfl (by kernel_rfl) (Or.inl ⟨by kernel_rfl, fun _ => by kernel_rfl⟩) (by kernel_rfl) (by intro c d v a w h; cases d <;> exact h) (by kernel_rfl) (by kernel_rfl) ?_
                    simp only [Act.put, List.setIfInBounds_toArray, List.set_cons_zero, List.set_cons_succ]
                    refine plan_yield_k 12 106 (v := .int .i64 i) rfl (by kernel_rfl) (Or.inl ⟨by kernel_rfl, fun _ => by kernel_rfl⟩) (by kernel_rfl) (by intro c d v a w h; cases d <;> exact h) (by kernel_rfl) (by kernel_rfl) ?_
                    simp only [Act.put, List.setIfInBounds_toArray, List.set_cons_zero, List.set_cons_succ]
                    refine plan_yield_k 13 107 (v := .int .i64 ((i : Int) + 1)) rfl (by kernel_rfl) (Or.inl ⟨by kernel_rfl, by intro w; go_simp; exact IntWalk.i64_in _ (by omega)⟩) (by kernel_rfl) (by intro c d v a w h; cases d <;> exact h) (by kernel_rfl) (by kernel_rfl) ?_
                    simp only [Act.put, List.setIfInBounds_toArray, List.set_cons_zero, List.set_cons_succ]
                    refine plan_yield_k 14 108 (v := .slice (some ⟨gl, sl, none⟩) 1 cl) rfl (by kernel_rfl) (yields_slice rfl (by kernel_rfl) (by kernel_rfl) (by kernel_rfl) (by kernel_rfl) Hrl.out) (by kernel_rfl) (by intro c d v a w h; cases d <;> exact h) (by kernel_rfl) (by kernel_rfl) ?_
                    simp only [Act.put, List.setIfInBounds_toArray, List.set_cons_zero, List.set_cons_succ]
                    refine plan_one 15 (by kernel_rfl) rfl (fun K hK => ?_)
                    go_wp2_with fail
                    refine (HAl2.out _ ha.out).mono ?_
                    rintro e wb ⟨rfl, hFb⟩
                    have HZ := Lib.hid (hT.out.tr (ha.out.tr hFb))
                    clear hFb
                    go_wp2_with fail
                    refine plan_one 16 (by kernel_rfl) rfl ?_
                    intro K hK
                    go_wp2_with fail
                    refine plan_one 17 (by kernel_rfl) rfl ?_
                    intro K hK
                    go_wp2_with fail
                    refine plan_done (by kernel_rfl) ?_
                    go_wp2_with fail
                    go_roundw
                    case rel => exact ⟨i + 1, by omega, by go_num, HZ⟩
                    case measure => simp [intOf]; omega
                · obtain rfl : i = np := by omega
                  obtain ⟨x0, x1, x2, x3⟩ := H.out.2.2.1 wr (HO.out.1 _ hT.out)
                  have hbA := H6.out.1.kept hT.out id
                  have y0 : wr.cell? ⟨gA, 0, none⟩ = some (.slice Ar nr cr) := hbA.cell 0
                  have y1 : wr.cell? ⟨gA, 1, none⟩ = some (.int .i64 c'.at_) := hbA.cell 1
                  have y2 : wr.cell? ⟨gA, 2, none⟩ = some (.int .u32 c'.sum) := hbA.cell 2
                  have y3 : wr.cell? ⟨gA, 3, none⟩ = some (.int .i64 c'.wrong) := hbA.cell 3
                  have f1 := hbA.frozen 1
                  have f2 := hbA.frozen 2
                  have f3 := hbA.frozen 3
                  have HA := Lib.hid hbA
                  clear hbA
                  go_upto_region 16 with (go_region)
                  obtain ⟨W9, hW9⟩ : ∃ W, W = (((wr.setCell ⟨gA, 1, none⟩ (.int .i64 k)).setCell ⟨gA, 2, none⟩ (.int .u32 s)).setCell ⟨gA, 3, none⟩ (.int .i64 r)).drew := ⟨_, rfl⟩
                  rw [← hW9]
                  have hF9 : Frm (fun q => q = gA) wr W9 := by
                    rw [hW9]
                    exact ((((Frm.refl (fun q => q = gA) wr).setCell ⟨gA, 1, none⟩ (.inl rfl) _).setCell ⟨gA, 2, none⟩ (.inl rfl) _).setCell ⟨gA, 3, none⟩ (.inl rfl) _).drew
                  have hb9 : Blk W9 gA 25 #[.slice Ar nr cr, .int .i64 k, .int .u32 s, .int .i64 r] := by
                    rw [hW9]
                    exact ((HA.out.set_ 1 _).set_ 2 _).set_ 3 _
                  have h49 : Frm (fun _ => False) w4 W9 := (H6.out.2.1.tr hT.out).trans hF9 fun q hq => .inr (by rw [hq, HgA.out]; exact Nat.le_refl _)
                  have h09 : Frm (fun _ => False) W0 W9 := H4.out.2.2.2.2.2.tr h49
                  have Hr1 := Lib.hid (H4.out.2.2.1.keptTo (w' := W9) (K' := fun q => q < W9.heap.size) fun q hq => ⟨h49.block q hq.2 id, Nat.lt_of_lt_of_le hq.2 h49.size⟩)
                  have Hr2 := Lib.hid (H.out.1 W9 h09)
                  have H9 := Lib.hid h09
                  have y0 : W9.cell? ⟨gA, 0, none⟩ = some (.slice Ar nr cr) := hb9.cell 0
                  have y1 : W9.cell? ⟨gA, 1, none⟩ = some (.int .i64 k) := hb9.cell 1
                  have y2 : W9.cell? ⟨gA, 2, none⟩ = some (.int .u32 s) := hb9.cell 2
                  have y3 : W9.cell? ⟨gA, 3, none⟩ = some (.int .i64 r) := hb9.cell 3
                  obtain ⟨x0, x1, x2, x3⟩ := H.out.2.2.1 W9 h09
                  clear hW9 hF9 hb9 h49 h09 f1 f2 f3
                  go_wp2_with fail
                  refine (retB (b' := true) (rsame_any (fun q => q < W9.heap.size) Ar nr cr k s r c'.row A n c k s r es W9 Hr1.out Hr2.out fun _ h => h) (decide_eq_true (by rw [HGo.out.2.2.1]))).mono ?_
                  rintro e w10 ⟨rfl, hF10⟩
                  have HF10 := Lib.hid (H9.out.tr hF10)
                  clear hF10 x0 x1 x2 x3 y0 y1 y2 y3
                  go_wp2_with fail
                  refine (wakes_any w10).mono ?_
                  rintro e wk ⟨rfl, hFk⟩
                  have HFk := Lib.hid (H.out.2.2.2.1 _ (HF10.out.tr hFk))
                  clear hFk
                  go_wp2_with fail
                  go_ret
                  exact ⟨by rfl, HFk.out⟩
end Go.Proofs.Ytbfcpapehfdphaa
