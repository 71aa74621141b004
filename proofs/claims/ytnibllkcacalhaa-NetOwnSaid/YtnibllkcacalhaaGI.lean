/- The walks of teasellaw24.sane, errands. What the laws of nets ask: plain; Great at a value. The walk of teaselref24.Own. What NetOwn writes: cells of integers in memory of its own; plain. -/
import Derived.Test.YtnibllkcacalhaaGF
import Derived.Test.YtnibllkcacalhaaHWa
import Derived.Test.YtnibllkcacalhaaGG
namespace Go.Proofs.Ytnibllkcacalhaa
set_option maxRecDepth 100000
open Go.RowKit
theorem sane_no {cs : List Ch} {k : Nat} (h : k < cs.length) (hf : decide (cs[k].wrong ≤ cs[k].at_) = false) : (cs.all fun c => decide (c.wrong ≤ c.at_)) = false := by
  rw [List.all_eq_false]
  exact ⟨cs[k], List.getElem_mem h, by simp [hf]⟩
set_option maxHeartbeats 1600000 in
theorem sane_v (V : Value) (N : Nt) (w : World) (h : NR w V N) : Calls Try.prog 29 #[V] w (RetBool (saneB N) w) := by
  obtain ⟨A1, n1, c1, A, n, c, rfl⟩ := h.form
  obtain ⟨W, hW⟩ : ∃ W, W = w.alloc (.cells #[.slice A1 n1 c1, .slice A n c] 25) := ⟨_, rfl⟩
  obtain ⟨G, hG⟩ : ∃ G, G = w.heap.size := ⟨_, rfl⟩
  have hF : Frm (fun _ => False) w W := by rw [hW]; exact (Frm.refl _ w).alloc _
  have hb : Blk W G 25 #[.slice A1 n1 c1, .slice A n c] := by rw [hW, hG]; exact Blk.new w _ _
  obtain ⟨_, _, _, _, _, _, e, ps, cks, h1, h2, h3, h4⟩ := h
  cases e
  obtain ⟨hn, hnc, hcm, hx⟩ := h2.cells
  have hnm : n ≤ 9223372036854775807 := by omega
  have H := Lib.hid (And.intro hF (And.intro hb (And.intro hn (And.intro hx h4))))
  clear h1 h2 h3 h4 hn hx hF hb hnc hcm
  go_enter Try.func29, Try.ntmps29
  go_upto_region 1 with fail
  rw [← hG, ← hW]
  clear hG hW
  go_wp2_with fail
  go_loopw [3] (fun i wr => ∃ k : Nat, k ≤ n ∧ i = .int .i64 k ∧ Hid ((∀ j (h : j < N.cs.length), j < k → N.cs[j].wrong ≤ N.cs[j].at_) ∧ Frm (fun _ => False) W wr)) (fun i _ => n - (intOf i).toNat)
  case atStart => exact ⟨0, Nat.zero_le _, rfl, Lib.hid ⟨fun j _ h => by omega, Frm.refl _ _⟩⟩
  case round =>
    obtain ⟨k, hk, rfl, hT⟩ := hrel
    have hbw := H.out.2.1.kept hT.out.2 id
    have x1 : wr.cell? ⟨G, 1, none⟩ = some (.slice A n c) := hbw.cell 1
    clear hbw
    by_cases hlt : k < n
    · obtain ⟨hF, -, hn, hx, h4⟩ := H.out
      have hkx : k < cks.length := by omega
      obtain ⟨g, o, rfl, hg, d0, d1, d2, d3⟩ := hx k hkx
      have hFw := hF.trans hT.out.2 fun _ h => h.elim
      replace d1 := hFw.cell d1 id
      replace d3 := hFw.cell d3 id
      have hkN : k < N.cs.length := by rw [← h4, List.length_map]; exact hkx
      have hck : cks[k].c = N.cs[k] := by simp only [← h4, List.getElem_map]
      rw [hck] at d1 d3
      have hno : decide (N.cs[k].wrong ≤ N.cs[k].at_) = false → saneB N = false := fun h => sane_no hkN h
      have hyes : N.cs[k].wrong ≤ N.cs[k].at_ → ∀ j (h : j < N.cs.length), j < k + 1 → N.cs[j].wrong ≤ N.cs[j].at_ := fun hb j h hj => by
        rcases Nat.lt_or_ge j k with h1 | h1
        · exact hT.out.1 j h h1
        · obtain rfl : j = k := by omega
          exact hb
      have HS := Lib.hid (And.intro hno (And.intro hyes hT.out.2))
      clear hF hn hx h4 hg hFw hck hno hyes hT d0 d2
      generalize N.cs[k] = cc at *
      clear hkN hkx
      have hk0 : (0 : Int) ≤ (k : Int) := by omega
      by_cases hs : cc.wrong ≤ cc.at_
      · have h2 : decide (cc.at_ < cc.wrong) = false := by simp; omega
        have Hy := Lib.hid (HS.out.2.1 hs)
        clear hs
        go_wp2_with fail
        go_quiet (fail)
        go_wp2_with fail
        go_roundw
        case rel => exact ⟨k + 1, by omega, by go_num, Lib.hid ⟨Hy.out, HS.out.2.2.drewN _⟩⟩
        case measure => simp [intOf]; omega
      · have h2 : decide (cc.at_ < cc.wrong) = true := by simp; omega
        have Hn := Lib.hid (HS.out.1 (by simpa using hs))
        clear hs
        go_wp2_with fail
        go_quiet (fail)
        go_wp2_with fail
        go_ret
        exact ⟨by rw [Hn.out]; rfl, (H.out.1.trans HS.out.2.2 fun _ h => h.elim).drewN _⟩
    · obtain rfl : k = n := by omega
      have hr : saneB N = true := by
        unfold saneB
        rw [List.all_eq_true]
        intro y hy
        obtain ⟨j, hj, rfl⟩ := List.getElem_of_mem hy
        simpa using hT.out.1 j hj (by have := H.out.2.2.1; have h4 := H.out.2.2.2.2; have := congrArg List.length h4; simp at this; omega)
      have HR := Lib.hid hr
      clear hr
      go_wp2_with fail
      go_ret
      exact ⟨by rw [HR.out]; rfl, H.out.1.trans hT.out.2 fun _ h => h.elim⟩
end Go.Proofs.Ytnibllkcacalhaa
namespace Go.Proofs.Ytnibllkcacalhaa
set_option maxRecDepth 100000
open Go.RowKit
def GreatV (N : Nt) (w : World) (e : Ending) (w' : World) : Prop := ∃ g : Bool, e = .returned (.bool g) ∧ Frm (fun _ => False) w w' ∧ (g = false → SmN N ∧ leftNt N ≤ 1000000)
theorem left_le (l : List Ch) (h : ∀ c ∈ l, c.row.length ≤ 1000) : (l.map leftC).sum ≤ l.length * 1000 := by
  induction l with
  | nil => simp
  | cons y ys ih =>
    have h1 := h y (by simp)
    have h2 := ih fun c hc => h c (by simp [hc])
    simp only [List.map_cons, List.sum_cons, List.length_cons]
    have : leftC y ≤ y.row.length := by unfold leftC; omega
    omega
theorem great_v (V : Value) (N : Nt) (w : World) (h : NR w V N) : Calls Try.prog 8 #[V] w (GreatV N w) := by
  obtain ⟨A1, n1, c1, A, n, c, rfl, ps, cks, h1, h2, h3, h4⟩ := h
  obtain ⟨N1, N2⟩ := N
  dsimp only at h3 h4
  subst h3 h4
  refine (great_n A1 n1 c1 A n c ps cks w h1 h2).mono ?_
  rintro e w' ⟨g, rfl, hF, hg⟩
  refine ⟨g, rfl, hF, fun h => ?_⟩
  obtain ⟨q1, ⟨-, q2, q3⟩, q4⟩ := hg h
  have hrow : ∀ c ∈ cks.map (·.c), c.row.length ≤ 1000 := fun c hc => by
    obtain ⟨k, hk, rfl⟩ := List.mem_map.1 hc
    have := q4 k hk; omega
  refine ⟨⟨by rw [List.length_map]; omega, by rw [List.length_map]; omega, fun p hp => ?_, fun c hc => by have := hrow c hc; omega⟩, ?_⟩
  · obtain ⟨k, hk, rfl⟩ := List.mem_map.1 hp
    have := q3 k hk; omega
  · have := left_le _ hrow
    unfold leftNt
    rw [List.length_map] at this
    dsimp only
    omega
theorem sm_right {N : Nt} (h : rightNt N = true) : SmN N ∧ leftNt N ≤ 1000000 := by
  obtain ⟨q1, q2, q3, q4⟩ := right_sm h
  refine ⟨⟨by omega, by omega, fun p hp => by have := q3 p hp; omega, fun c hc => by have := q4 c hc; omega⟩, ?_⟩
  have := left_le N.cs fun c hc => by have := q4 c hc; omega
  unfold leftNt
  omega
theorem clean_right {N : Nt} (h : cleanNt N = true) : rightNt N = true := by
  unfold cleanNt at h
  simp only [Bool.and_eq_true] at h
  exact h.1
/-- What NetPicks asks. -/
theorem picks_plain {N : Nt} (xs ys : List Int) (hcl : cleanNt N = true) (hs : saneB N = true) :
    (finN (runNt N xs).1).1 = (finN N).1 ∧ (finN (runNt N ys).1).1 = (finN N).1 ∧ (runNt N xs).2 + (finN (runNt N xs).1).2 = (finN N).2 ∧ (runNt N ys).2 + (finN (runNt N ys).1).2 = (finN N).2 ∧ (finN N).2 ≤ 1000000 ∧
      rightNt N = true ∧ rightNt (runNt N xs).1 = true ∧ rightNt (runNt N ys).1 = true ∧ SmN (runNt N xs).1 ∧ SmN (runNt N ys).1 ∧ leftNt (runNt N xs).1 ≤ 1000000 ∧ leftNt (runNt N ys).1 ≤ 1000000 ∧ True := by
  have e1 := fin_run xs N hcl hs
  have e2 := fin_run ys N hcl hs
  have hr := clean_right hcl
  have r1 := (run_goes xs N hr hs).1
  have r2 := (run_goes ys N hr hs).1
  have hl := (fin_le (leftNt N) N (Nat.le_refl _)).1
  have hm := (sm_right hr).2
  refine ⟨by rw [e1], by rw [e2], by rw [e1], by rw [e2], by omega, hr, r1, r2, (sm_right r1).1, (sm_right r2).1, (sm_right r1).2, (sm_right r2).2, trivial⟩
end Go.Proofs.Ytnibllkcacalhaa
namespace Go.Proofs.Ytnibllkcacalhaa
set_option maxRecDepth 100000
open Go.RowKit
/-- A slice of chores in memory of its own, from nb on. -/
def CR (w : World) (nb : Nat) (v : Value) (cks : List Ck) : Prop :=
  w.ownsRow nb 46 4 v cks.length (cks.flatMap cCells) ∧ ∀ x ∈ cks, w.ownsRow nb 49 3 x.v x.c.row.length (x.c.row.flatMap eCells)
theorem CR.nil (w : World) (nb : Nat) : CR w nb (.slice none 0 0) [] := ⟨World.ownsRow_nil _ _ _ _, by simp⟩
theorem CR.kept {w w' : World} {nb : Nat} {v : Value} {cks : List Ck} {K : Nat → Prop} (h : CR w nb v cks) (hF : Frm K w w') (h1 : ∀ q, v.ownBlock = some q → ¬ K q) (h2 : ∀ x ∈ cks, ∀ q, x.v.ownBlock = some q → ¬ K q) : CR w' nb v cks :=
  ⟨hF.own h.1 h1, fun x hx => hF.own (h.2 x hx) (h2 x hx)⟩
theorem CR.keptF {w w' : World} {nb : Nat} {v : Value} {cks : List Ck} (h : CR w nb v cks) (hF : Frm (fun _ => False) w w') : CR w' nb v cks := h.kept hF (fun _ _ => id) fun _ _ _ _ => id
theorem CR.mono {w : World} {nb nb' : Nat} {v : Value} {cks : List Ck} (h : CR w nb v cks) (hb : nb' ≤ nb) : CR w nb' v cks :=
  ⟨World.ownsRow.mono h.1 hb, fun x hx => World.ownsRow.mono (h.2 x hx) hb⟩
theorem CR.cs {w : World} {nb : Nat} {v : Value} {cks : List Ck} (h : CR w nb v cks) : CsAt w (fun q => nb ≤ q ∧ q < w.heap.size) v cks :=
  ⟨SlZ.of_own h.1 fun q hq => World.ownsRow.lt h.1 q hq, fun x hx => SlZ.of_own (h.2 x hx) fun q hq => World.ownsRow.lt (h.2 x hx) q hq⟩
/-- One chore more. -/
theorem CR.snoc {w w' : World} {nb : Nat} {v v' : Value} {cks : List Ck} {x : Ck} (h : CR w nb v cks) (hx : w.ownsRow nb 49 3 x.v x.c.row.length (x.c.row.flatMap eCells))
    (ho : w'.ownsRow nb 46 4 v' (cks.length + 1) (cks.flatMap cCells ++ cCells x)) (hF : Frm (fun q => v.ownBlock = some q) w w') : CR w' nb v' (cks ++ [x]) := by
  refine ⟨by rw [List.flatMap_append, List.length_append]; simpa using ho, fun y hy => ?_⟩
  rcases List.mem_append.1 hy with hy | hy
  · exact hF.own (h.2 y hy) fun q hq hk => by
      obtain ⟨cs, hb⟩ := own_blk h.1 q hk
      exact own_blk_ne (h.2 y hy) hb (by decide) hq
  · simp at hy
    subst hy
    exact hF.own hx fun q hq hk => by
      obtain ⟨cs, hb⟩ := own_blk h.1 q hk
      exact own_blk_ne hx hb (by decide) hq
/-- What Own tells. -/
def ROwn (N : Nt) (w : World) (e : Ending) (w' : World) : Prop :=
  ∃ A1 n1 c1 A n c ps cks, e = .returned (.agg #[.slice A1 n1 c1, .slice A n c]) ∧ PR w' w.heap.size (.slice A1 n1 c1) ps ∧ CR w' w.heap.size (.slice A n c) cks ∧ ps.map (·.p) = N.ps ∧ cks.map (·.c) = N.cs ∧ Frm (fun _ => False) w w'
theorem rown_res (tmps : Array Value) (w : World) (g : Nat) (vp vc : Value) (hp : tmps.getD 2 undef = .pointer (some ⟨g, 0, none⟩))
    (hg : w.heap[g]? = some (.cells #[vp, vc] 25 (0, 0))) : (results Try.f32 tmps).run Try.prog w = .ok (.agg #[vp, vc]) w := by
  have hp' : tmps[2]?.getD undef = .pointer (some ⟨g, 0, none⟩) := by simpa using hp
  have c0 : w.cell? ⟨g, 0, none⟩ = some vp := cell_of_row w g 0 _ _ _ hg
  have c1 : w.cell? ⟨g, 1, none⟩ = some vc := cell_of_row w g 1 _ _ _ hg
  simp [results, Try.results32, go_sem, hp', asAddr, c0, c1]
set_option maxHeartbeats 3200000 in
theorem rown_n (V : Value) (N : Nt) (w : World) (h : NR w V N) (hsm : SmN N) : Calls Try.prog 32 #[V] w (ROwn N w) := by
  obtain ⟨A1, n1, c1, A, n, c, rfl⟩ := h.form
  obtain ⟨_, _, _, _, _, _, e, ps, cks, h1, h2, h3, h4⟩ := h
  cases e
  obtain ⟨hn, hnc, hcm, hx⟩ := h2.cells
  have hn1 := h1.cells.1
  obtain ⟨W0, hW0⟩ : ∃ W, W = (w.alloc (.cells #[.slice A1 n1 c1, .slice A n c] 25)).alloc (.cells #[.slice none 0 0, .slice none 0 0] 25) := ⟨_, rfl⟩
  obtain ⟨G, hG⟩ : ∃ G, G = w.heap.size := ⟨_, rfl⟩
  have hF0 : Frm (fun _ => False) w W0 := by rw [hW0]; exact ((Frm.refl _ w).alloc _).alloc _
  have hb0 : Blk W0 G 25 #[.slice A1 n1 c1, .slice A n c] := by rw [hW0, hG]; exact (Blk.new w _ _).alloc _
  have hb1 : Blk W0 (G + 1) 25 #[.slice none 0 0, .slice none 0 0] := by
    rw [hW0, hG]
    have := Blk.new (w.alloc (.cells #[.slice A1 n1 c1, .slice A n c] 25)) 25 #[.slice none 0 0, .slice none 0 0]
    rwa [World.size_alloc] at this
  have hrow : ∀ k ∈ cks, k.c.row.length ≤ 1000000 := fun k hk => hsm.2.2.2 k.c (by rw [← h4]; exact List.mem_map_of_mem hk)
  have hin : ∀ p ∈ ps, p.p.ins.length ≤ 1000000 := fun p hp => hsm.2.2.1 p.p (by rw [← h3]; exact List.mem_map_of_mem hp)
  have hn1k : n1 ≤ 1000 := by have := hsm.1; rw [← h3, List.length_map] at this; omega
  have hnk : n ≤ 1000 := by have := hsm.2.1; rw [← h4, List.length_map] at this; omega
  have H := Lib.hid (And.intro hn (And.intro hx (And.intro h2.2 (And.intro hrow (And.intro hF0 (And.intro hb0 (And.intro hb1 hG)))))))
  have HP := Lib.hid (And.intro h1 (And.intro hin (And.intro hn1k (And.intro h3 h4))))
  obtain ⟨i0, hi, hz0, hz1, hz2⟩ := infoCe'
  obtain ⟨i1, hi1, hy0, hy1, hy2⟩ := info_parts infoC
  clear h1 h2 h3 h4 hn hx hrow hin hn1 hF0 hb0 hb1 hsm hn1k hnc hcm
  go_enter Try.func32, Try.ntmps32
  go_upto_region 1 with fail
  rw [← hG, ← hW0]
  clear hG hW0
  go_wp2_with fail
  go_loopw [3, 4] (fun o i wr => ∃ (k : Nat) (Av : Option Addr) (cv : Nat), k ≤ n ∧ i = .int .i64 k ∧ o = .slice Av k cv ∧ Hid (∃ zs, CR wr W0.heap.size (.slice Av k cv) zs ∧ zs.map (·.c) = (cks.map (·.c)).take k ∧ Frm (fun _ => False) W0 wr)) (fun _ i _ => n - (intOf i).toNat)
  case atStart => exact ⟨0, none, 0, Nat.zero_le _, rfl, rfl, Lib.hid ⟨[], CR.nil _ _, rfl, Frm.refl _ _⟩⟩
  case round =>
    obtain ⟨k, Av, cv, hk, rfl, rfl, hT⟩ := hrel
    obtain ⟨zs, hCR, hzs, hF⟩ := hT.out
    have hbw := H.out.2.2.2.2.2.1.kept hF id
    by_cases hlt : k < n
    · obtain ⟨hn, hx, hsl, hin, hF0, -⟩ := H.out
      have x1 : wr.cell? ⟨G, 1, none⟩ = some (.slice A n c) := hbw.cell 1
      have hkx : k < cks.length := by omega
      obtain ⟨g, o, rfl, hg, d0, d1, d2, d3⟩ := hx k hkx
      have sa := hsl cks[k] (List.getElem_mem hkx)
      have hl := hin cks[k] (List.getElem_mem hkx)
      have hts := map_take_c cks k hkx
      obtain ⟨x, hxk⟩ : ∃ x, x = cks[k] := ⟨_, rfl⟩
      rw [← hxk] at d0 d1 d2 d3 sa hl hts
      obtain ⟨vx, ch⟩ := x
      obtain ⟨A5, n5, c5, e5, -⟩ := id sa
      dsimp only at *
      subst e5
      have hFw := hF0.trans hF fun _ h => h.elim
      replace d0 := hFw.cell d0 id
      replace d1 := hFw.cell d1 id
      replace d2 := hFw.cell d2 id
      replace d3 := hFw.cell d3 id
      have hzl : zs.length = k := by have := congrArg List.length hzs; simp at this; omega
      have hn5 : n5 = ch.row.length := sa.cells.1
      have HS := Lib.hid (And.intro sa (And.intro hl (And.intro hts (And.intro hCR (And.intro hzs (And.intro hFw (And.intro hzl (And.intro hF hn5))))))))
      have hk0 : (0 : Int) ≤ (k : Int) := by omega
      clear hn hx hsl hin hCR hzs hF hFw hF0 hkx hg sa hl hts hxk hzl hT hbw hn5
      go_upto_region 6 with fail
      obtain ⟨W5, hW5⟩ : ∃ W, W = wr.alloc (.cells #[.slice A5 n5 c5, .int .i64 ch.at_, .int .u32 ch.sum, .int .i64 ch.wrong] 46) := ⟨_, rfl⟩
      rw [← hW5]
      have hF5 : Frm (fun _ => False) wr W5 := by rw [hW5]; exact (Frm.refl _ wr).alloc _
      have hb5 : Blk W5 wr.heap.size 46 #[.slice A5 n5 c5, .int .i64 ch.at_, .int .u32 ch.sum, .int .i64 ch.wrong] := by rw [hW5]; exact Blk.new wr _ _
      clear hW5 d0 d1 d2 d3 x1
      obtain ⟨gp, hgp⟩ : ∃ g, g = wr.heap.size := ⟨_, rfl⟩
      rw [← hgp] at hb5 ⊢
      have p1 : (W5.alloc (.cells #[] 49)).cell? ⟨gp, 0, none⟩ = some (.slice A5 n5 c5) := (hb5.alloc _).cell 0
      have H5 := Lib.hid (And.intro hF5 (And.intro hb5 hgp))
      clear hF5 hb5 hgp
      go_upto_region 7 with (at_builtin; go_loud (
        refine wpList_append_slz (by rfl) _ _ 43 (by rfl) W5.heap.size 49 i0 (.agg #[.int .u8 0, .int .i64 0, .int .u32 0]) 3 24 Try.underlying43 hi hz0 hz1 hz2 (by rfl) (by decide) (.slice (some ⟨W5.heap.size, 0, none⟩) 0 0) 0 [] (by rfl) (World.ownsRow_made _ _ _ (Nat.le_refl _) (Nat.zero_le _) rfl) (fun q => q < w.heap.size) (.slice A5 n5 c5) n5 (ch.row.flatMap eCells) (by rfl) ?_ ?_ ?_ ?_ ?_ ?_ ?_
        · exact HS.out.1.keptTo fun q hq => ⟨((HS.out.2.2.2.2.2.1.trans H5.out.1 fun _ h => h.elim).alloc _).block q hq id, hq⟩
        · rw [flat3 eCells (fun _ => rfl), HS.out.2.2.2.2.2.2.2.2]
        · exact e_one ch.row
        · have := HS.out.2.1; have := HS.out.2.2.2.2.2.2.2.2; unfold maxLen; omega
        · have := HS.out.2.1; have := HS.out.2.2.2.2.2.2.2.2; omega
        · simp
        intro A6 N6 c6 W6 HN6 hNc6 hc6 hown6 hg6 hat6
        have hF6 : Frm (fun _ => False) W5 W6 := ((Frm.refl _ W5).alloc _).grown hg6 (fun q hq => Or.inr (by have h : some W5.heap.size = some q := hq; injection h; omega))
        have hb6 := H5.out.2.1.kept hF6 id
        have f6 := hb6.frozen 0
        have e6 : W6.cell? ⟨gp, 0, none⟩ = some (.slice A5 n5 c5) := hb6.cell 0
        have H6 := Lib.hid (And.intro hown6 (And.intro hF6 (And.intro hb6 HN6)))
        clear hown6 hg6 hat6 hF6 hb6))
      have hFs : Frm (fun q => q = gp) W6 (W6.setCell ⟨gp, 0, none⟩ (.slice A6 N6 c6)) := (Frm.refl (fun q => q = gp) W6).setCell ⟨gp, 0, none⟩ (.inl rfl) _
      have hb7 : Blk (W6.setCell ⟨gp, 0, none⟩ (.slice A6 N6 c6)) gp 46 #[.slice A6 N6 c6, .int .i64 ch.at_, .int .u32 ch.sum, .int .i64 ch.wrong] := H6.out.2.2.1.set_ 0 _
      have ho7 : (W6.setCell ⟨gp, 0, none⟩ (.slice A6 N6 c6)).ownsRow W5.heap.size 49 3 (.slice A6 N6 c6) N6 (ch.row.flatMap eCells) := by
        have := hFs.own H6.out.1 fun q hq hk => own_blk_ne H6.out.1 H6.out.2.2.1 (by decide) (by rw [hq, hk])
        simpa using this
      have hFw : Frm (fun _ => False) wr (W6.setCell ⟨gp, 0, none⟩ (.slice A6 N6 c6)) := (H5.out.1.trans H6.out.2.1 fun _ h => h.elim).trans hFs fun q hq => .inr (by rw [hq, H5.out.2.2]; exact Nat.le_refl _)
      generalize W6.setCell ⟨gp, 0, none⟩ (.slice A6 N6 c6) = W7 at *
      have e0 : W7.cell? ⟨gp, 0, none⟩ = some (.slice A6 N6 c6) := hb7.cell 0
      have e1 : W7.cell? ⟨gp, 1, none⟩ = some (.int .i64 ch.at_) := hb7.cell 1
      have e2 : W7.cell? ⟨gp, 2, none⟩ = some (.int .u32 ch.sum) := hb7.cell 2
      have e3 : W7.cell? ⟨gp, 3, none⟩ = some (.int .i64 ch.wrong) := hb7.cell 3
      have hPR7 := HS.out.2.2.2.1.keptF hFw
      have hN6 : N6 = ch.row.length := by have := H6.out.2.2.2.out; have := HS.out.2.2.2.2.2.2.2.2; omega
      have hs5 : wr.heap.size ≤ W5.heap.size := H5.out.1.size
      have hsw : W0.heap.size ≤ wr.heap.size := HS.out.2.2.2.2.2.2.2.1.size
      have hsW : wr.heap.size ≤ W7.heap.size := hFw.size
      have H7 := Lib.hid (And.intro ho7 (And.intro hFw (And.intro hPR7 (And.intro hN6 (And.intro hs5 (And.intro hsw hsW))))))
      clear ho7 hFw hPR7 hN6 hs5 hsw hsW hFs hb7 f6 e6 p1 H6
      go_wp2_with (at_builtin; refine wpList_append_slz (by rfl) _ _ 23 (by rfl) W0.heap.size 46 i1 _ 4 48 Try.underlying23 hi1 hy0 hy1 hy2 (by rfl) (by decide) _ k (zs.flatMap cCells) (by rfl) (by have := H7.out.2.2.1.1; rw [HS.out.2.2.2.2.2.2.1] at this; exact ((Frm.refl (fun _ => False) W7).alloc _).own this fun _ _ => id) (fun q => q = W7.heap.size) _ 1 [.slice A6 N6 c6, .int .i64 ch.at_, .int .u32 ch.sum, .int .i64 ch.wrong] (by rfl) (SlZ.blk4 W7 _ _ _ _ _) rfl (by intro u hu; simp only [List.mem_cons, List.not_mem_nil, or_false] at hu; rcases hu with rfl | rfl | rfl | rfl <;> rfl) (by unfold maxLen; omega) (by omega) (by have := H7.out.2.2.2.2.2.1; have := H7.out.2.2.2.2.2.2; simp; omega) ?_; intro A8 N8 c8 W8 HN8 hNc8 hc8 hown8 hg8 hat8; have H8 := Lib.hid (And.intro hown8 hg8); clear hown8 hg8 hat8)
      go_roundw
      case rel =>
        obtain rfl : N8 = k + 1 := HN8.out
        obtain ⟨ho7, hFw, hPR7, hN6, hs5, hsw, hsW⟩ := H7.out
        obtain ⟨-, -, hts, hPR, hzs, -, hzl, hF, -⟩ := HS.out
        subst hN6
        have hF8 : Frm (fun q => (Value.slice Av k cv).ownBlock = some q) W7 W8 := ((Frm.refl _ W7).alloc _).grown H8.out.2 fun q hq => .inl hq
        refine ⟨k + 1, A8, c8, by omega, by go_num, rfl, Lib.hid ⟨zs ++ [⟨.slice A6 ch.row.length c6, ch⟩], ?_, ?_, ?_⟩⟩
        · exact CR.snoc (x := ⟨.slice A6 ch.row.length c6, ch⟩) hPR7 (World.ownsRow.mono ho7 (by omega)) (by rw [hzl]; exact H8.out.1) hF8
        · rw [List.map_append, hzs, hts]; rfl
        · exact (hF.trans hFw fun _ h => h.elim).trans hF8 fun q hq => .inr (World.ownsRow.lt hPR.1 q hq).1
      case measure => simp [intOf]; omega
    · obtain rfl : k = n := by omega
      have x0 : wr.cell? ⟨G, 0, none⟩ = some (.slice A1 n1 c1) := hbw.cell 0
      have x1 : wr.cell? ⟨G, 1, none⟩ = some (.slice A k c) := hbw.cell 1
      have hFw := H.out.2.2.2.2.1.trans hF fun _ h => h.elim
      have hop := ownp_any A1 n1 c1 ps wr (HP.out.1.keptTo fun q hq => ⟨hFw.block q hq id, Nat.lt_of_lt_of_le hq hFw.size⟩) HP.out.2.2.1 HP.out.2.1
      have HO := Lib.hid (And.intro hop (And.intro hFw (And.intro hF (And.intro hCR hzs))))
      clear hop hFw hF hCR hzs hbw hT
      go_wp2_with fail
      refine HO.out.1.mono ?_
      rintro e w2 ⟨A7, N7, c7, ps', rfl, hPR, hN7, hNc7, hcm7, hpp, hF2⟩
      have hb2 := H.out.2.2.2.2.2.2.1.kept (HO.out.2.2.1.trans hF2 fun _ h => h.elim) id
      have y0 : w2.cell? ⟨G + 1, 0, none⟩ = some (.slice none 0 0) := hb2.cell 0
      have y1 : w2.cell? ⟨G + 1, 1, none⟩ = some (.slice none 0 0) := hb2.cell 1
      have f0 := hb2.frozen 0
      have f1 := hb2.frozen 1
      have H2 := Lib.hid (And.intro hPR (And.intro hpp (And.intro hF2 hb2)))
      clear hPR hpp hF2 hb2 x0 x1 hNc7 hcm7 hN7
      go_wp2_with fail
      have hb3 : Blk ((w2.setCell ⟨G + 1, 0, none⟩ (.slice A7 N7 c7)).setCell ⟨G + 1, 1, none⟩ (.slice Av k cv)) (G + 1) 25 #[.slice A7 N7 c7, .slice Av k cv] := (H2.out.2.2.2.set_ 0 _).set_ 1 _
      have hF3 : Frm (fun q => q = G + 1) w2 ((w2.setCell ⟨G + 1, 0, none⟩ (.slice A7 N7 c7)).setCell ⟨G + 1, 1, none⟩ (.slice Av k cv)) := ((Frm.refl (fun q => q = G + 1) w2).setCell ⟨G + 1, 0, none⟩ (.inl rfl) _).setCell ⟨G + 1, 1, none⟩ (.inl rfl) _
      refine bodyPost_ret (rown_res _ _ (G + 1) _ _ rfl hb3) rfl ?_
      have hGl : G + 1 < W0.heap.size := H.out.2.2.2.2.2.2.1.lt
      have hwG : w.heap.size ≤ G := Nat.le_of_eq H.out.2.2.2.2.2.2.2.symm
      have hsz : w.heap.size ≤ W0.heap.size := H.out.2.2.2.2.1.size
      have hsr : W0.heap.size ≤ wr.heap.size := HO.out.2.2.1.size
      have hcr := HO.out.2.2.2.1.keptF H2.out.2.2.1
      refine ⟨A7, N7, c7, Av, k, cv, ps', zs, rfl, ?_, ?_, by rw [H2.out.2.1, HP.out.2.2.2.1], ?_, ?_⟩
      · exact (H2.out.1.kept hF3 (fun q hq hk => own_blk_ne H2.out.1.1 H2.out.2.2.2 (by decide) (by rw [hq, hk])) fun x hx q hq hk => own_blk_ne (H2.out.1.2.1 x hx) H2.out.2.2.2 (by decide) (by rw [hq, hk])).mono (by omega)
      · exact (hcr.kept hF3 (fun q hq hk => own_blk_ne hcr.1 H2.out.2.2.2 (by decide) (by rw [hq, hk])) fun x hx q hq hk => own_blk_ne (hcr.2 x hx) H2.out.2.2.2 (by decide) (by rw [hq, hk])).mono (by omega)
      · rw [HO.out.2.2.2.2, List.take_of_length_le (by rw [List.length_map]; exact Nat.le_of_eq H.out.1.symm), HP.out.2.2.2.2]
      · exact (HO.out.2.1.trans H2.out.2.2.1 fun _ h => h.elim).trans hF3 fun q hq => .inr (by omega)
end Go.Proofs.Ytnibllkcacalhaa
namespace Go.Proofs.Ytnibllkcacalhaa
set_option maxRecDepth 100000
open Go.RowKit
/-- All but integers from B on are as they were. -/
structure Kin (B : Nat) (w w' : World) : Prop where
  frm : Frm (fun q => B ≤ q) w w'
  uf : ∀ q, UF w q → UF w' q
  cell : ∀ (a : Addr) (v : Value), w.cell? a = some v → w'.cell? a = some v ∨ ∃ k x y, v = .int k x ∧ w'.cell? a = some (.int k y)
theorem Kin.refl (B : Nat) (w : World) : Kin B w w := ⟨Frm.refl _ _, fun _ h => h, fun _ _ h => .inl h⟩
theorem Kin.slice {B : Nat} {w w' : World} {a : Addr} {A : Option Addr} {n c : Nat} (h : Kin B w w') (hc : w.cell? a = some (.slice A n c)) : w'.cell? a = some (.slice A n c) := by
  rcases h.cell a _ hc with h | ⟨_, _, _, e, -⟩
  · exact h
  · cases e
theorem Kin.int {B : Nat} {w w' : World} {a : Addr} {k : IntKind} {x : Int} (h : Kin B w w') (hc : w.cell? a = some (.int k x)) : ∃ y, w'.cell? a = some (.int k y) := by
  rcases h.cell a _ hc with h | ⟨_, _, y, e, h⟩
  · exact ⟨x, h⟩
  · cases e; exact ⟨y, h⟩
theorem Kin.open_ {B : Nat} {w w' : World} {g : Nat} (h : Kin B w w') (hu : UF w g) (i : Nat) : w'.frozen? ⟨g, i, none⟩ = false := by
  obtain ⟨cs, t, hb⟩ := h.uf g hu
  exact hb.frozen i
theorem Kin.set {B : Nat} {w w' : World} {g i : Nat} {k : IntKind} {x y : Int} (h : Kin B w w') (hc : w'.cell? ⟨g, i, none⟩ = some (.int k x)) (hg : B ≤ g) (hu : UF w g) : Kin B w (w'.setCell ⟨g, i, none⟩ (.int k y)) := by
  obtain ⟨cs, t, hb⟩ := h.uf g hu
  have hb2 := hb.set_ i (.int k y)
  have hF : Frm (fun q => q = g) w' (w'.setCell ⟨g, i, none⟩ (.int k y)) := (Frm.refl (fun q => q = g) w').setCell ⟨g, i, none⟩ (.inl rfl) _
  refine ⟨h.frm.setCell _ (.inl hg) _, fun q hq => ?_, fun a v ha => ?_⟩
  · by_cases e : q = g
    · subst e; exact ⟨_, _, hb2⟩
    · have := h.uf q hq
      exact this.of (hF.block q (by obtain ⟨_, _, h⟩ := this; exact h.lt) e)
  · have key : w'.cell? a = some v ∨ (∃ k x y, v = .int k x ∧ w'.cell? a = some (.int k y)) := h.cell a v ha
    by_cases e : a = ⟨g, i, none⟩
    · subst e
      have hlt : i < cs.size := by
        rw [hb.cell] at hc
        rcases Nat.lt_or_ge i cs.size with h | h
        · exact h
        · rw [Array.getElem?_eq_none h] at hc; cases hc
      have hy : (w'.setCell ⟨g, i, none⟩ (.int k y)).cell? ⟨g, i, none⟩ = some (.int k y) := by rw [hb2.cell, Array.getElem?_setIfInBounds_self_of_lt hlt]
      rcases key with h1 | ⟨k', x', y', e1, h1⟩
      · rw [hc] at h1; cases h1; exact .inr ⟨k, x, y, rfl, hy⟩
      · rw [hc] at h1; cases h1; exact .inr ⟨k, x', y, e1, hy⟩
    · have hs : (w'.setCell ⟨g, i, none⟩ (.int k y)).cell? a = w'.cell? a := by
        by_cases eb : a.block = g
        · obtain ⟨ab, ao, asp⟩ := a
          dsimp only at eb
          subst eb
          cases asp with
          | some s => 
            rcases key with h1 | ⟨_, _, _, -, h1⟩
            · have := World.cell?_spot h1; cases this
            · have := World.cell?_spot h1; cases this
          | none =>
            rw [hb2.cell, hb.cell, Array.getElem?_setIfInBounds_ne (by intro e'; exact e (by rw [e']))]
        · exact World.cell?_of_block (w := w') (Below.heap_setCell w' _ _ _ eb)
      rw [hs]
      exact key
/-- What the loops reach of a net. -/
def ShapeC (w : World) (B : Nat) (A : Option Addr) (n : Nat) : Prop := ∀ k, k < n → ∃ g o A5 n5 c5, A = some ⟨g, o, none⟩ ∧ w.cell? ⟨g, o + k * 4, none⟩ = some (.slice A5 n5 c5) ∧ n5 ≤ 9223372036854775807 ∧
  ∀ j, j < n5 → ∃ g' o' x, A5 = some ⟨g', o', none⟩ ∧ B ≤ g' ∧ UF w g' ∧ w.cell? ⟨g', o' + j * 3 + 2, none⟩ = some (.int .u32 x)
def ShapeP (w : World) (B : Nat) (A : Option Addr) (n : Nat) : Prop := ∀ k, k < n → ∃ g o A5 n5 c5 x0, A = some ⟨g, o, none⟩ ∧ B ≤ g ∧ UF w g ∧ w.cell? ⟨g, o + k * 3, none⟩ = some (.int .i64 x0) ∧ w.cell? ⟨g, o + k * 3 + 1, none⟩ = some (.slice A5 n5 c5) ∧ n5 ≤ 9223372036854775807 ∧
  ∀ j, j < n5 → ∃ g' o' x, A5 = some ⟨g', o', none⟩ ∧ B ≤ g' ∧ UF w g' ∧ w.cell? ⟨g', o' + j, none⟩ = some (.int .u32 x)
theorem NV.shape {w : World} {B : Nat} {A1 A : Option Addr} {n1 c1 n c : Nat} {N : Nt} (h : NV w (CellsFrom w B) (.agg #[.slice A1 n1 c1, .slice A n c]) N) : ShapeC w B A n ∧ ShapeP w B A1 n1 ∧ n ≤ 9223372036854775807 ∧ n1 ≤ 9223372036854775807 := by
  obtain ⟨_, _, _, _, _, _, e, ps, cks, h1, h2, h3, h4⟩ := h
  cases e
  obtain ⟨q1, q2, q3, hx⟩ := h2.cells
  obtain ⟨p1, p2, p3, hy⟩ := h1.cells
  refine ⟨fun k hk => ?_, fun k hk => ?_, by omega, by omega⟩
  · have hkx : k < cks.length := by omega
    obtain ⟨g, o, rfl, -, d0, -⟩ := hx k hkx
    have hra := h2.2 cks[k] (List.getElem_mem hkx)
    obtain ⟨A5, n5, c5, e5, -⟩ := id hra
    rw [e5] at d0 hra
    obtain ⟨r1, r2, r3, hr⟩ := hra.cells
    refine ⟨g, o, A5, n5, c5, rfl, d0, by omega, fun j hj => ?_⟩
    obtain ⟨g', o', rfl, hg', -, -, e2⟩ := hr j (by omega)
    exact ⟨g', o', _, rfl, hg'.1, hg'.2, e2⟩
  · have hkx : k < ps.length := by omega
    obtain ⟨g, o, rfl, hg, d0, d1, -⟩ := hy k hkx
    obtain ⟨A5, n5, c5, e5, r1, r2, r3, hr⟩ := h1.2 ps[k] (List.getElem_mem hkx)
    rw [e5] at d1
    refine ⟨g, o, A5, n5, c5, _, rfl, hg.1, hg.2, d0, d1, by omega, fun j hj => ?_⟩
    obtain ⟨g', o', rfl, hg', e2⟩ := hr.resolve_left (by omega)
    have hl : j < (uv ps[k].p.ins).length := by omega
    have := e2 j hl
    refine ⟨g', o', ps[k].p.ins[j]'(by simpa [uv] using hl), rfl, hg'.1, hg'.2, ?_⟩
    rw [this]
    simp [uv]
/-- A box of a net in memory from B on, not frozen. -/
structure NBC (w : World) (B g : Nat) (A1 : Option Addr) (n1 c1 : Nat) (A : Option Addr) (n c : Nat) (N : Nt) : Prop where
  b : Blk w g 25 #[.slice A1 n1 c1, .slice A n c]
  v : NV w (CellsFrom w B) (.agg #[.slice A1 n1 c1, .slice A n c]) N
theorem NBC.keptK {w w' : World} {B g : Nat} {A1 A : Option Addr} {n1 c1 n c : Nat} {N : Nt} {K : Nat → Prop} (h : NBC w B g A1 n1 c1 A n c N) (hF : Frm K w w') (hg : ¬ K g) (hK : ∀ q, B ≤ q → ¬ K q) : NBC w' B g A1 n1 c1 A n c N :=
  ⟨h.b.kept hF hg, NV.keptTo h.v fun q hq => ⟨hF.block q hq.lt (hK q hq.1), hq.1, hq.2.of (hF.block q hq.lt (hK q hq.1))⟩⟩
theorem NBC.kept {w w' : World} {B g : Nat} {A1 A : Option Addr} {n1 c1 n c : Nat} {N : Nt} (h : NBC w B g A1 n1 c1 A n c N) (hF : Frm (fun _ => False) w w') : NBC w' B g A1 n1 c1 A n c N := h.keptK hF id fun _ _ => id
theorem NBC.new {w : World} {B B' : Nat} {A1 A : Option Addr} {n1 c1 n c : Nat} {N : Nt} (h : NV w (CellsFrom w B') (.agg #[.slice A1 n1 c1, .slice A n c]) N) (hB : B ≤ B') : NBC (w.alloc (.cells #[.slice A1 n1 c1, .slice A n c] 25)) B w.heap.size A1 n1 c1 A n c N :=
  ⟨Blk.new w _ _, NV.keptTo h fun q hq => ⟨((Frm.refl (fun _ => False) w).alloc _).block q hq.lt id, Nat.le_trans hB hq.1, hq.2.of (((Frm.refl (fun _ => False) w).alloc _).block q hq.lt id)⟩⟩
theorem NBC.c0 {w : World} {B g : Nat} {A1 A : Option Addr} {n1 c1 n c : Nat} {N : Nt} (h : NBC w B g A1 n1 c1 A n c N) : w.cell? ⟨g, 0, none⟩ = some (.slice A1 n1 c1) := h.b.cell 0
theorem NBC.c1 {w : World} {B g : Nat} {A1 A : Option Addr} {n1 c1 n c : Nat} {N : Nt} (h : NBC w B g A1 n1 c1 A n c N) : w.cell? ⟨g, 1, none⟩ = some (.slice A n c) := h.b.cell 1
theorem ROwn.nvl {w w' : World} {A1 A : Option Addr} {n1 c1 n c : Nat} {ps : List Pk} {cks : List Ck} {N : Nt} (h1 : PR w' w.heap.size (.slice A1 n1 c1) ps) (h2 : CR w' w.heap.size (.slice A n c) cks) (h3 : ps.map (·.p) = N.ps) (h4 : cks.map (·.c) = N.cs) : NR w' (.agg #[.slice A1 n1 c1, .slice A n c]) N :=
  ⟨_, _, _, _, _, _, rfl, ps, cks, h1.at.keptTo fun q hq => ⟨rfl, hq.2⟩, h2.cs.keptTo fun q hq => ⟨rfl, hq.2⟩, h3, h4⟩
end Go.Proofs.Ytnibllkcacalhaa
