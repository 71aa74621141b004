/- The walks of teasellaw24.sane, errands. What the laws of nets ask: plain; Great at a value. The walk of teaselref24.Own. The walk of teaselref24.Ready. The walk of teasellaw24.errands; what the end of a net comes to: plain. -/
import Derived.Test.YtnibllkcacalhaaGF
import Derived.Test.YtnibllkcacalhaaHWa
import Derived.Test.YtnibllkcacalhaaGG
namespace Go.Proofs.Ytnibllkcacalhaa
set_option maxRecDepth 100000
open Go.RowKit
theorem sane_no {cs : List Ch} {k : Nat} (h : k < cs.length) (hf : decide (cs[k].wrong ≤ cs[k].at_) = false) : (cs.all fun c => decide (c.wrong ≤ c.at_)) = false := by
  rw [List.all_eq_false]
  exact ⟨cs[k], List.getElem_mem h, by simp [hf]⟩
set_option maxHeartbeats 1600000 in
theorem sane_v (V : Value) (N : Nt) (w : World) (h : NR w V N) : Calls Try.prog 29 #[V] w (RetBool (saneB N) w) := by
  obtain ⟨A1, n1, c1, A, n, c, rfl⟩ := h.form
  obtain ⟨W, hW⟩ : ∃ W, W = w.alloc (.cells #[.slice A1 n1 c1, .slice A n c] 25) := ⟨_, rfl⟩
  obtain ⟨G, hG⟩ : ∃ G, G = w.heap.size := ⟨_, rfl⟩
  have hF : Frm (fun _ => False) w W := by rw [hW]; exact (Frm.refl _ w).alloc _
  have hb : Blk W G 25 #[.slice A1 n1 c1, .slice A n c] := by rw [hW, hG]; exact Blk.new w _ _
  obtain ⟨_, _, _, _, _, _, e, ps, cks, h1, h2, h3, h4⟩ := h
  cases e
  obtain ⟨hn, hnc, hcm, hx⟩ := h2.cells
  have hnm : n ≤ 9223372036854775807 := by omega
  have H := Lib.hid (And.intro hF (And.intro hb (And.intro hn (And.intro hx h4))))
  clear h1 h2 h3 h4 hn hx hF hb hnc hcm
  go_enter Try.func29, Try.ntmps29
  go_upto_region 1 with fail
  rw [← hG, ← hW]
  clear hG hW
  go_wp2_with fail
  go_loopw [3] (fun i wr => ∃ k : Nat, k ≤ n ∧ i = .int .i64 k ∧ Hid ((∀ j (h : j < N.cs.length), j < k → N.cs[j].wrong ≤ N.cs[j].at_) ∧ Frm (fun _ => False) W wr)) (fun i _ => n - (intOf i).toNat)
  case atStart => exact ⟨0, Nat.zero_le _, rfl, Lib.hid ⟨fun j _ h => by omega, Frm.refl _ _⟩⟩
  case round =>
    obtain ⟨k, hk, rfl, hT⟩ := hrel
    have hbw := H.out.2.1.kept hT.out.2 id
    have x1 : wr.cell? ⟨G, 1, none⟩ = some (.slice A n c) := hbw.cell 1
    clear hbw
    by_cases hlt : k < n
    · obtain ⟨hF, -, hn, hx, h4⟩ := H.out
      have hkx : k < cks.length := by omega
      obtain ⟨g, o, rfl, hg, d0, d1, d2, d3⟩ := hx k hkx
      have hFw := hF.trans hT.out.2 fun _ h => h.elim
      replace d1 := hFw.cell d1 id
      replace d3 := hFw.cell d3 id
      have hkN : k < N.cs.length := by rw [← h4, List.length_map]; exact hkx
      have hck : cks[k].c = N.cs[k] := by simp only [← h4, List.getElem_map]
      rw [hck] at d1 d3
      have hno : decide (N.cs[k].wrong ≤ N.cs[k].at_) = false → saneB N = false := fun h => sane_no hkN h
      have hyes : N.cs[k].wrong ≤ N.cs[k].at_ → ∀ j (h : j < N.cs.length), j < k + 1 → N.cs[j].wrong ≤ N.cs[j].at_ := fun hb j h hj => by
        rcases Nat.lt_or_ge j k with h1 | h1
        · exact hT.out.1 j h h1
        · obtain rfl : j = k := by omega
          exact hb
      have HS := Lib.hid (And.intro hno (And.intro hyes hT.out.2))
      clear hF hn hx h4 hg hFw hck hno hyes hT d0 d2
      generalize N.cs[k] = cc at *
      clear hkN hkx
      have hk0 : (0 : Int) ≤ (k : Int) := by omega
      by_cases hs : cc.wrong ≤ cc.at_
      · have h2 : decide (cc.at_ < cc.wrong) = false := by simp; omega
        have Hy := Lib.hid (HS.out.2.1 hs)
        clear hs
        go_wp2_with fail
        go_quiet (fail)
        go_wp2_with fail
        go_roundw
        case rel => exact ⟨k + 1, by omega, by go_num, Lib.hid ⟨Hy.out, HS.out.2.2.drewN _⟩⟩
        case measure => simp [intOf]; omega
      · have h2 : decide (cc.at_ < cc.wrong) = true := by simp; omega
        have Hn := Lib.hid (HS.out.1 (by simpa using hs))
        clear hs
        go_wp2_with fail
        go_quiet (fail)
        go_wp2_with fail
        go_ret
        exact ⟨by rw [Hn.out]; rfl, (H.out.1.trans HS.out.2.2 fun _ h => h.elim).drewN _⟩
    · obtain rfl : k = n := by omega
      have hr : saneB N = true := by
        unfold saneB
        rw [List.all_eq_true]
        intro y hy
        obtain ⟨j, hj, rfl⟩ := List.getElem_of_mem hy
        simpa using hT.out.1 j hj (by have := H.out.2.2.1; have h4 := H.out.2.2.2.2; have := congrArg List.length h4; simp at this; omega)
      have HR := Lib.hid hr
      clear hr
      go_wp2_with fail
      go_ret
      exact ⟨by rw [HR.out]; rfl, H.out.1.trans hT.out.2 fun _ h => h.elim⟩
end Go.Proofs.Ytnibllkcacalhaa
namespace Go.Proofs.Ytnibllkcacalhaa
set_option maxRecDepth 100000
open Go.RowKit
def GreatV (N : Nt) (w : World) (e : Ending) (w' : World) : Prop := ∃ g : Bool, e = .returned (.bool g) ∧ Frm (fun _ => False) w w' ∧ (g = false → SmN N ∧ leftNt N ≤ 1000000)
theorem left_le (l : List Ch) (h : ∀ c ∈ l, c.row.length ≤ 1000) : (l.map leftC).sum ≤ l.length * 1000 := by
  induction l with
  | nil => simp
  | cons y ys ih =>
    have h1 := h y (by simp)
    have h2 := ih fun c hc => h c (by simp [hc])
    simp only [List.map_cons, List.sum_cons, List.length_cons]
    have : leftC y ≤ y.row.length := by unfold leftC; omega
    omega
theorem great_v (V : Value) (N : Nt) (w : World) (h : NR w V N) : Calls Try.prog 8 #[V] w (GreatV N w) := by
  obtain ⟨A1, n1, c1, A, n, c, rfl, ps, cks, h1, h2, h3, h4⟩ := h
  obtain ⟨N1, N2⟩ := N
  dsimp only at h3 h4
  subst h3 h4
  refine (great_n A1 n1 c1 A n c ps cks w h1 h2).mono ?_
  rintro e w' ⟨g, rfl, hF, hg⟩
  refine ⟨g, rfl, hF, fun h => ?_⟩
  obtain ⟨q1, ⟨-, q2, q3⟩, q4⟩ := hg h
  have hrow : ∀ c ∈ cks.map (·.c), c.row.length ≤ 1000 := fun c hc => by
    obtain ⟨k, hk, rfl⟩ := List.mem_map.1 hc
    have := q4 k hk; omega
  refine ⟨⟨by rw [List.length_map]; omega, by rw [List.length_map]; omega, fun p hp => ?_, fun c hc => by have := hrow c hc; omega⟩, ?_⟩
  · obtain ⟨k, hk, rfl⟩ := List.mem_map.1 hp
    have := q3 k hk; omega
  · have := left_le _ hrow
    unfold leftNt
    rw [List.length_map] at this
    dsimp only
    omega
theorem sm_right {N : Nt} (h : rightNt N = true) : SmN N ∧ leftNt N ≤ 1000000 := by
  obtain ⟨q1, q2, q3, q4⟩ := right_sm h
  refine ⟨⟨by omega, by omega, fun p hp => by have := q3 p hp; omega, fun c hc => by have := q4 c hc; omega⟩, ?_⟩
  have := left_le N.cs fun c hc => by have := q4 c hc; omega
  unfold leftNt
  omega
theorem clean_right {N : Nt} (h : cleanNt N = true) : rightNt N = true := by
  unfold cleanNt at h
  simp only [Bool.and_eq_true] at h
  exact h.1
/-- What NetPicks asks. -/
theorem picks_plain {N : Nt} (xs ys : List Int) (hcl : cleanNt N = true) (hs : saneB N = true) :
    (finN (runNt N xs).1).1 = (finN N).1 ∧ (finN (runNt N ys).1).1 = (finN N).1 ∧ (runNt N xs).2 + (finN (runNt N xs).1).2 = (finN N).2 ∧ (runNt N ys).2 + (finN (runNt N ys).1).2 = (finN N).2 ∧ (finN N).2 ≤ 1000000 ∧
      rightNt N = true ∧ rightNt (runNt N xs).1 = true ∧ rightNt (runNt N ys).1 = true ∧ SmN (runNt N xs).1 ∧ SmN (runNt N ys).1 ∧ leftNt (runNt N xs).1 ≤ 1000000 ∧ leftNt (runNt N ys).1 ≤ 1000000 ∧ True := by
  have e1 := fin_run xs N hcl hs
  have e2 := fin_run ys N hcl hs
  have hr := clean_right hcl
  have r1 := (run_goes xs N hr hs).1
  have r2 := (run_goes ys N hr hs).1
  have hl := (fin_le (leftNt N) N (Nat.le_refl _)).1
  have hm := (sm_right hr).2
  refine ⟨by rw [e1], by rw [e2], by rw [e1], by rw [e2], by omega, hr, r1, r2, (sm_right r1).1, (sm_right r2).1, (sm_right r1).2, (sm_right r2).2, trivial⟩
end Go.Proofs.Ytnibllkcacalhaa
namespace Go.Proofs.Ytnibllkcacalhaa
set_option maxRecDepth 100000
open Go.RowKit
/-- A slice of chores in memory of its own, from nb on. -/
def CR (w : World) (nb : Nat) (v : Value) (cks : List Ck) : Prop :=
  w.ownsRow nb 46 4 v cks.length (cks.flatMap cCells) ∧ ∀ x ∈ cks, w.ownsRow nb 49 3 x.v x.c.row.length (x.c.row.flatMap eCells)
theorem CR.nil (w : World) (nb : Nat) : CR w nb (.slice none 0 0) [] := ⟨World.ownsRow_nil _ _ _ _, by simp⟩
theorem CR.kept {w w' : World} {nb : Nat} {v : Value} {cks : List Ck} {K : Nat → Prop} (h : CR w nb v cks) (hF : Frm K w w') (h1 : ∀ q, v.ownBlock = some q → ¬ K q) (h2 : ∀ x ∈ cks, ∀ q, x.v.ownBlock = some q → ¬ K q) : CR w' nb v cks :=
  ⟨hF.own h.1 h1, fun x hx => hF.own (h.2 x hx) (h2 x hx)⟩
theorem CR.keptF {w w' : World} {nb : Nat} {v : Value} {cks : List Ck} (h : CR w nb v cks) (hF : Frm (fun _ => False) w w') : CR w' nb v cks := h.kept hF (fun _ _ => id) fun _ _ _ _ => id
theorem CR.mono {w : World} {nb nb' : Nat} {v : Value} {cks : List Ck} (h : CR w nb v cks) (hb : nb' ≤ nb) : CR w nb' v cks :=
  ⟨World.ownsRow.mono h.1 hb, fun x hx => World.ownsRow.mono (h.2 x hx) hb⟩
theorem CR.cs {w : World} {nb : Nat} {v : Value} {cks : List Ck} (h : CR w nb v cks) : CsAt w (fun q => nb ≤ q ∧ q < w.heap.size) v cks :=
  ⟨SlZ.of_own h.1 fun q hq => World.ownsRow.lt h.1 q hq, fun x hx => SlZ.of_own (h.2 x hx) fun q hq => World.ownsRow.lt (h.2 x hx) q hq⟩
/-- One chore more. -/
theorem CR.snoc {w w' : World} {nb : Nat} {v v' : Value} {cks : List Ck} {x : Ck} (h : CR w nb v cks) (hx : w.ownsRow nb 49 3 x.v x.c.row.length (x.c.row.flatMap eCells))
    (ho : w'.ownsRow nb 46 4 v' (cks.length + 1) (cks.flatMap cCells ++ cCells x)) (hF : Frm (fun q => v.ownBlock = some q) w w') : CR w' nb v' (cks ++ [x]) := by
  refine ⟨by rw [List.flatMap_append, List.length_append]; simpa using ho, fun y hy => ?_⟩
  rcases List.mem_append.1 hy with hy | hy
  · exact hF.own (h.2 y hy) fun q hq hk => by
      obtain ⟨cs, hb⟩ := own_blk h.1 q hk
      exact own_blk_ne (h.2 y hy) hb (by decide) hq
  · simp at hy
    subst hy
    exact hF.own hx fun q hq hk => by
      obtain ⟨cs, hb⟩ := own_blk h.1 q hk
      exact own_blk_ne hx hb (by decide) hq
/-- What Own tells. -/
def ROwn (N : Nt) (w : World) (e : Ending) (w' : World) : Prop :=
  ∃ A1 n1 c1 A n c ps cks, e = .returned (.agg #[.slice A1 n1 c1, .slice A n c]) ∧ PR w' w.heap.size (.slice A1 n1 c1) ps ∧ CR w' w.heap.size (.slice A n c) cks ∧ ps.map (·.p) = N.ps ∧ cks.map (·.c) = N.cs ∧ Frm (fun _ => False) w w'
theorem rown_res (tmps : Array Value) (w : World) (g : Nat) (vp vc : Value) (hp : tmps.getD 2 undef = .pointer (some ⟨g, 0, none⟩))
    (hg : w.heap[g]? = some (.cells #[vp, vc] 25 (0, 0))) : (results Try.f32 tmps).run Try.prog w = .ok (.agg #[vp, vc]) w := by
  have hp' : tmps[2]?.getD undef = .pointer (some ⟨g, 0, none⟩) := by simpa using hp
  have c0 : w.cell? ⟨g, 0, none⟩ = some vp := cell_of_row w g 0 _ _ _ hg
  have c1 : w.cell? ⟨g, 1, none⟩ = some vc := cell_of_row w g 1 _ _ _ hg
  simp [results, Try.results32, go_sem, hp', asAddr, c0, c1]
set_option maxHeartbeats 3200000 in
theorem rown_n (V : Value) (N : Nt) (w : World) (h : NR w V N) (hsm : SmN N) : Calls Try.prog 32 #[V] w (ROwn N w) := by
  obtain ⟨A1, n1, c1, A, n, c, rfl⟩ := h.form
  obtain ⟨_, _, _, _, _, _, e, ps, cks, h1, h2, h3, h4⟩ := h
  cases e
  obtain ⟨hn, hnc, hcm, hx⟩ := h2.cells
  have hn1 := h1.cells.1
  obtain ⟨W0, hW0⟩ : ∃ W, W = (w.alloc (.cells #[.slice A1 n1 c1, .slice A n c] 25)).alloc (.cells #[.slice none 0 0, .slice none 0 0] 25) := ⟨_, rfl⟩
  obtain ⟨G, hG⟩ : ∃ G, G = w.heap.size := ⟨_, rfl⟩
  have hF0 : Frm (fun _ => False) w W0 := by rw [hW0]; exact ((Frm.refl _ w).alloc _).alloc _
  have hb0 : Blk W0 G 25 #[.slice A1 n1 c1, .slice A n c] := by rw [hW0, hG]; exact (Blk.new w _ _).alloc _
  have hb1 : Blk W0 (G + 1) 25 #[.slice none 0 0, .slice none 0 0] := by
    rw [hW0, hG]
    have := Blk.new (w.alloc (.cells #[.slice A1 n1 c1, .slice A n c] 25)) 25 #[.slice none 0 0, .slice none 0 0]
    rwa [World.size_alloc] at this
  have hrow : ∀ k ∈ cks, k.c.row.length ≤ 1000000 := fun k hk => hsm.2.2.2 k.c (by rw [← h4]; exact List.mem_map_of_mem hk)
  have hin : ∀ p ∈ ps, p.p.ins.length ≤ 1000000 := fun p hp => hsm.2.2.1 p.p (by rw [← h3]; exact List.mem_map_of_mem hp)
  have hn1k : n1 ≤ 1000 := by have := hsm.1; rw [← h3, List.length_map] at this; omega
  have hnk : n ≤ 1000 := by have := hsm.2.1; rw [← h4, List.length_map] at this; omega
  have H := Lib.hid (And.intro hn (And.intro hx (And.intro h2.2 (And.intro hrow (And.intro hF0 (And.intro hb0 (And.intro hb1 hG)))))))
  have HP := Lib.hid (And.intro h1 (And.intro hin (And.intro hn1k (And.intro h3 h4))))
  obtain ⟨i0, hi, hz0, hz1, hz2⟩ := infoCe'
  obtain ⟨i1, hi1, hy0, hy1, hy2⟩ := info_parts infoC
  clear h1 h2 h3 h4 hn hx hrow hin hn1 hF0 hb0 hb1 hsm hn1k hnc hcm
  go_enter Try.func32, Try.ntmps32
  go_upto_region 1 with fail
  rw [← hG, ← hW0]
  clear hG hW0
  go_wp2_with fail
  go_loopw [3, 4] (fun o i wr => ∃ (k : Nat) (Av : Option Addr) (cv : Nat), k ≤ n ∧ i = .int .i64 k ∧ o = .slice Av k cv ∧ Hid (∃ zs, CR wr W0.heap.size (.slice Av k cv) zs ∧ zs.map (·.c) = (cks.map (·.c)).take k ∧ Frm (fun _ => False) W0 wr)) (fun _ i _ => n - (intOf i).toNat)
  case atStart => exact ⟨0, none, 0, Nat.zero_le _, rfl, rfl, Lib.hid ⟨[], CR.nil _ _, rfl, Frm.refl _ _⟩⟩
  case round =>
    obtain ⟨k, Av, cv, hk, rfl, rfl, hT⟩ := hrel
    obtain ⟨zs, hCR, hzs, hF⟩ := hT.out
    have hbw := H.out.2.2.2.2.2.1.kept hF id
    by_cases hlt : k < n
    · obtain ⟨hn, hx, hsl, hin, hF0, -⟩ := H.out
      have x1 : wr.cell? ⟨G, 1, none⟩ = some (.slice A n c) := hbw.cell 1
      have hkx : k < cks.length := by omega
      obtain ⟨g, o, rfl, hg, d0, d1, d2, d3⟩ := hx k hkx
      have sa := hsl cks[k] (List.getElem_mem hkx)
      have hl := hin cks[k] (List.getElem_mem hkx)
      have hts := map_take_c cks k hkx
      obtain ⟨x, hxk⟩ : ∃ x, x = cks[k] := ⟨_, rfl⟩
      rw [← hxk] at d0 d1 d2 d3 sa hl hts
      obtain ⟨vx, ch⟩ := x
      obtain ⟨A5, n5, c5, e5, -⟩ := id sa
      dsimp only at *
      subst e5
      have hFw := hF0.trans hF fun _ h => h.elim
      replace d0 := hFw.cell d0 id
      replace d1 := hFw.cell d1 id
      replace d2 := hFw.cell d2 id
      replace d3 := hFw.cell d3 id
      have hzl : zs.length = k := by have := congrArg List.length hzs; simp at this; omega
      have hn5 : n5 = ch.row.length := sa.cells.1
      have HS := Lib.hid (And.intro sa (And.intro hl (And.intro hts (And.intro hCR (And.intro hzs (And.intro hFw (And.intro hzl (And.intro hF hn5))))))))
      have hk0 : (0 : Int) ≤ (k : Int) := by omega
      clear hn hx hsl hin hCR hzs hF hFw hF0 hkx hg sa hl hts hxk hzl hT hbw hn5
      go_upto_region 6 with fail
      obtain ⟨W5, hW5⟩ : ∃ W, W = wr.alloc (.cells #[.slice A5 n5 c5, .int .i64 ch.at_, .int .u32 ch.sum, .int .i64 ch.wrong] 46) := ⟨_, rfl⟩
      rw [← hW5]
      have hF5 : Frm (fun _ => False) wr W5 := by rw [hW5]; exact (Frm.refl _ wr).alloc _
      have hb5 : Blk W5 wr.heap.size 46 #[.slice A5 n5 c5, .int .i64 ch.at_, .int .u32 ch.sum, .int .i64 ch.wrong] := by rw [hW5]; exact Blk.new wr _ _
      clear hW5 d0 d1 d2 d3 x1
      obtain ⟨gp, hgp⟩ : ∃ g, g = wr.heap.size := ⟨_, rfl⟩
      rw [← hgp] at hb5 ⊢
      have p1 : (W5.alloc (.cells #[] 49)).cell? ⟨gp, 0, none⟩ = some (.slice A5 n5 c5) := (hb5.alloc _).cell 0
      have H5 := Lib.hid (And.intro hF5 (And.intro hb5 hgp))
      clear hF5 hb5 hgp
      go_upto_region 7 with (at_builtin; go_loud (
        refine wpList_append_slz (by rfl) _ _ 43 (by rfl) W5.heap.size 49 i0 (.agg #[.int .u8 0, .int .i64 0, .int .u32 0]) 3 24 Try.underlying43 hi hz0 hz1 hz2 (by rfl) (by decide) (.slice (some ⟨W5.heap.size, 0, none⟩) 0 0) 0 [] (by rfl) (World.ownsRow_made _ _ _ (Nat.le_refl _) (Nat.zero_le _) rfl) (fun q => q < w.heap.size) (.slice A5 n5 c5) n5 (ch.row.flatMap eCells) (by rfl) ?_ ?_ ?_ ?_ ?_ ?_ ?_
        · exact HS.out.1.keptTo fun q hq => ⟨((HS.out.2.2.2.2.2.1.trans H5.out.1 fun _ h => h.elim).alloc _).block q hq id, hq⟩
        · rw [flat3 eCells (fun _ => rfl), HS.out.2.2.2.2.2.2.2.2]
        · exact e_one ch.row
        · have := HS.out.2.1; have := HS.out.2.2.2.2.2.2.2.2; unfold maxLen; omega
        · have := HS.out.2.1; have := HS.out.2.2.2.2.2.2.2.2; omega
        · simp
        intro A6 N6 c6 W6 HN6 hNc6 hc6 hown6 hg6 hat6
        have hF6 : Frm (fun _ => False) W5 W6 := ((Frm.refl _ W5).alloc _).grown hg6 (fun q hq => Or.inr (by have h : some W5.heap.size = some q := hq; injection h; omega))
        have hb6 := H5.out.2.1.kept hF6 id
        have f6 := hb6.frozen 0
        have e6 : W6.cell? ⟨gp, 0, none⟩ = some (.slice A5 n5 c5) := hb6.cell 0
        have H6 := Lib.hid (And.intro hown6 (And.intro hF6 (And.intro hb6 HN6)))
        clear hown6 hg6 hat6 hF6 hb6))
      have hFs : Frm (fun q => q = gp) W6 (W6.setCell ⟨gp, 0, none⟩ (.slice A6 N6 c6)) := (Frm.refl (fun q => q = gp) W6).setCell ⟨gp, 0, none⟩ (.inl rfl) _
      have hb7 : Blk (W6.setCell ⟨gp, 0, none⟩ (.slice A6 N6 c6)) gp 46 #[.slice A6 N6 c6, .int .i64 ch.at_, .int .u32 ch.sum, .int .i64 ch.wrong] := H6.out.2.2.1.set_ 0 _
      have ho7 : (W6.setCell ⟨gp, 0, none⟩ (.slice A6 N6 c6)).ownsRow W5.heap.size 49 3 (.slice A6 N6 c6) N6 (ch.row.flatMap eCells) := by
        have := hFs.own H6.out.1 fun q hq hk => own_blk_ne H6.out.1 H6.out.2.2.1 (by decide) (by rw [hq, hk])
        simpa using this
      have hFw : Frm (fun _ => False) wr (W6.setCell ⟨gp, 0, none⟩ (.slice A6 N6 c6)) := (H5.out.1.trans H6.out.2.1 fun _ h => h.elim).trans hFs fun q hq => .inr (by rw [hq, H5.out.2.2]; exact Nat.le_refl _)
      generalize W6.setCell ⟨gp, 0, none⟩ (.slice A6 N6 c6) = W7 at *
      have e0 : W7.cell? ⟨gp, 0, none⟩ = some (.slice A6 N6 c6) := hb7.cell 0
      have e1 : W7.cell? ⟨gp, 1, none⟩ = some (.int .i64 ch.at_) := hb7.cell 1
      have e2 : W7.cell? ⟨gp, 2, none⟩ = some (.int .u32 ch.sum) := hb7.cell 2
      have e3 : W7.cell? ⟨gp, 3, none⟩ = some (.int .i64 ch.wrong) := hb7.cell 3
      have hPR7 := HS.out.2.2.2.1.keptF hFw
      have hN6 : N6 = ch.row.length := by have := H6.out.2.2.2.out; have := HS.out.2.2.2.2.2.2.2.2; omega
      have hs5 : wr.heap.size ≤ W5.heap.size := H5.out.1.size
      have hsw : W0.heap.size ≤ wr.heap.size := HS.out.2.2.2.2.2.2.2.1.size
      have hsW : wr.heap.size ≤ W7.heap.size := hFw.size
      have H7 := Lib.hid (And.intro ho7 (And.intro hFw (And.intro hPR7 (And.intro hN6 (And.intro hs5 (And.intro hsw hsW))))))
      clear ho7 hFw hPR7 hN6 hs5 hsw hsW hFs hb7 f6 e6 p1 H6
      go_wp2_with (at_builtin; refine wpList_append_slz (by rfl) _ _ 23 (by rfl) W0.heap.size 46 i1 _ 4 48 Try.underlying23 hi1 hy0 hy1 hy2 (by rfl) (by decide) _ k (zs.flatMap cCells) (by rfl) (by have := H7.out.2.2.1.1; rw [HS.out.2.2.2.2.2.2.1] at this; exact ((Frm.refl (fun _ => False) W7).alloc _).own this fun _ _ => id) (fun q => q = W7.heap.size) _ 1 [.slice A6 N6 c6, .int .i64 ch.at_, .int .u32 ch.sum, .int .i64 ch.wrong] (by rfl) (SlZ.blk4 W7 _ _ _ _ _) rfl (by intro u hu; simp only [List.mem_cons, List.not_mem_nil, or_false] at hu; rcases hu with rfl | rfl | rfl | rfl <;> rfl) (by unfold maxLen; omega) (by omega) (by have := H7.out.2.2.2.2.2.1; have := H7.out.2.2.2.2.2.2; simp; omega) ?_; intro A8 N8 c8 W8 HN8 hNc8 hc8 hown8 hg8 hat8; have H8 := Lib.hid (And.intro hown8 hg8); clear hown8 hg8 hat8)
      go_roundw
      case rel =>
        obtain rfl : N8 = k + 1 := HN8.out
        obtain ⟨ho7, hFw, hPR7, hN6, hs5, hsw, hsW⟩ := H7.out
        obtain ⟨-, -, hts, hPR, hzs, -, hzl, hF, -⟩ := HS.out
        subst hN6
        have hF8 : Frm (fun q => (Value.slice Av k cv).ownBlock = some q) W7 W8 := ((Frm.refl _ W7).alloc _).grown H8.out.2 fun q hq => .inl hq
        refine ⟨k + 1, A8, c8, by omega, by go_num, rfl, Lib.hid ⟨zs ++ [⟨.slice A6 ch.row.length c6, ch⟩], ?_, ?_, ?_⟩⟩
        · exact CR.snoc (x := ⟨.slice A6 ch.row.length c6, ch⟩) hPR7 (World.ownsRow.mono ho7 (by omega)) (by rw [hzl]; exact H8.out.1) hF8
        · rw [List.map_append, hzs, hts]; rfl
        · exact (hF.trans hFw fun _ h => h.elim).trans hF8 fun q hq => .inr (World.ownsRow.lt hPR.1 q hq).1
      case measure => simp [intOf]; omega
    · obtain rfl : k = n := by omega
      have x0 : wr.cell? ⟨G, 0, none⟩ = some (.slice A1 n1 c1) := hbw.cell 0
      have x1 : wr.cell? ⟨G, 1, none⟩ = some (.slice A k c) := hbw.cell 1
      have hFw := H.out.2.2.2.2.1.trans hF fun _ h => h.elim
      have hop := ownp_any A1 n1 c1 ps wr (HP.out.1.keptTo fun q hq => ⟨hFw.block q hq id, Nat.lt_of_lt_of_le hq hFw.size⟩) HP.out.2.2.1 HP.out.2.1
      have HO := Lib.hid (And.intro hop (And.intro hFw (And.intro hF (And.intro hCR hzs))))
      clear hop hFw hF hCR hzs hbw hT
      go_wp2_with fail
      refine HO.out.1.mono ?_
      rintro e w2 ⟨A7, N7, c7, ps', rfl, hPR, hN7, hNc7, hcm7, hpp, hF2⟩
      have hb2 := H.out.2.2.2.2.2.2.1.kept (HO.out.2.2.1.trans hF2 fun _ h => h.elim) id
      have y0 : w2.cell? ⟨G + 1, 0, none⟩ = some (.slice none 0 0) := hb2.cell 0
      have y1 : w2.cell? ⟨G + 1, 1, none⟩ = some (.slice none 0 0) := hb2.cell 1
      have f0 := hb2.frozen 0
      have f1 := hb2.frozen 1
      have H2 := Lib.hid (And.intro hPR (And.intro hpp (And.intro hF2 hb2)))
      clear hPR hpp hF2 hb2 x0 x1 hNc7 hcm7 hN7
      go_wp2_with fail
      have hb3 : Blk ((w2.setCell ⟨G + 1, 0, none⟩ (.slice A7 N7 c7)).setCell ⟨G + 1, 1, none⟩ (.slice Av k cv)) (G + 1) 25 #[.slice A7 N7 c7, .slice Av k cv] := (H2.out.2.2.2.set_ 0 _).set_ 1 _
      have hF3 : Frm (fun q => q = G + 1) w2 ((w2.setCell ⟨G + 1, 0, none⟩ (.slice A7 N7 c7)).setCell ⟨G + 1, 1, none⟩ (.slice Av k cv)) := ((Frm.refl (fun q => q = G + 1) w2).setCell ⟨G + 1, 0, none⟩ (.inl rfl) _).setCell ⟨G + 1, 1, none⟩ (.inl rfl) _
      refine bodyPost_ret (rown_res _ _ (G + 1) _ _ rfl hb3) rfl ?_
      have hGl : G + 1 < W0.heap.size := H.out.2.2.2.2.2.2.1.lt
      have hwG : w.heap.size ≤ G := Nat.le_of_eq H.out.2.2.2.2.2.2.2.symm
      have hsz : w.heap.size ≤ W0.heap.size := H.out.2.2.2.2.1.size
      have hsr : W0.heap.size ≤ wr.heap.size := HO.out.2.2.1.size
      have hcr := HO.out.2.2.2.1.keptF H2.out.2.2.1
      refine ⟨A7, N7, c7, Av, k, cv, ps', zs, rfl, ?_, ?_, by rw [H2.out.2.1, HP.out.2.2.2.1], ?_, ?_⟩
      · exact (H2.out.1.kept hF3 (fun q hq hk => own_blk_ne H2.out.1.1 H2.out.2.2.2 (by decide) (by rw [hq, hk])) fun x hx q hq hk => own_blk_ne (H2.out.1.2.1 x hx) H2.out.2.2.2 (by decide) (by rw [hq, hk])).mono (by omega)
      · exact (hcr.kept hF3 (fun q hq hk => own_blk_ne hcr.1 H2.out.2.2.2 (by decide) (by rw [hq, hk])) fun x hx q hq hk => own_blk_ne (hcr.2 x hx) H2.out.2.2.2 (by decide) (by rw [hq, hk])).mono (by omega)
      · rw [HO.out.2.2.2.2, List.take_of_length_le (by rw [List.length_map]; exact Nat.le_of_eq H.out.1.symm), HP.out.2.2.2.2]
      · exact (HO.out.2.1.trans H2.out.2.2.1 fun _ h => h.elim).trans hF3 fun q hq => .inr (by omega)
end Go.Proofs.Ytnibllkcacalhaa
namespace Go.Proofs.Ytnibllkcacalhaa
set_option maxRecDepth 100000
open Go.RowKit
theorem rdAll_no {N : Nt} (h : rightNt N = false) : rdAll N = [] := by unfold rdAll readyNt; rw [h]; rfl
theorem readyAt_of {N : Nt} {k : Nat} (h : k < N.cs.length) : readyAt N k = readyB N.cs[k] N.ps := by unfold readyAt; rw [List.getElem?_eq_getElem h]
set_option maxHeartbeats 3200000 in
theorem rready_n (V : Value) (N : Nt) (w : World) (h : NR w V N) (hsm : SmN N) : Calls Try.prog 21 #[V] w (IntsR (rdAll N) w) := by
  have hrr := fun (W : World) (hW : Frm (fun _ => False) w W) => rright_v V N W (h.kept hW) hsm.1
  obtain ⟨A1, n1, c1, A, n, c, rfl⟩ := h.form
  obtain ⟨_, _, _, _, _, _, e, ps, cks, h1, h2, h3, h4⟩ := h
  cases e
  obtain ⟨hn, hnc, hcm, hx⟩ := h2.cells
  have hn1 := h1.cells.1
  obtain ⟨W0, hW0⟩ : ∃ W, W = w.alloc (.cells #[.slice A1 n1 c1, .slice A n c] 25) := ⟨_, rfl⟩
  obtain ⟨b, hbg⟩ : ∃ b, b = w.heap.size := ⟨_, rfl⟩
  have hF0 : Frm (fun _ => False) w W0 := by rw [hW0]; exact (Frm.refl _ w).alloc _
  have hb : Blk W0 b 25 #[.slice A1 n1 c1, .slice A n c] := by rw [hW0, hbg]; exact Blk.new w _ _
  have hnk : n ≤ 1000 := by have := hsm.2.1; rw [← h4, List.length_map] at this; omega
  have hn1k : n1 ≤ 1000 := by have := hsm.1; rw [← h3, List.length_map] at this; omega
  have H := Lib.hid (And.intro hn (And.intro hx (And.intro h2.2 (And.intro hb (And.intro h1 (And.intro hF0 (And.intro hrr (And.intro h3 (And.intro h4 hn1k)))))))))
  clear h1 h2 h3 h4 hn hx hn1 hF0 hb hrr hsm hnc hcm hn1k
  obtain ⟨iu, hu, hu0, hu1, hu2⟩ := info_parts infoI
  go_enter Try.func21, Try.ntmps21
  go_upto_region 1 with fail
  rw [← hbg, ← hW0]
  clear hbg hW0
  go_wp2_with fail
  go_loopw [3, 4] (fun o i wr => ∃ (k m : Nat) (Av : Option Addr) (cv : Nat), k ≤ n ∧ m ≤ k ∧ i = .int .i64 k ∧ o = .slice Av m cv ∧ Hid (m = (rdTo N k).length ∧ (m = 0 → Av = none ∧ cv = 0) ∧ wr.ownsRow w.heap.size 3 1 (.slice Av m cv) m ((rdTo N k).map iv) ∧ (0 < k → rightNt N = true) ∧ Frm (fun _ => False) w wr ∧ Blk wr b 25 #[.slice A1 n1 c1, .slice A n c])) (fun _ i _ => n - (intOf i).toNat)
  case atStart => exact ⟨0, 0, none, 0, Nat.zero_le _, Nat.zero_le _, rfl, rfl, Lib.hid ⟨rfl, fun _ => ⟨rfl, rfl⟩, World.ownsRow_nil _ _ _ _, fun h => absurd h (by omega), H.out.2.2.2.2.2.1, H.out.2.2.2.1⟩⟩
  case round =>
    obtain ⟨k, m, Av, cv, hk, hmk, rfl, rfl, hT⟩ := hrel
    have hbw := hT.out.2.2.2.2.2
    have x4 : wr.cell? ⟨b, 0, none⟩ = some (.slice A1 n1 c1) := hbw.cell 0
    have x5 : wr.cell? ⟨b, 1, none⟩ = some (.slice A n c) := hbw.cell 1
    clear hbw
    by_cases hlt : k < n
    · have HR := Lib.hid (H.out.2.2.2.2.2.2.1 wr hT.out.2.2.2.2.1)
      go_wp2_with fail
      refine HR.out.mono ?_
      rintro e w1 ⟨rfl, hF1⟩
      have HF1 := Lib.hid (And.intro (hT.out.2.2.2.2.1.trans hF1 fun _ h => h.elim) (And.intro (hT.out.2.2.2.2.2.kept hF1 id) hF1))
      clear hF1 HR x4 x5
      cases hR : rightNt N with
      | false =>
        have hk0 : k = 0 := by
          rcases Nat.eq_zero_or_pos k with h | h
          · exact h
          · have := hT.out.2.2.2.1 h; rw [hR] at this; cases this
        have hm0 : m = 0 := by omega
        obtain ⟨rfl, rfl⟩ := hT.out.2.1 hm0
        have hno := rdAll_no hR
        have HN := Lib.hid (And.intro hno hm0)
        clear hR hk0 hm0 hno
        go_wp2_with fail
        go_ret
        rw [HN.out.1, HN.out.2]
        exact ⟨_, rfl, World.ownsRow_nil _ _ _ _, by simp, HF1.out.1⟩
      | true =>
        have HRt := Lib.hid hR
        clear hR
        obtain ⟨hn, hx, hr, hb, hp, hF0, -, h3, h4, hn1k⟩ := H.out
        have hkx : k < cks.length := by omega
        have hF := HF1.out.1
        obtain ⟨g, o, rfl, hg, e0, e1, e2, e3⟩ := hx k hkx
        have hrow := hr cks[k] (List.getElem_mem hkx)
        obtain ⟨A5, n5, k5, e5, -⟩ := id hrow
        rw [e5] at e0 hrow
        replace e0 := hF.cell e0 id
        replace e1 := hF.cell e1 id
        replace e2 := hF.cell e2 id
        replace e3 := hF.cell e3 id
        have hbw := HF1.out.2.1
        have x4 : w1.cell? ⟨b, 0, none⟩ = some (.slice A1 n1 c1) := hbw.cell 0
        have x5 : w1.cell? ⟨b, 1, none⟩ = some (.slice (some ⟨g, o, none⟩) n c) := hbw.cell 1
        have hkN : k < N.cs.length := by rw [← h4, List.length_map]; exact hkx
        have hat : readyAt N k = readyB cks[k].c (ps.map (·.p)) := by rw [readyAt_of hkN, h3]; simp only [← h4, List.getElem_map]
        clear hr hx
        generalize cks[k].c = ck at *
        obtain ⟨es, a, s, r⟩ := ck
        dsimp only at *
        have hrt := fun (W : World) (hW : Frm (fun _ => False) w1 W) => rready_any A5 n5 k5 a s r es A1 n1 c1 ps W (hrow.keptTo fun q hq => ⟨(hF.trans hW fun _ h => h.elim).block q hq id, Nat.lt_of_lt_of_le hq (hF.trans hW fun _ h => h.elim).size⟩) (hp.keptTo fun q hq => ⟨(hF.trans hW fun _ h => h.elim).block q hq id, Nat.lt_of_lt_of_le hq (hF.trans hW fun _ h => h.elim).size⟩) (by omega)
        have HC := Lib.hid (hrt w1.drew (Frm.refl _ _).drew)
        have HA := Lib.hid hat
        have hk0 : (0 : Int) ≤ (k : Int) := by omega
        clear hn hb hp hF0 h3 h4 hn1k e5 hg hrow hbw hF hrt hat hkN hkx
        go_upto_region 5 with fail
        go_region_held3 (fun w' => w'.cell? ⟨g, o + k * 4, none⟩ = some (.slice A5 n5 k5) ∧ w'.cell? ⟨g, o + k * 4 + 1, none⟩ = some (.int .i64 a) ∧ w'.cell? ⟨g, o + k * 4 + 2, none⟩ = some (.int .u32 s) ∧ w'.cell? ⟨g, o + k * 4 + 3, none⟩ = some (.int .i64 r) ∧ w'.cell? ⟨b, 0, none⟩ = some (.slice A1 n1 c1) ∧ w'.cell? ⟨b, 1, none⟩ = some (.slice (some ⟨g, o, none⟩) n c))
          (first | exact ⟨e0, e1, e2, e3, x4, x5⟩ | exact ⟨y0, y1, y2, y3, y4, y5⟩)
          ((go_at_call 45; refine HC.out.mono ?_; rintro e w7 ⟨rfl, hF7⟩; have y0 := hF7.cell e0 id; have y1 := hF7.cell e1 id; have y2 := hF7.cell e2 id; have y3 := hF7.cell e3 id; have y4 := hF7.cell x4 id; have y5 := hF7.cell x5 id))
        rw [← HA.out]
        have HF7 := Lib.hid (And.intro (tr HF1.out.1.drew hF7) (And.intro ((Blk.drew HF1.out.2.1).kept hF7 id) (tr (tr (Frm.refl (fun _ => False) wr) HF1.out.2.2).drew hF7)))
        have hown := HF7.out.2.2.own hT.out.2.2.1 fun _ _ => id
        have HO := Lib.hid hown
        clear hF7 e0 e1 e2 e3 x4 x5 y0 y1 y2 y3 y4 y5 hown HA HC
        cases hRB : readyAt N k with
        | true =>
          have Hy := Lib.hid (rdTo_yes hRB)
          clear hRB
          go_wp2_with (at_builtin; refine wpList_append_sl (by rfl) _ _ 26 (by rfl) w.heap.size 3 iu (.int .i64 0) 8 Try.underlying26 hu hu0 hu1 hu2 (by rfl) _ m ((rdTo N k).map iv) (by rfl) (by exact ((Frm.refl (fun _ => False) _).alloc _).own HO.out fun _ _ => id) (fun q => q = w7.heap.size) _ [.int .i64 k] (by rfl) (Sl.blk1 w7 _ _) (by intro u hu; simp at hu; subst hu; rfl) (by unfold maxLen; simp; omega) (by simp; omega) (by have := HF7.out.1.size; simp; omega) ?_; intro A8 N8 c8 W8 HN8 hNc8 hc8 hown8 hg8 hat8; have H8 := Lib.hid (And.intro hown8 hg8); clear hown8 hg8 hat8)
          go_roundw
          case rel =>
            obtain rfl : N8 = m + 1 := HN8.out
            have hF8 : Frm (fun q => (Value.slice Av m cv).ownBlock = some q) w7 W8 := ((Frm.refl _ w7).alloc _).grown H8.out.2 fun q hq => .inl hq
            have hk8 : ∀ q, (Value.slice Av m cv).ownBlock = some q → False ∨ w.heap.size ≤ q := fun q hq => .inr (World.ownsRow.lt HO.out q hq).1
            refine ⟨k + 1, m + 1, A8, c8, by omega, by omega, by go_num, rfl, Lib.hid ⟨?_, fun h => absurd h (by omega), ?_, fun _ => HRt.out, HF7.out.1.trans hF8 hk8, ?_⟩⟩
            · rw [Hy.out, hT.out.1]; simp
            · rw [Hy.out]; have := H8.out.1; simpa [iv] using this
            · exact HF7.out.2.1.kept hF8 (own_blk_ne HO.out HF7.out.2.1 (by decide))
          case measure => simp [intOf]; omega
        | false =>
          have Hn := Lib.hid (rdTo_no hRB)
          clear hRB
          go_wp2_with fail
          go_roundw
          case rel => exact ⟨k + 1, m, Av, cv, by omega, by omega, by go_num, rfl, Lib.hid ⟨by rw [Hn.out]; exact hT.out.1, hT.out.2.1, by rw [Hn.out]; exact HO.out, fun _ => HRt.out, HF7.out.1, HF7.out.2.1⟩⟩
          case measure => simp [intOf]; omega
    · obtain rfl : k = n := by omega
      have he : rdAll N = rdTo N k := by
        rcases Nat.eq_zero_or_pos k with h | h
        · subst h
          have : readyNt N = [] := by
            unfold readyNt
            split
            · have : N.cs.length = 0 := by rw [← H.out.2.2.2.2.2.2.2.2.1, List.length_map]; exact H.out.1.symm
              rw [this]; rfl
            · rfl
          unfold rdAll rdTo
          rw [this]; rfl
        · rw [rdAll_right (hT.out.2.2.2.1 h)]
          congr 1
          rw [← H.out.2.2.2.2.2.2.2.2.1, List.length_map]; exact H.out.1.symm
      have HE := Lib.hid he
      clear he
      go_wp2_with fail
      go_ret
      rw [HE.out]
      obtain ⟨q1, q2, q3, -, q5, -⟩ := hT.out
      refine ⟨_, rfl, by rw [← q1]; exact q3, ?_, q5⟩
      constructor
      · intro h; cases h; exact List.eq_nil_of_length_eq_zero q1.symm
      · intro h
        have hm0 : m = 0 := by rw [q1, h]; rfl
        obtain ⟨rfl, rfl⟩ := q2 hm0
        rw [hm0]
        rfl
end Go.Proofs.Ytnibllkcacalhaa
namespace Go.Proofs.Ytnibllkcacalhaa
set_option maxRecDepth 100000
open Go.RowKit
theorem right_all {N : Nt} (h : rightNt N = true) : ∀ c ∈ N.cs, c.row.length ≤ 64 ∧ 0 ≤ c.at_ ∧ c.at_ ≤ c.row.length := by
  intro c hc
  unfold rightNt at h
  simp only [Bool.and_eq_true, decide_eq_true_eq, List.all_eq_true] at h
  have h2 := h.2.2 c hc
  obtain ⟨es, a, s, r⟩ := c
  obtain ⟨q1, q2, q3, -⟩ := head_of h2
  exact ⟨q1, q2, q3⟩
theorem left_take (l : List Ch) (k : Nat) (h : k < l.length) : ((l.take (k + 1)).map leftC).sum = ((l.take k).map leftC).sum + leftC l[k] := by
  rw [List.take_succ_eq_append_getElem h, List.map_append, List.sum_append]
  rfl
theorem left_take_le (l : List Ch) (k : Nat) (h : ∀ c ∈ l, c.row.length ≤ 64) (hk : l.length ≤ 8) : ((l.take k).map leftC).sum ≤ 8000 := by
  have := left_le (l.take k) fun c hc => by have := h c (List.mem_of_mem_take hc); omega
  have h2 := List.length_take_le' k l
  omega
set_option maxHeartbeats 1600000 in
theorem errands_v (V : Value) (N : Nt) (w : World) (h : NR w V N) (hr : rightNt N = true) : Calls Try.prog 30 #[V] w (IntR (leftNt N) w) := by
  obtain ⟨A1, n1, c1, A, n, c, rfl⟩ := h.form
  have hall := right_all hr
  have h8 := (right_sm hr).2.1
  obtain ⟨W, hW⟩ : ∃ W, W = w.alloc (.cells #[.slice A1 n1 c1, .slice A n c] 25) := ⟨_, rfl⟩
  obtain ⟨G, hG⟩ : ∃ G, G = w.heap.size := ⟨_, rfl⟩
  have hF : Frm (fun _ => False) w W := by rw [hW]; exact (Frm.refl _ w).alloc _
  have hb : Blk W G 25 #[.slice A1 n1 c1, .slice A n c] := by rw [hW, hG]; exact Blk.new w _ _
  obtain ⟨_, _, _, _, _, _, e, ps, cks, h1, h2, h3, h4⟩ := h
  cases e
  obtain ⟨hn, hnc, hcm, hx⟩ := h2.cells
  have hnm : n ≤ 9223372036854775807 := by omega
  have H := Lib.hid (And.intro hF (And.intro hb (And.intro hn (And.intro hx (And.intro h4 (And.intro hall (And.intro h8 h2.2)))))))
  clear h1 h2 h3 h4 hn hx hF hb hnc hcm hall h8
  go_enter Try.func30, Try.ntmps30
  go_upto_region 1 with fail
  rw [← hG, ← hW]
  clear hG hW
  go_wp2_with fail
  go_loopw [3, 4] (fun s i wr => ∃ k m : Nat, k ≤ n ∧ m ≤ 8000 ∧ i = .int .i64 k ∧ s = .int .i64 m ∧ Hid (m = ((N.cs.take k).map leftC).sum ∧ Frm (fun _ => False) W wr)) (fun _ i _ => n - (intOf i).toNat)
  case atStart => exact ⟨0, 0, Nat.zero_le _, by omega, rfl, rfl, Lib.hid ⟨by simp, Frm.refl _ _⟩⟩
  case round =>
    obtain ⟨k, m, hk, hm, rfl, rfl, hT⟩ := hrel
    have hbw := H.out.2.1.kept hT.out.2 id
    have x1 : wr.cell? ⟨G, 1, none⟩ = some (.slice A n c) := hbw.cell 1
    clear hbw
    by_cases hlt : k < n
    · obtain ⟨hF, -, hn, hx, h4, hall, h8, hrow⟩ := H.out
      have hkx : k < cks.length := by omega
      obtain ⟨g, o, rfl, hg, d0, d1, d2, d3⟩ := hx k hkx
      have hFw := hF.trans hT.out.2 fun _ h => h.elim
      have hra := hrow cks[k] (List.getElem_mem hkx)
      obtain ⟨A5, n5, c5, e5, -⟩ := id hra
      rw [e5] at d0 hra
      replace d0 := hFw.cell d0 id
      replace d1 := hFw.cell d1 id
      have hkN : k < N.cs.length := by rw [← h4, List.length_map]; exact hkx
      have hck : cks[k].c = N.cs[k] := by simp only [← h4, List.getElem_map]
      have hl5 : n5 = N.cs[k].row.length := by rw [← hck]; exact hra.cells.1
      rw [hck] at d1
      obtain ⟨b1, b2, b3⟩ := hall N.cs[k] (List.getElem_mem hkN)
      have ht := left_take N.cs k hkN
      have htl := left_take_le N.cs (k + 1) (fun c hc => (hall c hc).1) h8
      have hlc : leftC N.cs[k] = n5 - N.cs[k].at_.toNat := by unfold leftC; rw [hl5]
      have HS := Lib.hid (And.intro ht (And.intro hT.out htl))
      clear hF hn hx h4 hall h8 hrow hg hFw hra e5 hck ht htl hT d2 d3
      generalize N.cs[k] = cc at *
      clear hkN hkx
      have hk0 : (0 : Int) ≤ (k : Int) := by omega
      rw [← hl5] at b1 b3
      clear hl5
      generalize cc.at_ = a at *
      have w1 : IntKind.i64.wrap ((m : Int) + (n5 : Int)) = (m : Int) + (n5 : Int) := IntWalk.i64_in _ (by omega)
      have w2 : IntKind.i64.wrap ((m : Int) + (n5 : Int) - a) = (m : Int) + (n5 : Int) - a := IntWalk.i64_in _ (by omega)
      have he : (m : Int) + (n5 : Int) - a = ((m + leftC cc : Nat) : Int) := by omega
      have He := Lib.hid (And.intro he hlc)
      clear he hlc
      go_wp2_with fail
      go_quiet (fail)
      have hle : m + leftC cc ≤ 8000 := by have := HS.out.2.2; rw [HS.out.1, ← HS.out.2.1.1] at this; exact this
      clear w1 w2 d0 d1 x1
      go_wp2_with fail
      go_roundw
      case rel => exact ⟨k + 1, m + leftC cc, by omega, hle, by go_num, by rw [He.out.1], Lib.hid ⟨by rw [HS.out.1, ← HS.out.2.1.1], HS.out.2.1.2.drewN _⟩⟩
      case measure => simp [intOf]; omega
    · obtain rfl : k = n := by omega
      have he : m = leftNt N := by
        have h1 := hT.out.1
        rw [List.take_of_length_le (by have := H.out.2.2.1; have h4 := H.out.2.2.2.2.1; have := congrArg List.length h4; simp at this; omega)] at h1
        exact h1
      have HE := Lib.hid he
      clear he
      go_wp2_with fail
      go_ret
      exact ⟨by rw [← HE.out]; rfl, H.out.1.trans hT.out.2 fun _ h => h.elim⟩
end Go.Proofs.Ytnibllkcacalhaa
