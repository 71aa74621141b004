/- The walk of teaselref24.Step. -/
import Derived.Deep.DeepCutAuto
import Derived.Test.YtnibllkcacalhaaGI
import Derived.Test.YtnibllkcacalhaaHRt
namespace Go.Proofs.Ytnibllkcacalhaa
set_option maxRecDepth 100000
open Go.RowKit
theorem cell_far {w : World} {p a : Addr} {u v : Value} (h : w.cell? a = some v) (hp : a.block ≠ p.block) : (w.setCell p u).cell? a = some v := (World.cell?_of_block (w := w) (Below.heap_setCell w p u a.block hp)).trans h
theorem cell_al {w : World} {a : Addr} {v : Value} (h : w.cell? a = some v) (o : Obj) : (w.alloc o).cell? a = some v := (World.cell?_alloc_lt w _ _ (World.block_lt_of_cell? _ _ h)).trans h
theorem cell_dr {w : World} {a : Addr} {v : Value} (h : w.cell? a = some v) : w.drew.cell? a = some v := h
theorem cell_ald {w : World} {a : Addr} {v : Value} (h : w.cell? a = some v) (o : Obj) : (w.alloc o).drew.cell? a = some v := cell_al h o
theorem cell_dal {w : World} {a : Addr} {v : Value} (h : w.cell? a = some v) (o : Obj) : (w.drew.alloc o).cell? a = some v := cell_al (w := w.drew) h o
theorem cell_s4 {w : World} {g p i : Nat} {v u0 u1 u2 u3 : Value} (h : w.cell? ⟨p, i, none⟩ = some v) (hp : p ≠ g) : ((((w.setCell ⟨g, 0, none⟩ u0).setCell ⟨g, 1, none⟩ u1).setCell ⟨g, 2, none⟩ u2).setCell ⟨g, 3, none⟩ u3).cell? ⟨p, i, none⟩ = some v :=
  cell_far (cell_far (cell_far (cell_far h hp) hp) hp) hp
theorem blk4 {w : World} {g : Nat} {t : TypeId} {x0 x1 x2 x3 : Value} (h : Blk w g t #[x0, x1, x2, x3]) : w.cell? ⟨g, 0, none⟩ = some x0 ∧ w.cell? ⟨g, 1, none⟩ = some x1 ∧ w.cell? ⟨g, 2, none⟩ = some x2 ∧ w.cell? ⟨g, 3, none⟩ = some x3 ∧
    w.frozen? ⟨g, 0, none⟩ = false ∧ w.frozen? ⟨g, 1, none⟩ = false ∧ w.frozen? ⟨g, 2, none⟩ = false ∧ w.frozen? ⟨g, 3, none⟩ = false :=
  ⟨h.cell 0, h.cell 1, h.cell 2, h.cell 3, h.frozen 0, h.frozen 1, h.frozen 2, h.frozen 3⟩
def CT (w : World) (nb q : Nat) : Prop := nb ≤ q ∧ ∃ cs t, Blk w q t cs ∧ (t = 46 ∨ t = 49)
theorem CT.ne {w : World} {nb q g : Nat} {cs : Array Value} (h : CT w nb q) (hb : Blk w g 25 cs) : q ≠ g := by
  obtain ⟨-, cs', t, h1, h2⟩ := h
  exact h1.ne_ hb (by rcases h2 with rfl | rfl <;> decide)
theorem CT.lt {w : World} {nb q : Nat} (h : CT w nb q) : q < w.heap.size := by
  obtain ⟨_, _, _, h1, -⟩ := h
  exact h1.lt
/-- A chore is written over. -/
theorem CR.put {w : World} {nb g K L cc : Nat} {cks : List Ck} {vr : Value} {c' : Ch} (h : CR w nb (.slice (some ⟨g, 0, none⟩) L cc) cks) (hL : L = cks.length) (hk : K < cks.length) (K' : Nat → Prop) (hr : RAt w K' vr c'.row) (hK' : ∀ q, K' q → q ≠ g ∧ q < w.heap.size) :
    CsAt ((((w.setCell ⟨g, K * 4, none⟩ vr).setCell ⟨g, K * 4 + 1, none⟩ (.int .i64 c'.at_)).setCell ⟨g, K * 4 + 2, none⟩ (.int .u32 c'.sum)).setCell ⟨g, K * 4 + 3, none⟩ (.int .i64 c'.wrong)) (fun q => CT ((((w.setCell ⟨g, K * 4, none⟩ vr).setCell ⟨g, K * 4 + 1, none⟩ (.int .i64 c'.at_)).setCell ⟨g, K * 4 + 2, none⟩ (.int .u32 c'.sum)).setCell ⟨g, K * 4 + 3, none⟩ (.int .i64 c'.wrong)) nb q ∨ K' q) (.slice (some ⟨g, 0, none⟩) L cc) (cks.set K ⟨vr, c'⟩) ∧
      Frm (fun q => q = g) w ((((w.setCell ⟨g, K * 4, none⟩ vr).setCell ⟨g, K * 4 + 1, none⟩ (.int .i64 c'.at_)).setCell ⟨g, K * 4 + 2, none⟩ (.int .u32 c'.sum)).setCell ⟨g, K * 4 + 3, none⟩ (.int .i64 c'.wrong)) := by
  subst hL
  have ho9 := own_set (i := K * 4 + 3) (own_set (i := K * 4 + 2) (own_set (i := K * 4 + 1) (own_set (i := K * 4) h.1 vr) (.int .i64 c'.at_)) (.int .u32 c'.sum)) (.int .i64 c'.wrong)
  rw [← flat_setC cks K hk ⟨vr, c'⟩] at ho9
  have hFs : Frm (fun q => q = g) w ((((w.setCell ⟨g, K * 4, none⟩ vr).setCell ⟨g, K * 4 + 1, none⟩ (.int .i64 c'.at_)).setCell ⟨g, K * 4 + 2, none⟩ (.int .u32 c'.sum)).setCell ⟨g, K * 4 + 3, none⟩ (.int .i64 c'.wrong)) :=
    ((((Frm.refl (fun q => q = g) w).setCell ⟨g, K * 4, none⟩ (.inl rfl) _).setCell ⟨g, K * 4 + 1, none⟩ (.inl rfl) _).setCell ⟨g, K * 4 + 2, none⟩ (.inl rfl) _).setCell ⟨g, K * 4 + 3, none⟩ (.inl rfl) _
  have hgl := World.ownsRow.lt h.1 g rfl
  refine ⟨⟨SlZ.of_own ho9 fun q hq => ?_, fun z hz => ?_⟩, hFs⟩
  · obtain ⟨cs, hb⟩ := own_blk ho9 q hq
    exact .inl ⟨(World.ownsRow.lt ho9 q hq).1, cs, _, hb, .inl rfl⟩
  · rcases List.mem_or_eq_of_mem_set hz with hz | rfl
    · have ho := h.2 z hz
      have ho' := hFs.own ho fun q hq hk => by
        obtain ⟨cs, hb⟩ := own_blk h.1 g rfl
        exact own_blk_ne ho hb (by decide) (by rw [hq, hk])
      refine SlZ.of_own ho' fun q hq => ?_
      obtain ⟨cs, hb⟩ := own_blk ho' q hq
      exact .inl ⟨(World.ownsRow.lt ho' q hq).1, cs, _, hb, .inr rfl⟩
    · exact hr.keptTo fun q hq => ⟨hFs.block q (hK' q hq).2 (hK' q hq).1, .inr hq⟩
def RStep (N : Nt) (k : Int) (w : World) (e : Ending) (w' : World) : Prop := ∃ V, e = .returned (.tuple #[V, .bool (stepNt N k).2]) ∧ NV w' (fun q => w.heap.size ≤ q ∧ q < w'.heap.size) V (stepNt N k).1 ∧ Frm (fun _ => False) w w'
theorem rstep_res (tmps : Array Value) (w : World) (g : Nat) (vp vc : Value) (b : Bool) (hp : tmps.getD 4 undef = .pointer (some ⟨g, 0, none⟩)) (hq : tmps.getD 5 undef = .bool b)
    (hg : w.heap[g]? = some (.cells #[vp, vc] 25 (0, 0))) : (results Try.f11 tmps).run Try.prog w = .ok (.tuple #[.agg #[vp, vc], .bool b]) w := by
  have hp' : tmps[4]?.getD undef = .pointer (some ⟨g, 0, none⟩) := by simpa using hp
  have hq' : tmps[5]?.getD undef = .bool b := by simpa using hq
  have c0 : w.cell? ⟨g, 0, none⟩ = some vp := cell_of_row w g 0 _ _ _ hg
  have c1 : w.cell? ⟨g, 1, none⟩ = some vc := cell_of_row w g 1 _ _ _ hg
  simp [results, Try.results11, go_sem, hp', hq', asAddr, c0, c1]
theorem rstep_yes {N : Nt} {K : Nat} (h : K ∈ readyNt N) : stepNt N (K : Int) = (stepC N K, true) := by
  unfold stepNt
  rw [if_pos ⟨by omega, by simpa using h⟩]
  simp
theorem rstep_no {N : Nt} {k : Int} (h : ∀ j : Nat, (rdAll N)[j]? ≠ some k) : stepNt N k = (N, false) := by
  unfold stepNt
  rw [if_neg]
  rintro ⟨h1, h2⟩
  obtain ⟨j, hj⟩ := List.mem_iff_getElem?.1 h2
  refine h j ?_
  unfold rdAll
  rw [List.getElem?_map, hj]
  simp; omega
theorem own_off {w : World} {base sz n cap : Nat} {e : TypeId} {A : Option Addr} {xs : List Value} (h : w.ownsRow base e sz (.slice A n cap) n xs) (i : Nat) (hi : i < xs.length) : ∃ g, A = some ⟨g, 0, none⟩ := by
  obtain ⟨g, hg, -⟩ := own_at h i hi
  exact ⟨g, hg⟩
/-- The step's answer, and its box. -/
def Arm (w3 W : World) (g9 : Nat) (vr vp : Value) (c' : Ch) (ps' : List Pk) : Prop :=
  Blk W g9 46 #[vr, .int .i64 c'.at_, .int .u32 c'.sum, .int .i64 c'.wrong] ∧ w3.heap.size ≤ g9 ∧ Frm (fun _ => False) w3 W ∧ RAt W (fun q => w3.heap.size ≤ q ∧ q < W.heap.size ∧ q ≠ g9) vr c'.row ∧ PAt W (fun q => w3.heap.size ≤ q ∧ q < W.heap.size ∧ q ≠ g9) vp ps'
theorem arm_a {w3 w7 : World} {o : Obj} {vr vp x0 x1 x2 x3 : Value} {c' : Ch} {ps' : List Pk} (hr : RAt w7 (fun q => (w3.alloc o).drew.heap.size ≤ q ∧ q < w7.heap.size) vr c'.row) (hp : PAt w7 (fun q => (w3.alloc o).drew.heap.size ≤ q ∧ q < w7.heap.size) vp ps') (hF : Frm (fun _ => False) (w3.alloc o).drew w7)
    (hb : Blk w7 w3.heap.size 46 #[x0, x1, x2, x3]) : Arm w3 ((((w7.setCell ⟨w3.heap.size, 0, none⟩ vr).setCell ⟨w3.heap.size, 1, none⟩ (.int .i64 c'.at_)).setCell ⟨w3.heap.size, 2, none⟩ (.int .u32 c'.sum)).setCell ⟨w3.heap.size, 3, none⟩ (.int .i64 c'.wrong)) w3.heap.size vr vp c' ps' := by
  obtain ⟨h1, h2⟩ := four hb vr (.int .i64 c'.at_) (.int .u32 c'.sum) (.int .i64 c'.wrong)
  have hz : (w3.alloc o).drew.heap.size = w3.heap.size + 1 := by simp
  have hk : ∀ q, ((w3.alloc o).drew.heap.size ≤ q ∧ q < w7.heap.size) → ((((w7.setCell ⟨w3.heap.size, 0, none⟩ vr).setCell ⟨w3.heap.size, 1, none⟩ (.int .i64 c'.at_)).setCell ⟨w3.heap.size, 2, none⟩ (.int .u32 c'.sum)).setCell ⟨w3.heap.size, 3, none⟩ (.int .i64 c'.wrong)).heap[q]? = w7.heap[q]? ∧ _ := fun q hq => ⟨h2.block q hq.2 (by omega), (show w3.heap.size ≤ q ∧ q < _ ∧ q ≠ w3.heap.size from ⟨by omega, Nat.lt_of_lt_of_le hq.2 h2.size, by omega⟩)⟩
  exact ⟨h1, Nat.le_refl _, ((((Frm.refl (fun _ => False) w3).alloc o).drew.trans hF fun _ h => h.elim).trans h2 fun q hq => .inr (by omega)), hr.keptTo hk, hp.keptTo hk⟩
theorem arm_b {w3 w7 : World} {vr vp : Value} {c' : Ch} {ps' : List Pk} (hr : RAt w7 (fun q => w3.drew.heap.size ≤ q ∧ q < w7.heap.size) vr c'.row) (hp : PAt w7 (fun q => w3.drew.heap.size ≤ q ∧ q < w7.heap.size) vp ps') (hF : Frm (fun _ => False) w3.drew w7) :
    Arm w3 (w7.alloc (.cells #[vr, .int .i64 c'.at_, .int .u32 c'.sum, .int .i64 c'.wrong] 46)) w7.heap.size vr vp c' ps' := by
  have h2 : Frm (fun _ => False) w7 (w7.alloc (.cells #[vr, .int .i64 c'.at_, .int .u32 c'.sum, .int .i64 c'.wrong] 46)) := (Frm.refl _ w7).alloc _
  have hz : w3.drew.heap.size = w3.heap.size := rfl
  have hs := hF.size
  have hk : ∀ q, (w3.drew.heap.size ≤ q ∧ q < w7.heap.size) → (w7.alloc (.cells #[vr, .int .i64 c'.at_, .int .u32 c'.sum, .int .i64 c'.wrong] 46)).heap[q]? = w7.heap[q]? ∧ _ := fun q hq => ⟨h2.block q hq.2 id, (show w3.heap.size ≤ q ∧ q < _ ∧ q ≠ w7.heap.size from ⟨by omega, Nat.lt_of_lt_of_le hq.2 h2.size, by omega⟩)⟩
  exact ⟨Blk.new w7 _ _, by omega, (((Frm.refl (fun _ => False) w3).drew.trans hF fun _ h => h.elim)).alloc _, hr.keptTo hk, hp.keptTo hk⟩
set_option maxHeartbeats 6400000 in
theorem rstep_n (V : Value) (N : Nt) (chore : Int) (w : World) (h : NR w V N) (hsm : SmN N) : Calls Try.prog 11 #[V, .int .i64 chore] w (RStep N chore w) := by
  have hown := fun (W : World) (hW : Frm (fun _ => False) w W) => rown_n V N W (h.kept hW) hsm
  have hrd := fun (W : World) (hW : Frm (fun _ => False) w W) => rready_n V N W (h.kept hW) hsm
  obtain ⟨A1, n1, c1, A, n, c, rfl⟩ := h.form
  obtain ⟨_, _, _, _, _, _, e, ps, cks, h1, h2, h3, h4⟩ := h
  cases e
  obtain ⟨hn, hnc, hcm, hx⟩ := h2.cells
  have hn1 := h1.cells.1
  obtain ⟨W0, hW0⟩ : ∃ W, W = (w.alloc (.cells #[.slice A1 n1 c1, .slice A n c] 25)).alloc (.cells #[.slice none 0 0, .slice none 0 0] 25) := ⟨_, rfl⟩
  obtain ⟨G, hG⟩ : ∃ G, G = w.heap.size := ⟨_, rfl⟩
  have hF0 : Frm (fun _ => False) w W0 := by rw [hW0]; exact ((Frm.refl _ w).alloc _).alloc _
  have hb0 : Blk W0 G 25 #[.slice A1 n1 c1, .slice A n c] := by rw [hW0, hG]; exact (Blk.new w _ _).alloc _
  have hb1 : Blk W0 (G + 1) 25 #[.slice none 0 0, .slice none 0 0] := by
    rw [hW0, hG]
    have := Blk.new (w.alloc (.cells #[.slice A1 n1 c1, .slice A n c] 25)) 25 #[.slice none 0 0, .slice none 0 0]
    rwa [World.size_alloc] at this
  have x0 : W0.cell? ⟨G, 0, none⟩ = some (.slice A1 n1 c1) := hb0.cell 0
  have x1 : W0.cell? ⟨G, 1, none⟩ = some (.slice A n c) := hb0.cell 1
  have H := Lib.hid (And.intro hown (And.intro hrd (And.intro hF0 (And.intro hb0 (And.intro hb1 hG)))))
  have HN := Lib.hid (And.intro h1 (And.intro h2 (And.intro h3 (And.intro h4 (And.intro hsm (And.intro hn (And.intro hn1 hx)))))))
  clear h1 h2 h3 h4 hn hn1 hx hsm hown hrd hF0 hb0 hb1 hnc hcm
  go_enter Try.func11, Try.ntmps11
  go_upto_region 1 with fail
  rw [← hG, ← hW0]
  clear hG hW0
  go_wp2_with fail
  refine (H.out.1 W0 H.out.2.2.1).mono ?_
  rintro e w1 ⟨A6, n6, c6, A7, n7, c7, ps6, cks6, rfl, hPR, hCR, hp6, hc6, hF1⟩
  go_upto_region 2 with fail
  obtain ⟨W2, hW2⟩ : ∃ W, W = w1.alloc (.cells #[.slice A6 n6 c6, .slice A7 n7 c7] 25) := ⟨_, rfl⟩
  obtain ⟨g6, hg6⟩ : ∃ g, g = w1.heap.size := ⟨_, rfl⟩
  have hF12 : Frm (fun _ => False) w1 W2 := by rw [hW2]; exact (Frm.refl _ w1).alloc _
  have hb6 : Blk W2 g6 25 #[.slice A6 n6 c6, .slice A7 n7 c7] := by rw [hW2, hg6]; exact Blk.new w1 _ _
  rw [← hW2, ← hg6]
  have hF02 := tr hF1 hF12
  have hg6s : W0.heap.size ≤ g6 := by rw [hg6]; exact hF1.size
  have x0 : W2.cell? ⟨G, 0, none⟩ = some (.slice A1 n1 c1) := (H.out.2.2.2.1.kept hF02 id).cell 0
  have x1 : W2.cell? ⟨G, 1, none⟩ = some (.slice A n c) := (H.out.2.2.2.1.kept hF02 id).cell 1
  have H2 := Lib.hid (And.intro (hPR.keptF hF12) (And.intro (hCR.keptF hF12) (And.intro hp6 (And.intro hc6 (And.intro hF02 (And.intro hb6 hg6s))))))
  clear hPR hCR hp6 hc6 hF1 hF12 hb6 hF02 hg6s hW2 hg6
  go_wp2_with fail
  refine (H.out.2.1 W2 (tr H.out.2.2.1 H2.out.2.2.2.2.1)).mono ?_
  rintro e w3 ⟨v, rfl, hol, -, hF3⟩
  obtain ⟨Al, cl, rfl, -, -⟩ := ints_len hol
  obtain ⟨L, hL⟩ : ∃ L, L = (rdAll N).length := ⟨_, rfl⟩
  have hL8 : L ≤ 8 := by rw [hL]; exact rdAll_le N
  rw [← hL] at hol ⊢
  have hF03 := tr H2.out.2.2.2.2.1 hF3
  have H3 := Lib.hid (And.intro hol (And.intro hL (And.intro hF3 hF03)))
  clear hol hL hF3 hF03 x0 x1
  go_wp2_with fail
  go_loopw [8] (fun i wr => ∃ k : Nat, k ≤ L ∧ i = .int .i64 k ∧ w3 = wr ∧ Hid (∀ j : Nat, j < k → (rdAll N)[j]? ≠ some chore)) (fun i _ => L - (intOf i).toNat)
  case atStart => exact ⟨0, Nat.zero_le _, rfl, rfl, Lib.hid fun j hj => by omega⟩
  case round =>
    obtain ⟨k, hk, rfl, rfl, hT⟩ := hrel
    by_cases hlt : k < L
    · have hkx : k < (rdAll N).length := by have := H3.out.2.1; omega
      obtain ⟨gl, hgl, hcl⟩ := own_at H3.out.1 k (by rw [List.length_map]; exact hkx)
      subst hgl
      rw [List.getElem_map] at hcl
      obtain ⟨x, hxx⟩ : ∃ x, x = (rdAll N)[k] := ⟨_, rfl⟩
      rw [← hxx] at hcl
      replace hcl : w3.cell? ⟨gl, k, none⟩ = some (.int .i64 x) := hcl
      by_cases hxc : x = chore
      · subst hxc
        have hmem : x ∈ rdAll N := by rw [hxx]; exact List.getElem_mem hkx
        obtain ⟨K, hK, rfl⟩ := List.mem_map.1 (show x ∈ (readyNt N).map (fun i : Nat => (i : Int)) from hmem)
        have he : (((K : Nat) : Int) == ((K : Nat) : Int)) = true := by simp
        obtain ⟨hrt, ch, hch, hrb, hKN⟩ := ready_of hK
        obtain ⟨h1, h2, h3, h4, hsm, hn, hn1, hx⟩ := HN.out
        have hKx : K < cks.length := by rw [← h4, List.length_map] at hKN; exact hKN
        obtain ⟨g, o, rfl, hg, d0, d1, d2, d3⟩ := hx K hKx
        have hck : cks[K].c = ch := by rw [← h4, List.getElem?_map, List.getElem?_eq_getElem hKx] at hch; simpa using hch
        have hrow := h2.2 cks[K] (List.getElem_mem hKx)
        obtain ⟨A5, n5, c5, e5, -⟩ := id hrow
        rw [e5] at d0 hrow
        rw [hck] at d1 d2 d3 hrow
        have hFw := tr H.out.2.2.1 H3.out.2.2.2
        replace d0 := hFw.cell d0 id
        replace d1 := hFw.cell d1 id
        replace d2 := hFw.cell d2 id
        replace d3 := hFw.cell d3 id
        have x0 : w3.cell? ⟨G, 0, none⟩ = some (.slice A1 n1 c1) := (H.out.2.2.2.1.kept H3.out.2.2.2 id).cell 0
        have x1 : w3.cell? ⟨G, 1, none⟩ = some (.slice (some ⟨g, o, none⟩) n c) := (H.out.2.2.2.1.kept H3.out.2.2.2 id).cell 1
        obtain ⟨es, a, s, r⟩ := ch
        dsimp only at *
        have hst := fun (W : World) (hF : Frm (fun _ => False) w3 W) => rstep_any A5 n5 c5 a s r es A1 n1 c1 ps W (hrow.keptTo fun q hq => ⟨(tr hFw hF).block q hq id, Nat.lt_of_lt_of_le hq (tr hFw hF).size⟩) (h1.keptTo fun q hq => ⟨(tr hFw hF).block q hq id, Nat.lt_of_lt_of_le hq (tr hFw hF).size⟩)
          (by have := hsm.2.2.2 _ (List.mem_of_getElem? hch); have := hrow.cells.1; dsimp only at *; omega) (by have := hsm.1; rw [← h3, List.length_map] at this; omega) (fun p hp' => hsm.2.2.1 p.p (by rw [← h3]; exact List.mem_map_of_mem hp'))
        have HS := Lib.hid (And.intro hst (And.intro hK (And.intro hch (And.intro hKN hFw))))
        have hKn : K < n := by omega
        have hK0 : (0 : Int) ≤ (K : Int) := by omega
        clear hxx hmem hK hrt hch hrb hKN h1 h2 h3 h4 hsm hn hn1 hx hKx hg hck hrow e5 hFw hst hkx
        go_upto_region 7 with fail
        go_region_held3 (fun w' => w'.cell? ⟨g, o + K * 4, none⟩ = some (.slice A5 n5 c5) ∧ w'.cell? ⟨g, o + K * 4 + 1, none⟩ = some (.int .i64 a) ∧ w'.cell? ⟨g, o + K * 4 + 2, none⟩ = some (.int .u32 s) ∧ w'.cell? ⟨g, o + K * 4 + 3, none⟩ = some (.int .i64 r) ∧ w'.cell? ⟨G, 0, none⟩ = some (.slice A1 n1 c1) ∧ w'.cell? ⟨G, 1, none⟩ = some (.slice (some ⟨g, o, none⟩) n c))
          (first | (with_reducible exact ⟨d0, d1, d2, d3, x0, x1⟩) | (with_reducible exact ⟨cell_dr d0, cell_dr d1, cell_dr d2, cell_dr d3, cell_dr x0, cell_dr x1⟩) | (with_reducible exact ⟨cell_ald d0 _, cell_ald d1 _, cell_ald d2 _, cell_ald d3 _, cell_ald x0 _, cell_ald x1 _⟩) | (with_reducible exact ⟨cell_dal d0 _, cell_dal d1 _, cell_dal d2 _, cell_dal d3 _, cell_dal x0 _, cell_dal x1 _⟩) | (with_reducible exact ⟨y0, y1, y2, y3, y4, y5⟩) | (with_reducible exact ⟨cell_dr y0, cell_dr y1, cell_dr y2, cell_dr y3, cell_dr y4, cell_dr y5⟩) | (with_reducible exact ⟨cell_al y0 _, cell_al y1 _, cell_al y2 _, cell_al y3 _, cell_al y4 _, cell_al y5 _⟩) | (with_reducible exact ⟨cell_ald y0 _, cell_ald y1 _, cell_ald y2 _, cell_ald y3 _, cell_ald y4 _, cell_ald y5 _⟩) | (with_reducible exact ⟨cell_s4 y0 hnw, cell_s4 y1 hnw, cell_s4 y2 hnw, cell_s4 y3 hnw, cell_s4 y4 hnb, cell_s4 y5 hnb⟩))
          (first
          | (go_at_call 38; refine (HS.out.1 _ (by exact ((Frm.refl _ w3).alloc _).drew)).mono ?_; rintro e w7 ⟨Ar, nr, cr, Ap, np, cp, ps', c', b', rfl, hs7, hr7, hp7, hF7⟩; go_loud (have hG7 : Frm (fun _ => False) w3 w7 := tr ((Frm.refl (fun _ => False) w3).alloc _).drew hF7); have y0 := hG7.cell d0 id; have y1 := hG7.cell d1 id; have y2 := hG7.cell d2 id; have y3 := hG7.cell d3 id; have y4 := hG7.cell x0 id; have y5 := hG7.cell x1 id; go_loud (have hb7 : Blk w7 w3.heap.size 46 #[.slice none 0 0, .int .i64 0, .int .u32 0, .int .i64 0] := Blk.kept (Blk.new w3 _ _).drew hF7 id); obtain ⟨p0, p1, p2, p3, f0, f1, f2, f3⟩ := blk4 hb7; go_loud (have hnb : G ≠ w3.heap.size := Nat.ne_of_lt (World.block_lt_of_cell? _ _ x0)); go_loud (have hnw : g ≠ w3.heap.size := Nat.ne_of_lt (World.block_lt_of_cell? _ _ d0)); have HB := Lib.hid (And.intro hs7 (And.intro hr7 (And.intro hp7 (And.intro hF7 hb7)))); clear hs7 hr7 hp7 hF7 hb7)
          | (go_at_call 38; refine (HS.out.1 _ (by exact (Frm.refl _ w3).drew)).mono ?_; rintro e w7 ⟨Ar, nr, cr, Ap, np, cp, ps', c', b', rfl, hs7, hr7, hp7, hF7⟩; have y0 := hF7.cell d0 id; have y1 := hF7.cell d1 id; have y2 := hF7.cell d2 id; have y3 := hF7.cell d3 id; have y4 := hF7.cell x0 id; have y5 := hF7.cell x1 id; have HB := Lib.hid (And.intro hs7 (And.intro hr7 (And.intro hp7 (And.intro hF7 True.intro)))); clear hs7 hr7 hp7 hF7))
        all_goals
          obtain ⟨he2, hs2⟩ : Hid (b' = true → True) ∧ Hid ((c', ps'.map (·.p)) = stepN ⟨es, a, s, r⟩ (ps.map (·.p))) := ⟨Lib.hid fun _ => trivial, Lib.hid HB.out.1.2⟩
          first
          | (have _hx := hnb
             have hA := arm_a HB.out.2.1 HB.out.2.2.1 HB.out.2.2.2.1 HB.out.2.2.2.2
             generalize ((((w7.setCell ⟨w3.heap.size, 0, none⟩ (.slice Ar nr cr)).setCell ⟨w3.heap.size, 1, none⟩ (.int .i64 c'.at_)).setCell ⟨w3.heap.size, 2, none⟩ (.int .u32 c'.sum)).setCell ⟨w3.heap.size, 3, none⟩ (.int .i64 c'.wrong)) = W8 at *
             clear p0 p1 p2 p3 f0 f1 f2 f3 hG7 hnb hnw _hx HB
             have hA' : Hid (∃ n, n = w3.heap.size ∧ Arm w3 W8 n (.slice Ar nr cr) (.slice Ap np cp) c' ps') := Lib.hid ⟨_, rfl, hA⟩
             obtain ⟨g9, hg9⟩ : ∃ g, g = w3.heap.size := ⟨_, rfl⟩
             rw [← hg9] at hA ⊢)
          | (have hA := arm_b HB.out.2.1 HB.out.2.2.1 HB.out.2.2.2.1
             generalize w7.alloc (.cells #[.slice Ar nr cr, .int .i64 c'.at_, .int .u32 c'.sum, .int .i64 c'.wrong] 46) = W8 at *
             clear HB
             obtain ⟨g9, hg9⟩ : ∃ g, g = w7.heap.size := ⟨_, rfl⟩
             rw [← hg9] at hA ⊢)
          obtain ⟨hb9, hg9l, hF8, hr8, hp8⟩ := hA
          have hF28 := tr H3.out.2.2.1 hF8
          have hb6 := H2.out.2.2.2.2.2.1.kept hF28 id
          have hb1 := H.out.2.2.2.2.1.kept (tr H2.out.2.2.2.2.1 hF28) id
          have hCR := H2.out.2.1.keptF hF28
          have hK6 : K < cks6.length := by have h1 := congrArg List.length H2.out.2.2.2.1; rw [List.length_map] at h1; have := HS.out.2.2.2.1; omega
          obtain ⟨A7', c7', e7, -, -⟩ := own_form hCR.1
          have hn7 : n7 = cks6.length := by cases e7; rfl
          have ho1 := hCR.1
          rw [← hn7] at ho1
          obtain ⟨gr, rfl⟩ := own_off ho1 (K * 4) (by rw [flatK 4 cCells (fun _ => rfl)]; omega)
          have hfl : (cks6.flatMap cCells).length = cks6.length * 4 := flatK 4 cCells (fun _ => rfl) cks6
          obtain ⟨_, e0, v0⟩ := own_at ho1 (K * 4) (by omega)
          cases e0
          obtain ⟨_, e0, v1⟩ := own_at ho1 (K * 4 + 1) (by omega)
          cases e0
          obtain ⟨_, e0, v2⟩ := own_at ho1 (K * 4 + 2) (by omega)
          cases e0
          obtain ⟨_, e0, v3⟩ := own_at ho1 (K * 4 + 3) (by omega)
          cases e0
          generalize (cks6.flatMap cCells)[K * 4]'_ = vv0 at v0
          generalize (cks6.flatMap cCells)[K * 4 + 1]'_ = vv1 at v1
          generalize (cks6.flatMap cCells)[K * 4 + 2]'_ = vv2 at v2
          generalize (cks6.flatMap cCells)[K * 4 + 3]'_ = vv3 at v3
          clear ho1 hfl
          have hgrl := World.ownsRow.lt hCR.1 gr rfl
          obtain ⟨cur, hcur⟩ := own_blk hCR.1 gr rfl
          have hne6 : ¬ gr = g6 := fun e => own_blk_ne hCR.1 hb6 (by decide) (by rw [e]; rfl)
          have hne1 : ¬ gr = G + 1 := fun e => own_blk_ne hCR.1 hb1 (by decide) (by rw [e]; rfl)
          have u0 := hcur.frozen (K * 4)
          have u1 := hcur.frozen (K * 4 + 1)
          have u2 := hcur.frozen (K * 4 + 2)
          have u3 := hcur.frozen (K * 4 + 3)
          have q1 : W8.cell? ⟨g6, 1, none⟩ = some (.slice (some ⟨gr, 0, none⟩) n7 c7) := hb6.cell 1
          have z0 : W8.cell? ⟨g9, 0, none⟩ = some (.slice Ar nr cr) := hb9.cell 0
          have z1 : W8.cell? ⟨g9, 1, none⟩ = some (.int .i64 c'.at_) := hb9.cell 1
          have z2 : W8.cell? ⟨g9, 2, none⟩ = some (.int .u32 c'.sum) := hb9.cell 2
          have z3 : W8.cell? ⟨g9, 3, none⟩ = some (.int .i64 c'.wrong) := hb9.cell 3
          have hput := hCR.put (K := K) (c' := c') hn7 hK6 _ hr8 (fun q hq => ⟨by
            have := hq.1; have := H3.out.2.2.1.size; have hh := World.ownsRow.lt H2.out.2.1.1 gr rfl; omega, hq.2.1⟩)
          have hK7 : K < n7 := by omega
          have hg61 : ¬ g6 = G + 1 := by have := H2.out.2.2.2.2.2.2; have := H.out.2.2.2.2.1.lt; omega
          have H8 := Lib.hid (And.intro hput (And.intro hF8 (And.intro hp8 (And.intro hb6 (And.intro hb1 (And.intro hgrl hs2))))))
          clear hput hF8 hp8 hb6 hb1 hCR hK6 e7 hn7 hgrl hcur hr8 hb9 hg9l hF28 hg9 y0 y1 y2 y3 y4 y5 d0 d1 d2 d3 x0 x1 he2 hs2 hcl he
          go_upto_region 9 with fail
          generalize ((((W8.setCell ⟨gr, K * 4, none⟩ (.slice Ar nr cr)).setCell ⟨gr, K * 4 + 1, none⟩ (.int .i64 c'.at_)).setCell ⟨gr, K * 4 + 2, none⟩ (.int .u32 c'.sum)).setCell ⟨gr, K * 4 + 3, none⟩ (.int .i64 c'.wrong)) = W9 at *
          clear u0 u1 u2 u3 v0 v1 v2 v3 z0 z1 z2 z3 q1
          have hb6 := H8.out.2.2.2.1.kept H8.out.1.2 (fun e => hne6 e.symm)
          have hb1 := H8.out.2.2.2.2.1.kept H8.out.1.2 (fun e => hne1 e.symm)
          have q0 : W9.cell? ⟨g6, 0, none⟩ = some (.slice A6 n6 c6) := hb6.cell 0
          have q1 : W9.cell? ⟨g6, 1, none⟩ = some (.slice (some ⟨gr, 0, none⟩) n7 c7) := hb6.cell 1
          have q2 := hb6.frozen 0
          have t0 : W9.cell? ⟨G + 1, 0, none⟩ = some (.slice none 0 0) := hb1.cell 0
          have t1 : W9.cell? ⟨G + 1, 1, none⟩ = some (.slice none 0 0) := hb1.cell 1
          have t2 := hb1.frozen 0
          have t3 := hb1.frozen 1
          have H9 := Lib.hid (And.intro hb6 hb1)
          clear hb6 hb1
          have hg61' : ¬ G + 1 = g6 := fun e => hg61 e.symm
          go_wp2_with fail
          obtain ⟨⟨hcs, hFp⟩, hF8, hp8, -, -, hgrl, hs2⟩ := H8.out
          obtain ⟨hb6, hb1⟩ := H9.out
          have hF9 : Frm (fun q => q = g6 ∨ q = G + 1) W9 (((W9.setCell ⟨g6, 0, none⟩ (.slice Ap np cp)).setCell ⟨G + 1, 0, none⟩ (.slice Ap np cp)).setCell ⟨G + 1, 1, none⟩ (.slice (some ⟨gr, 0, none⟩) n7 c7)) :=
            (((Frm.refl _ W9).setCell ⟨g6, 0, none⟩ (.inl (.inl rfl)) _).setCell ⟨G + 1, 0, none⟩ (.inl (.inr rfl)) _).setCell ⟨G + 1, 1, none⟩ (.inl (.inr rfl)) _
          refine bodyPost_ret (rstep_res _ _ (G + 1) _ _ true rfl rfl (((hb1.far (p := ⟨g6, 0, none⟩) hg61' _).set_ 0 _).set_ 1 _)) rfl ?_
          have hwG : w.heap.size ≤ G := Nat.le_of_eq H.out.2.2.2.2.2.symm
          have hs0 := H.out.2.2.1.size
          have hg6s := H2.out.2.2.2.2.2.2
          have hs3 := H3.out.2.2.2.size
          have hb6l := H2.out.2.2.2.2.2.1.lt
          have hs23 := H3.out.2.2.1.size
          have hbl := H.out.2.2.2.2.1.lt
          have hk8 : ∀ q, (w3.heap.size ≤ q ∧ q < W8.heap.size ∧ q ≠ g9) → (((W9.setCell ⟨g6, 0, none⟩ (.slice Ap np cp)).setCell ⟨G + 1, 0, none⟩ (.slice Ap np cp)).setCell ⟨G + 1, 1, none⟩ (.slice (some ⟨gr, 0, none⟩) n7 c7)).heap[q]? = W9.heap[q]? ∧ (w.heap.size ≤ q ∧ q < (((W9.setCell ⟨g6, 0, none⟩ (.slice Ap np cp)).setCell ⟨G + 1, 0, none⟩ (.slice Ap np cp)).setCell ⟨G + 1, 1, none⟩ (.slice (some ⟨gr, 0, none⟩) n7 c7)).heap.size) := fun q hq =>
            ⟨hF9.block q (Nat.lt_of_lt_of_le hq.2.1 hFp.size) (by rintro (e | e) <;> omega), by omega, Nat.lt_of_lt_of_le hq.2.1 (Nat.le_trans hFp.size hF9.size)⟩
          have hcs9 := hcs.keptTo (w' := (((W9.setCell ⟨g6, 0, none⟩ (.slice Ap np cp)).setCell ⟨G + 1, 0, none⟩ (.slice Ap np cp)).setCell ⟨G + 1, 1, none⟩ (.slice (some ⟨gr, 0, none⟩) n7 c7))) (K' := fun q => w.heap.size ≤ q ∧ q < (((W9.setCell ⟨g6, 0, none⟩ (.slice Ap np cp)).setCell ⟨G + 1, 0, none⟩ (.slice Ap np cp)).setCell ⟨G + 1, 1, none⟩ (.slice (some ⟨gr, 0, none⟩) n7 c7)).heap.size) (fun q hq => by
            rcases hq with hq | hq
            · exact ⟨hF9.block q hq.lt (by rintro (e | e); exact hq.ne hb6 e; exact hq.ne hb1 e), Nat.le_trans hs0 hq.1, Nat.lt_of_lt_of_le hq.lt hF9.size⟩
            · exact hk8 q hq)
          have hp9 := (hp8.keptTo (w' := W9) (K' := fun q => w3.heap.size ≤ q ∧ q < W8.heap.size ∧ q ≠ g9) fun q hq => ⟨hFp.block q hq.2.1 (by have := World.ownsRow.lt H2.out.2.1.1 gr rfl; omega), hq⟩).keptTo hk8
          refine ⟨_, by rw [rstep_yes HS.out.2.1], ?_, ?_⟩
          · rw [rstep_yes HS.out.2.1]
            refine ⟨_, _, _, _, _, _, rfl, ps', _, hp9, hcs9, ?_, ?_⟩
            · show _ = (stepC N K).ps
              unfold stepC
              rw [HS.out.2.2.1]
              dsimp only
              rw [← HN.out.2.2.1, ← hs2.out]
            · show _ = (stepC N K).cs
              unfold stepC
              rw [HS.out.2.2.1]
              dsimp only
              rw [List.map_set, ← HN.out.2.2.1, ← hs2.out, H2.out.2.2.2.1]
          · exact (((tr H.out.2.2.1 (tr H3.out.2.2.2 hF8)).trans hFp fun q hq => .inr (by have := World.ownsRow.lt H2.out.2.1.1 gr rfl; omega))).trans hF9 fun q hq => .inr (by rcases hq with e | e <;> omega)
      · have he : ((x : Int) == chore) = false := by simpa using hxc
        have HT := Lib.hid (fun (j : Nat) (hj : j < k + 1) => show (rdAll N)[j]? ≠ some chore from by
          rcases Nat.lt_or_ge j k with h1 | h1
          · exact hT.out j h1
          · obtain rfl : j = k := by omega
            rw [List.getElem?_eq_getElem hkx, ← hxx]
            intro e; injection e with e; exact hxc e)
        clear hxx hxc hkx
        go_wp2_with fail
        go_roundw
        case rel => exact ⟨k + 1, by omega, by go_num, trivial, HT⟩
        case measure => simp [intOf]; omega
    · obtain rfl : k = L := by omega
      have hno := rstep_no (N := N) (k := chore) (fun j => by
        rcases Nat.lt_or_ge j k with h1 | h1
        · exact hT.out j h1
        · rw [List.getElem?_eq_none (by have := H3.out.2.1; omega)]; simp)
      have HE := Lib.hid hno
      have hb6 := H2.out.2.2.2.2.2.1.kept H3.out.2.2.1 id
      have hb1 := H.out.2.2.2.2.1.kept H3.out.2.2.2 id
      have q0 : w3.cell? ⟨g6, 0, none⟩ = some (.slice A6 n6 c6) := hb6.cell 0
      have q1 : w3.cell? ⟨g6, 1, none⟩ = some (.slice A7 n7 c7) := hb6.cell 1
      have t0 : w3.cell? ⟨G + 1, 0, none⟩ = some (.slice none 0 0) := hb1.cell 0
      have t1 : w3.cell? ⟨G + 1, 1, none⟩ = some (.slice none 0 0) := hb1.cell 1
      have t2 := hb1.frozen 0
      have t3 := hb1.frozen 1
      have H9 := Lib.hid (And.intro hb6 hb1)
      clear hb6 hb1 hno
      go_wp2_with fail
      have hF9 : Frm (fun q => q = G + 1) w3 ((w3.setCell ⟨G + 1, 0, none⟩ (.slice A6 n6 c6)).setCell ⟨G + 1, 1, none⟩ (.slice A7 n7 c7)) :=
        ((Frm.refl (fun q => q = G + 1) w3).setCell ⟨G + 1, 0, none⟩ (.inl rfl) _).setCell ⟨G + 1, 1, none⟩ (.inl rfl) _
      refine bodyPost_ret (rstep_res _ _ (G + 1) _ _ false rfl rfl ((H9.out.2.set_ 0 _).set_ 1 _)) rfl ?_
      have hwG : w.heap.size ≤ G := Nat.le_of_eq H.out.2.2.2.2.2.symm
      have hbl := H.out.2.2.2.2.1.lt
      have hPR := (H2.out.1.keptF H3.out.2.2.1)
      have hCR := (H2.out.2.1.keptF H3.out.2.2.1)
      have hk9 : ∀ q, (W0.heap.size ≤ q ∧ q < w3.heap.size) → ((w3.setCell ⟨G + 1, 0, none⟩ (.slice A6 n6 c6)).setCell ⟨G + 1, 1, none⟩ (.slice A7 n7 c7)).heap[q]? = w3.heap[q]? ∧ (w.heap.size ≤ q ∧ q < ((w3.setCell ⟨G + 1, 0, none⟩ (.slice A6 n6 c6)).setCell ⟨G + 1, 1, none⟩ (.slice A7 n7 c7)).heap.size) := fun q hq => ⟨hF9.block q hq.2 (by omega), Nat.le_trans H.out.2.2.1.size hq.1, Nat.lt_of_lt_of_le hq.2 hF9.size⟩
      refine ⟨_, by rw [HE.out], ?_, (tr H.out.2.2.1 H3.out.2.2.2).trans hF9 fun q hq => .inr (by omega)⟩
      rw [HE.out]
      exact ⟨_, _, _, _, _, _, rfl, ps6, cks6, hPR.at.keptTo hk9, hCR.cs.keptTo hk9, H2.out.2.2.1, H2.out.2.2.2.1⟩
end Go.Proofs.Ytnibllkcacalhaa
