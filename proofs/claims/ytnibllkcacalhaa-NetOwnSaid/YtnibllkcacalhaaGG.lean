/- The walk of net.Step. The walk of net.Run. The walk of net.Finish. The walk of teaselref24.Clean. -/
import Derived.Test.YtnibllkcacalhaaHSp
import Derived.Test.YtnibllkcacalhaaGF
import Derived.Test.YtnibllkcacalhaaHRcl
namespace Go.Proofs.Ytnibllkcacalhaa
set_option maxRecDepth 100000
open Go.RowKit Go.Shelf
attribute [local go_sem] Oper.semAt_some
theorem NV.cellsIn {w : World} {K : Nat → Prop} {B : Nat} {V : Value} {N : Nt} (h : NV w K V N) (hK : ∀ q, K q → B ≤ q ∧ UF w q) : NV w (CellsFrom w B) V N := NV.keptTo h fun q hq => ⟨rfl, hK q hq⟩
theorem CellsFrom.lt {w : World} {B q : Nat} (h : CellsFrom w B q) : q < w.heap.size := by
  obtain ⟨-, cs, t, h⟩ := h
  exact h.lt
theorem CellsFrom.ab {X Y : World} {B : Nat} {row : Option Nat} (hg : X.grownBy Y row) (hr : ∀ r, row = some r → ∃ o : Obj, X.heap[r]? = some o ∧ o.isCells = false) (q : Nat) (h : CellsFrom X B q) : Y.heap[q]? = X.heap[q]? ∧ CellsFrom Y B q := by
  obtain ⟨h1, cs, t, h2⟩ := h
  have := blk_kept h2 hg hr
  exact ⟨this.trans h2.symm, h1, cs, t, this⟩
/-- What a step tells. -/
def StepR (B : Nat) (N : Nt) (b : Bool) (w : World) (e : Ending) (w' : World) : Prop := ∃ V, e = .returned (.tuple #[V, .bool b]) ∧ NV w' (CellsFrom w' B) V N ∧ Frm (fun _ => False) w w'
theorem step_res (tmps : Array Value) (w : World) (g g2 : Nat) (vp vc : Value) (b : Bool) (hp : tmps.getD 4 undef = .pointer (some ⟨g, 0, none⟩)) (hq : tmps.getD 5 undef = .pointer (some ⟨g2, 0, none⟩))
    (hg : w.heap[g]? = some (.cells #[vp, vc] 25 (0, 0))) (hv : w.cell? ⟨g2, 0, none⟩ = some (.bool b)) : (results Try.f10 tmps).run Try.prog w = .ok (.tuple #[.agg #[vp, vc], .bool b]) w := by
  have hp' : tmps[4]?.getD undef = .pointer (some ⟨g, 0, none⟩) := by simpa using hp
  have hq' : tmps[5]?.getD undef = .pointer (some ⟨g2, 0, none⟩) := by simpa using hq
  have c0 : w.cell? ⟨g, 0, none⟩ = some vp := cell_of_row w g 0 _ _ _ hg
  have c1 : w.cell? ⟨g, 1, none⟩ = some vc := cell_of_row w g 1 _ _ _ hg
  simp [results, Try.results10, go_sem, hp', hq', asAddr, c0, c1, hv]
/-- The cells of Step's results, as they are left. -/
def Told (B g : Nat) (N : Nt) (b : Bool) (w : World) (_ : List Int) (W : World) : Prop := ∃ vp vc, W.heap[g]? = some (.cells #[vp, vc] 25 (0, 0)) ∧ W.heap[g + 1]? = some (.cells #[.bool b] 4 (0, 0)) ∧ NV W (CellsFrom W B) (.agg #[vp, vc]) N
theorem Told.own (B g : Nat) (N : Nt) (b : Bool) (w : World) : Own (Told B g N b w) := by
  rintro s X Y row ⟨vp, vc, h1, h2, h3⟩ hg hr
  exact ⟨vp, vc, blk_kept h1 hg hr, blk_kept h2 hg hr, h3.keptTo fun q hq => CellsFrom.ab hg hr q hq⟩
theorem told_fin {m D B g : Nat} {b : Bool} {N : Nt} {w W : World} {l : List Int} {t : Array Value} (h0 : Told B g N b w l W) (hK : W.heap[D]? = some (.deferred (some []))) (hF : Frm (fun _ => False) w W) (hD : w.heap.size ≤ D)
    (h4 : t.getD 4 undef = .pointer (some ⟨g, 0, none⟩)) (h5 : t.getD 5 undef = .pointer (some ⟨g + 1, 0, none⟩)) : bodyPostM Fence.wide m Try.prog Try.f10 (StepR B N b w) Exit.ret { tmps := t, defers := [{ target := .collected D, args := #[] }] } W := by
  refine ⟨by simp, .inl ⟨_, _, rfl, run_takeDeferred hK, ?_⟩⟩
  have hg := grownBy_putObj' W D (.deferred none)
  obtain ⟨vp, vc, h1, h2, h3⟩ := Told.own B g N b w l W _ (some D) h0 hg (fun r e => by cases e; exact ⟨_, hK, rfl⟩)
  refine ⟨_, step_res t _ g (g + 1) _ _ b h4 h5 h1 (cell_of_one h2), _, rfl, h3, hF.grown hg fun k e => by cases e; exact .inr hD⟩
def StepTold (N : Nt) (chore : Int) (w : World) : Ending → World → Prop := StepR w.heap.size (stepNt N chore).1 (stepNt N chore).2 w
theorem frm_others {B : Nat} {W W' : World} (h : Frm (CellsFrom W B) W W') : KeepsOthers W W' :=
  ⟨h.size, fun k o hk ho => (h.block k (lt_heap hk) (by rintro ⟨-, cs, t, e⟩; have e : W.heap[k]? = _ := e; rw [hk] at e; cases e; cases ho)).trans hk⟩
theorem netk_ne {w : World} {B g : Nat} {t : TypeId} {cs : Array Value} (h : Blk w g t cs) (h1 : t ≠ 66) (h2 : t ≠ 46) : ¬ NetK w B g := by
  rintro ⟨-, cs', t', h3, h4⟩
  unfold Blk at h
  rw [h] at h3
  cases h3
  exact h4.elim h1 h2
theorem WAt.nv {w : World} {B b : Nat} {N : Nt} (h : WAt w B b N) : ∃ A1 n1 c1 A n c, Blk w b 66 #[.slice A1 n1 c1, .slice A n c] ∧ NV w (fun q => B ≤ q ∧ q < w.heap.size ∧ q ≠ b ∧ UF w q) (.agg #[.slice A1 n1 c1, .slice A n c]) N := by
  obtain ⟨A1, n1, c1, A, n, c, ps, cks, h1, h2, h3, h4, h5⟩ := h.rd
  exact ⟨A1, n1, c1, A, n, c, h1, A1, n1, c1, A, n, c, rfl, ps, cks, h2, h3, h4, h5⟩
theorem told_now {w w4 : World} {B b G : Nat} {N : Nt} {vp vc : Value} {c2 c3 : Array Value} (hG : G = w.heap.size) (hB : G + 4 ≤ B) (hn : NV w4 (fun q => B ≤ q ∧ q < w4.heap.size ∧ q ≠ b ∧ UF w4 q) (.agg #[vp, vc]) N) (h2 : Blk w4 (G + 1 + 1) 25 c2) (h2' : c2.size = 2) (h3 : Blk w4 (G + 1 + 1 + 1) 4 c3) (h3' : c3.size = 1) (v : Bool) :
    Told w.heap.size (G + 1 + 1) N v w [] (((w4.setCell ⟨G + 1 + 1, 0, none⟩ vp).setCell ⟨G + 1 + 1, 1, none⟩ vc).setCell ⟨G + 1 + 1 + 1, 0, none⟩ (.bool v)) ∧ Frm (fun q => w.heap.size ≤ q) w4 (((w4.setCell ⟨G + 1 + 1, 0, none⟩ vp).setCell ⟨G + 1 + 1, 1, none⟩ vc).setCell ⟨G + 1 + 1 + 1, 0, none⟩ (.bool v)) := by
  have hF : Frm (fun q => w.heap.size ≤ q ∧ q < B) w4 (((w4.setCell ⟨G + 1 + 1, 0, none⟩ vp).setCell ⟨G + 1 + 1, 1, none⟩ vc).setCell ⟨G + 1 + 1 + 1, 0, none⟩ (.bool v)) := (((Frm.refl _ w4).setCell _ (.inl (by simp; omega)) _).setCell _ (.inl (by simp; omega)) _).setCell _ (.inl (by simp; omega)) _
  refine ⟨⟨vp, vc, ?_, ?_, (hn.keptTo (K' := fun q => B ≤ q ∧ UF (((w4.setCell ⟨G + 1 + 1, 0, none⟩ vp).setCell ⟨G + 1 + 1, 1, none⟩ vc).setCell ⟨G + 1 + 1 + 1, 0, none⟩ (.bool v)) q) fun q hq => ⟨hF.block q hq.2.1 (by omega), hq.1, hq.2.2.2.of (hF.block q hq.2.1 (by omega))⟩).cellsIn fun q hq => ⟨by omega, hq.2⟩⟩, hF.mono fun q hq => .inl hq.1⟩
  · have := ((h2.set_ 0 vp).set_ 1 vc).far (p := ⟨G + 1 + 1 + 1, 0, none⟩) (by simp) (.bool v)
    have e : (c2.setIfInBounds 0 vp).setIfInBounds 1 vc = #[vp, vc] := by
      obtain ⟨l⟩ := c2
      obtain ⟨x, y, rfl⟩ : ∃ x y, l = [x, y] := by
        match l, h2' with
        | [x, y], _ => exact ⟨x, y, rfl⟩
      rfl
    rw [e] at this
    exact this
  · have := ((h3.far (p := ⟨G + 1 + 1, 0, none⟩) (by simp) vp).far (p := ⟨G + 1 + 1, 1, none⟩) (by simp) vc).set_ 0 (.bool v)
    have e : c3.setIfInBounds 0 (.bool v) = #[.bool v] := by
      obtain ⟨l⟩ := c3
      obtain ⟨x, rfl⟩ : ∃ x, l = [x] := by
        match l, h3' with
        | [x], _ => exact ⟨x, rfl⟩
      rfl
    rw [e] at this
    exact this
theorem stepNt_yes {N : Nt} {k : Nat} (h : k ∈ readyNt N) : stepNt N (k : Int) = (stepC N (k : Int).toNat, true) := by
  unfold stepNt
  rw [if_pos ⟨by omega, by simpa using h⟩]
theorem stepNt_no {N : Nt} {k : Int} (h : ¬ (0 ≤ k ∧ k.toNat ∈ readyNt N)) : stepNt N k = (N, false) := by
  unfold stepNt
  rw [if_neg h]
theorem attach_rd (N : Nt) : (readyNt N).attach.map (fun x => (x.1 : Int)) = rdAll N := by
  unfold rdAll
  conv => rhs; rw [← List.attach_map_subtype_val (readyNt N)]
  rw [List.map_map]
  rfl
theorem ownFrom_frm {β : Type} {w : World} : OwnFrom w.heap.size (fun (_ : β) W => Frm (fun _ => False) w W) := fun _ _ _ _ h hg hr => h.grown hg fun k e => .inr (hr k e).1
theorem ownFrom_frm' {β : Type} {w : World} {B : Nat} (hB : w.heap.size ≤ B) : OwnFrom B (fun (_ : β) W => Frm (fun _ => False) w W) := fun _ _ _ _ h hg hr => h.grown hg fun k e => .inr (Nat.le_trans hB (hr k e).1)
set_option maxRecDepth 100000 in
set_option maxHeartbeats 4000000 in
theorem step_in (V : Value) (N : Nt) (chore : Int) (w : World) (h : NR w V N) (hsm : SmN N) : CallsIn Fence.wide 6 Try.prog 10 #[V, .int .i64 chore] w (StepTold N chore w) := by
  obtain ⟨A1, n1, c1, A, n, c, rfl⟩ := h.form
  have H := Lib.hid (And.intro h hsm)
  clear h hsm
  refine callsIn_of_wp_marks Try.func10 rfl trivial ?_ rfl
  simp only [Try.ntmps10, List.size_toArray, List.length_cons, List.length_nil, Nat.reduceAdd, Nat.reduceSub, Array.replicate_succ, Array.replicate_zero, List.push_toArray, List.append_toArray, List.nil_append, List.cons_append]
  gi_wp2_with fail
  obtain ⟨W0, hW0⟩ : ∃ W, W = (((w.alloc (.cells #[.slice A1 n1 c1, .slice A n c] 25)).alloc (.cells #[.int .i64 chore] 3)).alloc (.cells #[.slice none 0 0, .slice none 0 0] 25)).alloc (.cells #[.bool false] 4) := ⟨_, rfl⟩
  obtain ⟨G, hG⟩ : ∃ G, G = w.heap.size := ⟨_, rfl⟩
  have hF0 : Frm (fun _ => False) w W0 := by rw [hW0]; exact ((((Frm.refl _ w).alloc _).alloc _).alloc _).alloc _
  have hb1 : Blk W0 (G + 1) 3 #[.int .i64 chore] := by
    rw [hW0, hG]
    have := ((Blk.new (w.alloc (.cells #[.slice A1 n1 c1, .slice A n c] 25)) 3 #[.int .i64 chore]).alloc (.cells #[.slice none 0 0, .slice none 0 0] 25)).alloc (.cells #[.bool false] 4)
    rwa [World.size_alloc] at this
  have hb2 : Blk W0 (G + 1 + 1) 25 #[.slice none 0 0, .slice none 0 0] := by
    rw [hW0, hG]
    have := (Blk.new ((w.alloc (.cells #[.slice A1 n1 c1, .slice A n c] 25)).alloc (.cells #[.int .i64 chore] 3)) 25 #[.slice none 0 0, .slice none 0 0]).alloc (.cells #[.bool false] 4)
    rwa [World.size_alloc, World.size_alloc] at this
  have hb3 : Blk W0 (G + 1 + 1 + 1) 4 #[.bool false] := by
    rw [hW0, hG]
    have := Blk.new (((w.alloc (.cells #[.slice A1 n1 c1, .slice A n c] 25)).alloc (.cells #[.int .i64 chore] 3)).alloc (.cells #[.slice none 0 0, .slice none 0 0] 25)) 4 #[.bool false]
    rwa [World.size_alloc, World.size_alloc, World.size_alloc] at this
  rw [← hW0, ← hG]
  have H0 := Lib.hid (And.intro hF0 (And.intro hb1 (And.intro hb2 (And.intro hb3 hG))))
  clear hF0 hb1 hb2 hb3 hG hW0
  refine ⟨trivial, ?_⟩
  refine (callsIn_wide.2 (own_n _ N W0 (H.out.1.kept H0.out.1) H.out.2)).mono ?_
  rintro e w1 ⟨b, rfl, hwa, hF1⟩
  have H1 := Lib.hid (And.intro hwa hF1)
  clear hwa hF1
  gi_wp2_with fail
  refine ⟨trivial, ?_⟩
  refine (callsIn_wide.2 (readyf_any _ _)).mono ?_
  rintro e w2 ⟨rfl, rfl⟩
  obtain ⟨W3, hW3⟩ : ∃ W, W = (w1.alloc (.cells #[.pointer (some ⟨b, 0, none⟩)] 59)).alloc (.cells #[.pointer (some ⟨b, 0, none⟩)] 59) := ⟨_, rfl⟩
  obtain ⟨S, hS⟩ : ∃ S, S = w1.heap.size := ⟨_, rfl⟩
  rw [← hW3, World.size_alloc, ← hS]
  have hF3 : Frm (fun _ => False) w1 W3 := by rw [hW3]; exact ((Frm.refl _ w1).alloc _).alloc _
  have hs3 : W3.heap.size = S + 2 := by rw [hW3, hS]; simp
  have hk3 : Blk W3 S 59 #[.pointer (some ⟨b, 0, none⟩)] := by rw [hW3, hS]; exact (Blk.new w1 _ _).alloc _
  have hk4 : Blk W3 (S + 1) 59 #[.pointer (some ⟨b, 0, none⟩)] := by
    rw [hW3, hS]
    have := Blk.new (w1.alloc (.cells #[.pointer (some ⟨b, 0, none⟩)] 59)) 59 #[.pointer (some ⟨b, 0, none⟩)]
    rwa [World.size_alloc] at this
  have hF03 := H1.out.2.trans hF3 fun _ h => h.elim
  have hwa3 := H1.out.1.kept hF3
  have hsz : w.heap.size ≤ W0.heap.size := H0.out.1.size
  have hst := ready_stops (fun x : { k // k ∈ readyNt N } => (x.1 : Int)) (readyNt N).attach 5 (by omega) (S + 1) b N (attach_rd N) W3 (hk4.cell 0) (hwa3.rd.mono fun q hq => hq.2.1)
  have H3 := Lib.hid (And.intro hF03 (And.intro hwa3 (And.intro hk3 (And.intro hs3 (And.intro hsz (And.intro (H0.out.2.1.kept hF03 id) (And.intro (H0.out.2.2.1.kept hF03 id) (And.intro (H0.out.2.2.2.1.kept hF03 id) (H0.out.1.trans hF03 fun _ h => h.elim)))))))))
  have HSt := Lib.hid hst
  have HG := Lib.hid H0.out.2.2.2.2
  have HGs : Hid (G + 4 ≤ W0.heap.size) := Lib.hid H0.out.2.2.2.1.lt
  clear hF3 hs3 hk3 hk4 hF03 hwa3 hsz hst hW3 hS H0 H1
  gi_wp2_with fail
  refine wpIn_rangeFunc_ownF rfl (by omega) (gf := 55) (lb := #[.pointer (some ⟨S + 1, 0, none⟩)]) rfl trivial (enters_of Try.func55 (by kernel_rfl) rfl)
    HSt.out belowK_t (belowK_b (Nat.le_refl _)) (Below.refl _ _) (fun _ => rfl)
    (fun pre W => (∀ x ∈ pre, (x.1 : Int) ≠ chore) ∧ Frm (fun _ => False) W3 W)
    (fun cc pre W => ((cc = .ret ∧ ∃ k, k ∈ readyNt N ∧ chore = (k : Int)) ∧ Told w.heap.size (G + 1 + 1) (stepC N chore.toNat) true w [] W) ∧ Frm (fun _ => False) w W)
    (OwnFrom.and (ownFrom_pure _ _) ownFrom_frm)
    (fun cc => OwnFrom.and (OwnFrom.and (ownFrom_pure _ _) (Own.from (fun _ X Y row hs hg hr => Told.own w.heap.size (G + 1 + 1) _ true w [] X Y row hs hg hr) _)) (ownFrom_frm' (by have := H3.out.2.2.2.2.2.2.2.2.size; omega)))
    ⟨by simp, Frm.refl _ _⟩
    (fun x => { tmps := #[.agg #[.slice A1 n1 c1, .slice A n c], .int .i64 chore, .pointer (some ⟨G, 0, none⟩), .pointer (some ⟨G + 1, 0, none⟩), .pointer (some ⟨G + 1 + 1, 0, none⟩), .pointer (some ⟨G + 1 + 1 + 1, 0, none⟩), .pointer (some ⟨S, 0, none⟩), .int .i64 x.1, .agg #[.slice A1 n1 c1, .slice A n c], .pointer (some ⟨b, 0, none⟩), .pointer (some ⟨b, 0, none⟩), .func (.func 55) #[] #[.pointer (some ⟨S + 1, 0, none⟩)], .int .i64 x.1, undef, undef, undef, undef, undef, undef, undef, undef, undef, undef, undef, undef, undef, undef], defers := [] }) ?assign ?body ?done ?stop
  case assign =>
    intro l x W K hK
    gi_wp2
    exact hK
  case body =>
    rintro l pre x W ⟨hpre, hFW⟩ hl
    have hbc := H3.out.2.2.2.2.2.1.kept hFW id
    have x0 : W.cell? ⟨G + 1, 0, none⟩ = some (.int .i64 chore) := hbc.cell 0
    by_cases he : (x.1 : Int) = chore
    · have hstp := step_w W0.heap.size b N x.1 W (H3.out.2.1.kept hFW) x.2
      have hee : (((x.1 : Nat) : Int) == chore) = true := by simpa using he
      have HB := Lib.hid (And.intro hstp (And.intro hFW (And.intro he (And.intro (H3.out.2.2.1.kept hFW id) (And.intro (H3.out.2.2.2.2.2.2.1.kept hFW id) (H3.out.2.2.2.2.2.2.2.1.kept hFW id))))))
      have x1 : W.cell? ⟨S, 0, none⟩ = some (.pointer (some ⟨b, 0, none⟩)) := HB.out.2.2.2.1.cell 0
      clear hpre hFW he hbc hl hstp
      gi_wp2_with fail
      refine ⟨trivial, ?_⟩
      refine (CallsIn.inRound l (callsIn_wide.2 HB.out.1)).mono ?_
      rintro e w4 ⟨⟨v, rfl⟩, hwa4, hF4⟩
      have hk4 := HB.out.2.2.2.1.kept hF4 (netk_ne HB.out.2.2.2.1 (by decide) (by decide))
      have hr4 := HB.out.2.2.2.2.1.kept hF4 (netk_ne HB.out.2.2.2.2.1 (by decide) (by decide))
      have hs4 := HB.out.2.2.2.2.2.kept hF4 (netk_ne HB.out.2.2.2.2.2 (by decide) (by decide))
      obtain ⟨A1', n1', c1', A', n', c', hb4, hn4⟩ := hwa4.nv
      have y0 : w4.cell? ⟨S, 0, none⟩ = some (.pointer (some ⟨b, 0, none⟩)) := hk4.cell 0
      have y1 : w4.cell? ⟨b, 0, none⟩ = some (.slice A1' n1' c1') := hb4.cell 0
      have y2 : w4.cell? ⟨b, 1, none⟩ = some (.slice A' n' c') := hb4.cell 1
      have y3 : w4.cell? ⟨G + 1 + 1, 0, none⟩ = some (.slice none 0 0) := hr4.cell 0
      have y4 : w4.cell? ⟨G + 1 + 1, 1, none⟩ = some (.slice none 0 0) := hr4.cell 1
      have y5 : w4.cell? ⟨G + 1 + 1 + 1, 0, none⟩ = some (.bool false) := hs4.cell 0
      have f3 := hr4.frozen 0
      have f4 := hr4.frozen 1
      have f5 := hs4.frozen 0
      have htn := told_now (w := w) HG.out HGs.out hn4 hr4 rfl hs4 rfl true
      have HT := Lib.hid (And.intro htn hF4)
      clear htn hF4 hk4 hr4 hs4 hb4 hn4 hwa4 x1
      gi_wp2_with fail
      refine ⟨?_, ⟨⟨rfl, x.1, x.2, HB.out.2.2.1.symm⟩, ?_⟩, ?_⟩
      · exact (((frm_others (HT.out.2.mono fun q hq => .inl hq.cells)).trans (KeepsOthers.setCell _ _ _)).trans (KeepsOthers.setCell _ _ _)).trans (KeepsOthers.setCell _ _ _)
      · have e : chore.toNat = x.1 := by rw [← HB.out.2.2.1]; simp
        rw [e]
        exact HT.out.1.1
      · exact (((H3.out.2.2.2.2.2.2.2.2.trans HB.out.2.1 fun _ h => h.elim).trans HT.out.2 fun q hq => .inr (Nat.le_trans H3.out.2.2.2.2.1 hq.1)).trans HT.out.1.2 fun q hq => .inr hq)
    · have hne : (((x.1 : Nat) : Int) == chore) = false := by simpa using he
      have HB := Lib.hid (And.intro hpre (And.intro hFW he))
      clear hpre hFW he hbc hl
      gi_wp2_with fail
      refine ⟨KeepsOthers.refl _, Below.refl _ _, fun y hy => ?_, HB.out.2.1⟩
      rcases List.mem_append.1 hy with h | h
      · exact HB.out.1 y h
      · simp at h; subst h; exact HB.out.2.2
  case done =>
    rintro D ys W hD rfl ⟨hpre, hFW⟩ hK
    obtain ⟨A1', n1', c1', A', n', c', hb4, hn4⟩ := (H3.out.2.1.kept hFW).nv
    have hr4 := H3.out.2.2.2.2.2.2.1.kept hFW id
    have hs4 := H3.out.2.2.2.2.2.2.2.1.kept hFW id
    have y0 : W.cell? ⟨S, 0, none⟩ = some (.pointer (some ⟨b, 0, none⟩)) := (H3.out.2.2.1.kept hFW id).cell 0
    have y1 : W.cell? ⟨b, 0, none⟩ = some (.slice A1' n1' c1') := hb4.cell 0
    have y2 : W.cell? ⟨b, 1, none⟩ = some (.slice A' n' c') := hb4.cell 1
    have y3 : W.cell? ⟨G + 1 + 1, 0, none⟩ = some (.slice none 0 0) := hr4.cell 0
    have y4 : W.cell? ⟨G + 1 + 1, 1, none⟩ = some (.slice none 0 0) := hr4.cell 1
    have y5 : W.cell? ⟨G + 1 + 1 + 1, 0, none⟩ = some (.bool false) := hs4.cell 0
    have f3 := hr4.frozen 0
    have f4 := hr4.frozen 1
    have f5 := hs4.frozen 0
    have htn := told_now (w := w) HG.out HGs.out hn4 hr4 rfl hs4 rfl false
    have HT := Lib.hid (And.intro htn (And.intro hFW (And.intro hpre hK)))
    clear htn hr4 hs4 hb4 hn4 hFW hpre hK
    gi_wp2_with fail
    unfold StepTold
    rw [stepNt_no fun h => by
      have h2 : (⟨chore.toNat, h.2⟩ : { k // k ∈ readyNt N }) ∈ (readyNt N).attach := List.mem_attach _ _
      have := HT.out.2.2.1 _ h2
      simp only at this
      have h3 := h.1
      omega]
    exact told_fin HT.out.1.1 (by
      have h1 := KeepsOthers.same (((KeepsOthers.setCell W ⟨G + 1 + 1, 0, none⟩ (.slice A1' n1' c1')).trans (KeepsOthers.setCell _ ⟨G + 1 + 1, 1, none⟩ (.slice A' n' c'))).trans (KeepsOthers.setCell _ ⟨G + 1 + 1 + 1, 0, none⟩ (.bool false))) D _ HT.out.2.2.2 rfl
      exact h1) ((H3.out.2.2.2.2.2.2.2.2.trans HT.out.2.1 fun _ h => h.elim).trans HT.out.1.2 fun q hq => .inr hq) (by have := H3.out.2.2.2.2.2.2.2.2.size; omega) rfl rfl
  case stop =>
    rintro D cc pre W hD hpre ⟨⟨⟨rfl, k, hk, rfl⟩, hT⟩, hF⟩ hK
    have HB := Lib.hid (And.intro hT (And.intro hF (And.intro hK hk)))
    clear hT hF hK hk
    gi_wp2
    unfold StepTold
    rw [stepNt_yes HB.out.2.2.2]
    exact told_fin HB.out.1 HB.out.2.2.1 HB.out.2.1 (by have := H3.out.2.2.2.2.2.2.2.2.size; omega) rfl rfl
theorem step_n (V : Value) (N : Nt) (chore : Int) (w : World) (h : NR w V N) (hsm : SmN N) : Calls Try.prog 10 #[V, .int .i64 chore] w (StepTold N chore w) := callsIn_wide.1 (step_in V N chore w h hsm)
end Go.Proofs.Ytnibllkcacalhaa
namespace Go.Proofs.Ytnibllkcacalhaa
set_option maxRecDepth 100000
open Go.RowKit Go.Shelf
theorem pick_num (p : Int) (L : Nat) (h : 0 < L) : (p.tmod L + L).tmod L = p % L ∧ 0 ≤ p.tmod L + L ∧ p.tmod L + L < 2 * L := by
  have h1 := Int.tmod_lt_of_pos p (show (0 : Int) < L by omega)
  have h2 : -(L : Int) < p.tmod L := by
    have := Int.tmod_lt_of_pos (-p) (show (0 : Int) < L by omega)
    rw [Int.neg_tmod] at this
    omega
  refine ⟨?_, by omega, by omega⟩
  rw [Int.tmod_eq_emod_of_nonneg (by omega), Int.add_emod_right, Int.tmod_eq_emod]
  split
  · simp
  · rename_i hc
    simp
theorem pick_at {l : List Nat} (p : Int) (h : l ≠ []) : (p % l.length).toNat < l.length ∧ l[(p % l.length).toNat]? = some (pickAt l p) ∧ pickAt l p ∈ l := by
  have hl : 0 < l.length := List.length_pos_iff.2 h
  have h1 := Int.emod_lt_of_pos p (show (0 : Int) < l.length by omega)
  have h2 := Int.emod_nonneg p (show (l.length : Int) ≠ 0 by omega)
  have h3 : (p % l.length).toNat < l.length := by omega
  have h4 : pickAt l p = l[(p % l.length).toNat] := by unfold pickAt; rw [List.getD_eq_getElem?_getD, List.getElem?_eq_getElem h3]; rfl
  exact ⟨h3, by rw [List.getElem?_eq_getElem h3, h4], by rw [h4]; exact List.getElem_mem h3⟩
theorem runNt_step {n : Nt} {p : Int} {ps : List Int} (h : readyNt n ≠ []) : runNt n (p :: ps) = ((runNt (stepC n (pickAt (readyNt n) p)) ps).1, (runNt (stepC n (pickAt (readyNt n) p)) ps).2 + 1) := by
  rw [runNt, if_neg h]
theorem runNt_end {n : Nt} (ps : List Int) (h : readyNt n = []) : runNt n ps = (n, 0) := by
  cases ps with
  | nil => rfl
  | cons p ps => rw [runNt, if_pos h]
def RunR (N : Nt) (m : Nat) (w : World) (e : Ending) (w' : World) : Prop := ∃ V, e = .returned (.tuple #[V, .int .i64 m]) ∧ NV w' (CellsFrom w' w.heap.size) V N ∧ Frm (fun _ => False) w w'
/-- The state ahead of a pick. -/
def RunI (w W0 : World) (b G : Nat) (N : Nt) (picks : List Int) (k m : Nat) (wr : World) : Prop :=
  ∃ n, WAt wr W0.heap.size b n ∧ (runNt N picks).1 = (runNt n (picks.drop k)).1 ∧ (runNt N picks).2 = m + (runNt n (picks.drop k)).2 ∧ m ≤ k ∧ Frm (fun _ => False) w wr ∧ Blk wr (G + 1) 25 #[.slice none 0 0, .slice none 0 0]
theorem run_res (tmps : Array Value) (w : World) (g : Nat) (vp vc : Value) (m : Nat) (hp : tmps.getD 4 undef = .pointer (some ⟨g, 0, none⟩)) (hq : tmps.getD 5 undef = .int .i64 m)
    (hg : w.heap[g]? = some (.cells #[vp, vc] 25 (0, 0))) : (results Try.f12 tmps).run Try.prog w = .ok (.tuple #[.agg #[vp, vc], .int .i64 m]) w := by
  have hp' : tmps[4]?.getD undef = .pointer (some ⟨g, 0, none⟩) := by simpa using hp
  have hq' : tmps[5]?.getD undef = .int .i64 m := by simpa using hq
  have c0 : w.cell? ⟨g, 0, none⟩ = some vp := cell_of_row w g 0 _ _ _ hg
  have c1 : w.cell? ⟨g, 1, none⟩ = some vc := cell_of_row w g 1 _ _ _ hg
  simp [results, Try.results12, go_sem, hp', hq', asAddr, c0, c1]
/-- A net told in the block g. -/
theorem told_at {w w4 : World} {B b g : Nat} {N : Nt} {vp vc : Value} {x y : Value} (hg : w.heap.size ≤ g) (hB : g < B) (hn : NV w4 (fun q => B ≤ q ∧ q < w4.heap.size ∧ q ≠ b ∧ UF w4 q) (.agg #[vp, vc]) N) (h2 : Blk w4 g 25 #[x, y]) (hF : Frm (fun _ => False) w w4) :
    Blk ((w4.setCell ⟨g, 0, none⟩ vp).setCell ⟨g, 1, none⟩ vc) g 25 #[vp, vc] ∧ NV ((w4.setCell ⟨g, 0, none⟩ vp).setCell ⟨g, 1, none⟩ vc) (CellsFrom ((w4.setCell ⟨g, 0, none⟩ vp).setCell ⟨g, 1, none⟩ vc) w.heap.size) (.agg #[vp, vc]) N ∧ Frm (fun _ => False) w ((w4.setCell ⟨g, 0, none⟩ vp).setCell ⟨g, 1, none⟩ vc) := by
  have hFs : Frm (fun q => q = g) w4 ((w4.setCell ⟨g, 0, none⟩ vp).setCell ⟨g, 1, none⟩ vc) := ((Frm.refl (fun q => q = g) w4).setCell ⟨g, 0, none⟩ (.inl rfl) _).setCell ⟨g, 1, none⟩ (.inl rfl) _
  exact ⟨(h2.set_ 0 vp).set_ 1 vc, (hn.keptTo (K' := fun q => B ≤ q ∧ UF ((w4.setCell ⟨g, 0, none⟩ vp).setCell ⟨g, 1, none⟩ vc) q) fun q hq => ⟨hFs.block q hq.2.1 (by omega), hq.1, hq.2.2.2.of (hFs.block q hq.2.1 (by omega))⟩).cellsIn fun q hq => ⟨by omega, hq.2⟩, hF.trans hFs fun q hq => .inr (by omega)⟩
set_option maxHeartbeats 3200000 in
theorem run_n (V : Value) (N : Nt) (vp : Value) (picks : List Int) (w : World) (h : NR w V N) (hsm : SmN N) (hp : Sl w (fun q => q < w.heap.size) vp (picks.map iv)) (hl : picks.length ≤ 1000000) : Calls Try.prog 12 #[V, vp] w (RunR (runNt N picks).1 (runNt N picks).2 w) := by
  obtain ⟨A1, n1, c1, A, n, c, rfl⟩ := h.form
  obtain ⟨Ap, np, cp, rfl, hnp, hcp, hcm, hx⟩ := hp
  rw [List.length_map] at hnp
  obtain ⟨W0, hW0⟩ : ∃ W, W = (w.alloc (.cells #[.slice A1 n1 c1, .slice A n c] 25)).alloc (.cells #[.slice none 0 0, .slice none 0 0] 25) := ⟨_, rfl⟩
  obtain ⟨G, hG⟩ : ∃ G, G = w.heap.size := ⟨_, rfl⟩
  have hF0 : Frm (fun _ => False) w W0 := by rw [hW0]; exact ((Frm.refl _ w).alloc _).alloc _
  have hb0 : Blk W0 G 25 #[.slice A1 n1 c1, .slice A n c] := by rw [hW0, hG]; exact (Blk.new w _ _).alloc _
  have hb1 : Blk W0 (G + 1) 25 #[.slice none 0 0, .slice none 0 0] := by
    rw [hW0, hG]
    have := Blk.new (w.alloc (.cells #[.slice A1 n1 c1, .slice A n c] 25)) 25 #[.slice none 0 0, .slice none 0 0]
    rwa [World.size_alloc] at this
  have x0 : W0.cell? ⟨G, 0, none⟩ = some (.slice A1 n1 c1) := hb0.cell 0
  have x1 : W0.cell? ⟨G, 1, none⟩ = some (.slice A n c) := hb0.cell 1
  have hown := own_n _ N W0 (h.kept hF0) hsm
  have H := Lib.hid (And.intro hown (And.intro hF0 (And.intro hb1 (And.intro hG (And.intro hx hnp)))))
  have hl' : np ≤ 1000000 := by omega
  clear h hsm hx hnp hcp hcm hl hF0 hb0 hb1 hown
  go_enter Try.func12, Try.ntmps12
  go_upto_region 1 with fail
  rw [← hG, ← hW0]
  clear hG hW0
  go_wp2_with fail
  refine H.out.1.mono ?_
  rintro e w1 ⟨b, rfl, hwa, hF1⟩
  have H1 := Lib.hid (And.intro hwa hF1)
  clear hwa hF1 x0 x1
  go_wp2_with fail
  go_loopw [7, 15] (fun s i wr => ∃ k m : Nat, k ≤ np ∧ m ≤ 1000000 ∧ i = .int .i64 k ∧ s = .int .i64 m ∧ Hid (RunI w W0 b G N picks k m wr)) (fun _ i _ => np - (intOf i).toNat)
  case atStart => exact ⟨0, 0, Nat.zero_le _, by omega, rfl, rfl, Lib.hid ⟨N, H1.out.1, by simp, by simp, by omega, H.out.2.1.trans H1.out.2 fun _ h => h.elim, H.out.2.2.1.kept H1.out.2 id⟩⟩
  case round =>
    obtain ⟨k, m, hk, hm, rfl, rfl, hT⟩ := hrel
    by_cases hlt : k < np
    · obtain ⟨nt, hwa, hr1, hr2, hmk, hF, hbr⟩ := hT.out
      obtain ⟨-, -, -, -, hx, hnp⟩ := H.out
      obtain ⟨g, o, rfl, hg, hxc⟩ := hx.resolve_left (by omega)
      have hkx : k < picks.length := by omega
      have d0 : wr.cell? ⟨g, o + k, none⟩ = some (.int .i64 picks[k]) := hF.cell ((hxc k (by rw [List.length_map]; exact hkx)).trans (by simp [iv])) id
      have hFa : Frm (fun _ => False) wr (wr.alloc (.cells #[.pointer (some ⟨b, 0, none⟩)] 59)) := (Frm.refl _ wr).alloc _
      have hc := collr_any wr.heap.size b nt _ (World.cell?_alloc_new wr #[.pointer (some ⟨b, 0, none⟩)] 59 0) ((hwa.kept hFa).rd.mono fun q hq => hq.2.1)
      have hdr : picks.drop k = picks[k] :: picks.drop (k + 1) := List.drop_eq_getElem_cons hkx
      have HS := Lib.hid (And.intro hwa (And.intro hr1 (And.intro hr2 (And.intro hmk (And.intro hF (And.intro hbr (And.intro hFa (And.intro hc hdr))))))))
      clear hwa hr1 hr2 hmk hF hbr hx hnp hg hxc hFa hc hdr hT
      generalize hpk : picks[k] = pk at *
      clear hpk hkx
      go_wp2_with fail
      refine (readyf_any _ _).mono ?_
      rintro e w2 ⟨rfl, rfl⟩
      go_wp2_with fail
      refine HS.out.2.2.2.2.2.2.2.1.mono ?_
      rintro e w3 ⟨v, rfl, hown, hnil, hB⟩
      obtain ⟨Al, cl, rfl, -, -⟩ := own_form hown
      have H3 := Lib.hid (And.intro hown (HS.out.2.2.2.2.2.2.1.trans (Frm.of_below hB) fun _ h => h.elim))
      clear hown hnil hB
      by_cases hrd : readyNt nt = []
      · have hL : (rdAll nt).length = 0 := by unfold rdAll; rw [hrd]; rfl
        have hend := runNt_end (picks.drop k) hrd
        have Hend := Lib.hid hend
        clear hend hrd
        rw [hL]
        have HL := Lib.hid hL
        clear hL d0
        obtain ⟨A1', n1', c1', A', n', c', hb4, hn4⟩ := (HS.out.1.kept H3.out.2).nv
        have hr4 := HS.out.2.2.2.2.2.1.kept H3.out.2 id
        have y1 : w3.cell? ⟨b, 0, none⟩ = some (.slice A1' n1' c1') := hb4.cell 0
        have y2 : w3.cell? ⟨b, 1, none⟩ = some (.slice A' n' c') := hb4.cell 1
        have y3 : w3.cell? ⟨G + 1, 0, none⟩ = some (.slice none 0 0) := hr4.cell 0
        have y4 : w3.cell? ⟨G + 1, 1, none⟩ = some (.slice none 0 0) := hr4.cell 1
        have f3 := hr4.frozen 0
        have f4 := hr4.frozen 1
        have htn := told_at (w := w) (by have := H.out.2.2.2.1; omega) H.out.2.2.1.lt hn4 hr4 (HS.out.2.2.2.2.1.trans H3.out.2 fun _ h => h.elim)
        have HT := Lib.hid htn
        clear htn hr4 hb4 hn4
        go_wp2_with fail
        refine bodyPost_ret (run_res _ _ (G + 1) _ _ m rfl rfl HT.out.1) rfl ?_
        refine ⟨_, by rw [HS.out.2.2.1, Hend.out]; rfl, ?_, HT.out.2.2⟩
        rw [HS.out.2.1, Hend.out]
        exact HT.out.2.1
      · have hL : (rdAll nt).length = (readyNt nt).length := by unfold rdAll; simp
        have hLp : 0 < (readyNt nt).length := List.length_pos_iff.2 hrd
        have hL8 := rdAll_le nt
        obtain ⟨i1, i2, i3⟩ := pick_at pk hrd
        obtain ⟨j1, j2, j3⟩ := pick_num pk (readyNt nt).length hLp
        have hrs := runNt_step (p := pk) (ps := picks.drop (k + 1)) hrd
        obtain ⟨gl, hgl, hcl⟩ := own_at H3.out.1 (pk % ((readyNt nt).length : Int)).toNat (by rw [List.length_map, hL]; exact i1)
        subst hgl
        have hcv : ((rdAll nt).map iv)[(pk % ((readyNt nt).length : Int)).toNat]? = some (.int .i64 (pickAt (readyNt nt) pk)) := by
          unfold rdAll
          rw [List.getElem?_map, List.getElem?_map, i2]
          rfl
        rw [(List.getElem_eq_iff _).2 hcv] at hcl
        have hnn := Int.emod_nonneg pk (show ((readyNt nt).length : Int) ≠ 0 by omega)
        have hll := Int.emod_lt_of_pos pk (show (0 : Int) < ((readyNt nt).length : Int) by omega)
        have hstp := fun W h => step_w W0.heap.size b nt (pickAt (readyNt nt) pk) W h i3
        rw [hL] at H3 hL8 ⊢
        have HP := Lib.hid (And.intro hrs (And.intro hstp i1))
        clear hrs hstp hcv i1 i2 i3 hrd hL d0
        generalize pickAt (readyNt nt) pk = K at *
        generalize (readyNt nt).length = L at *
        go_wp2_with fail
        refine (HP.out.2.1 w3 (HS.out.1.kept H3.out.2)).mono ?_
        rintro e w4 ⟨⟨v, rfl⟩, hwa4, hF4⟩
        have hr4 := (HS.out.2.2.2.2.2.1.kept H3.out.2 id).kept hF4 (netk_ne (HS.out.2.2.2.2.2.1.kept H3.out.2 id) (by decide) (by decide))
        have H4 := Lib.hid (And.intro hwa4 (And.intro hF4 hr4))
        have hmk := HS.out.2.2.2.1
        clear hwa4 hF4 hr4 hcl j1 j2 j3 hnn hll
        go_wp2_with fail
        go_roundw
        case rel =>
          obtain ⟨-, hr1, hr2, -, hF, -, -, -, hdr⟩ := HS.out
          rw [hdr, HP.out.1] at hr1 hr2
          refine ⟨k + 1, m + 1, by omega, by omega, by go_num, by go_num, Lib.hid ⟨_, H4.out.1, hr1, ?_, by omega, (hF.trans H3.out.2 fun _ h => h.elim).trans H4.out.2.1 fun q hq => .inr (Nat.le_trans H.out.2.1.size hq.1), H4.out.2.2⟩⟩
          rw [hr2]
          dsimp only
          omega
        case measure => simp [intOf]; omega
    · obtain rfl : k = np := by omega
      obtain ⟨nt, hwa, hr1, hr2, hmk, hF, hr4⟩ := hT.out
      rw [List.drop_eq_nil_of_le (by have := H.out.2.2.2.2.2; omega)] at hr1 hr2
      have HE := Lib.hid (And.intro hr1 hr2)
      obtain ⟨A1', n1', c1', A', n', c', hb4, hn4⟩ := hwa.nv
      have y1 : wr.cell? ⟨b, 0, none⟩ = some (.slice A1' n1' c1') := hb4.cell 0
      have y2 : wr.cell? ⟨b, 1, none⟩ = some (.slice A' n' c') := hb4.cell 1
      have y3 : wr.cell? ⟨G + 1, 0, none⟩ = some (.slice none 0 0) := hr4.cell 0
      have y4 : wr.cell? ⟨G + 1, 1, none⟩ = some (.slice none 0 0) := hr4.cell 1
      have f3 := hr4.frozen 0
      have f4 := hr4.frozen 1
      have htn := told_at (w := w) (by have := H.out.2.2.2.1; omega) H.out.2.2.1.lt hn4 hr4 hF
      have HT := Lib.hid htn
      clear htn hr4 hb4 hn4 hwa hr1 hr2 hmk hF hT
      go_wp2_with fail
      refine bodyPost_ret (run_res _ _ (G + 1) _ _ m rfl rfl HT.out.1) rfl ?_
      refine ⟨_, by rw [HE.out.2]; rfl, ?_, HT.out.2.2⟩
      rw [HE.out.1]
      exact HT.out.2.1
end Go.Proofs.Ytnibllkcacalhaa
namespace Go.Proofs.Ytnibllkcacalhaa
set_option maxRecDepth 100000
open Go.RowKit Go.Shelf
theorem fin_res (tmps : Array Value) (w : World) (g : Nat) (vp vc : Value) (x y : Value) (hp : tmps.getD 2 undef = .pointer (some ⟨g, 0, none⟩)) (hq : tmps.getD 3 undef = x) (hr : tmps.getD 4 undef = y)
    (hg : w.heap[g]? = some (.cells #[vp, vc] 25 (0, 0))) : (results Try.f14 tmps).run Try.prog w = .ok (.tuple #[.agg #[vp, vc], x, y]) w := by
  have hp' : tmps[2]?.getD undef = .pointer (some ⟨g, 0, none⟩) := by simpa using hp
  have hq' : tmps[3]?.getD undef = x := by simpa using hq
  have hr' : tmps[4]?.getD undef = y := by simpa using hr
  have c0 : w.cell? ⟨g, 0, none⟩ = some vp := cell_of_row w g 0 _ _ _ hg
  have c1 : w.cell? ⟨g, 1, none⟩ = some vc := cell_of_row w g 1 _ _ _ hg
  simp [results, Try.results14, go_sem, hp', hq', hr', asAddr, c0, c1]
/-- What Finish tells. -/
def finR (N : Nt) : Nt × Nat × Int := if rightNt N then ((finN N).1, (finN N).2, 0) else (N, 0, 2)
def FinR (r : Nt × Nat × Int) (w : World) (e : Ending) (w' : World) : Prop := ∃ V, e = .returned (.tuple #[V, .int .i64 r.2.1, .int .i64 r.2.2]) ∧ NV w' (CellsFrom w' w.heap.size) V r.1 ∧ Frm (fun _ => False) w w'
def FinI (w W0 : World) (b G : Nat) (N : Nt) (m : Nat) (wr : World) : Prop :=
  ∃ n, WAt wr W0.heap.size b n ∧ (finN N).1 = (finN n).1 ∧ (finN N).2 = m + (finN n).2 ∧ m + leftNt n ≤ leftNt N ∧ Frm (fun _ => False) w wr ∧ Blk wr (G + 1) 25 #[.slice none 0 0, .slice none 0 0]
set_option maxHeartbeats 3200000 in
theorem finish_n (V : Value) (N : Nt) (w : World) (h : NR w V N) (hsm : SmN N) (hlt : leftNt N ≤ 1000000) : Calls Try.prog 14 #[V] w (FinR (finR N) w) := by
  obtain ⟨A1, n1, c1, A, n, c, rfl⟩ := h.form
  obtain ⟨W0, hW0⟩ : ∃ W, W = (w.alloc (.cells #[.slice A1 n1 c1, .slice A n c] 25)).alloc (.cells #[.slice none 0 0, .slice none 0 0] 25) := ⟨_, rfl⟩
  obtain ⟨G, hG⟩ : ∃ G, G = w.heap.size := ⟨_, rfl⟩
  have hF0 : Frm (fun _ => False) w W0 := by rw [hW0]; exact ((Frm.refl _ w).alloc _).alloc _
  have hb0 : Blk W0 G 25 #[.slice A1 n1 c1, .slice A n c] := by rw [hW0, hG]; exact (Blk.new w _ _).alloc _
  have hb1 : Blk W0 (G + 1) 25 #[.slice none 0 0, .slice none 0 0] := by
    rw [hW0, hG]
    have := Blk.new (w.alloc (.cells #[.slice A1 n1 c1, .slice A n c] 25)) 25 #[.slice none 0 0, .slice none 0 0]
    rwa [World.size_alloc] at this
  have x0 : W0.cell? ⟨G, 0, none⟩ = some (.slice A1 n1 c1) := hb0.cell 0
  have x1 : W0.cell? ⟨G, 1, none⟩ = some (.slice A n c) := hb0.cell 1
  have hown := own_n _ N W0 (h.kept hF0) hsm
  have H := Lib.hid (And.intro hown (And.intro hF0 (And.intro hb1 hG)))
  have HLt := Lib.hid hlt
  obtain ⟨T, hT⟩ : ∃ T, T = leftNt N := ⟨_, rfl⟩
  have hT6 : T ≤ 1000000 := by omega
  have HTt := Lib.hid hT
  clear h hsm hF0 hb0 hb1 hown hlt hT
  go_enter Try.func14, Try.ntmps14
  go_upto_region 1 with fail
  rw [← hG, ← hW0]
  clear hG hW0
  go_wp2_with fail
  refine H.out.1.mono ?_
  rintro e w1 ⟨b, rfl, hwa, hF1⟩
  have hrt := rightw_rd b N w1 (hwa.rd.mono fun q hq => hq.2.1)
  have H1 := Lib.hid (And.intro hwa (And.intro hF1 hrt))
  clear hwa hF1 x0 x1 hrt
  go_wp2_with fail
  refine H1.out.2.2.mono ?_
  rintro e w2 ⟨rfl, hF2⟩
  have hF02 := (H.out.2.1.trans H1.out.2.1 fun _ h => h.elim).trans hF2 fun _ h => h.elim
  have hr4 := (H.out.2.2.1.kept H1.out.2.1 id).kept hF2 id
  have H2 := Lib.hid (And.intro (H1.out.1.kept hF2) (And.intro hF02 hr4))
  clear hF2 hF02 hr4
  cases hr : rightNt N with
  | false =>
    obtain ⟨A1', n1', c1', A', n', c', hb4, hn4⟩ := H2.out.1.nv
    have hr4 := H2.out.2.2
    have y1 : w2.cell? ⟨b, 0, none⟩ = some (.slice A1' n1' c1') := hb4.cell 0
    have y2 : w2.cell? ⟨b, 1, none⟩ = some (.slice A' n' c') := hb4.cell 1
    have y3 : w2.cell? ⟨G + 1, 0, none⟩ = some (.slice none 0 0) := hr4.cell 0
    have y4 : w2.cell? ⟨G + 1, 1, none⟩ = some (.slice none 0 0) := hr4.cell 1
    have f3 := hr4.frozen 0
    have f4 := hr4.frozen 1
    have htn := told_at (w := w) (by have := H.out.2.2.2; omega) H.out.2.2.1.lt hn4 hr4 H2.out.2.1
    have HT := Lib.hid htn
    have HR := Lib.hid hr
    clear htn hr4 hb4 hn4 hr
    go_wp2_with fail
    refine bodyPost_ret (fin_res _ _ (G + 1) _ _ _ _ rfl rfl rfl HT.out.1) rfl ?_
    unfold finR
    rw [if_neg (by rw [HR.out]; simp)]
    exact ⟨_, rfl, HT.out.2.1, HT.out.2.2⟩
  | true =>
    have HR := Lib.hid hr
    clear hr
    go_wp2_with fail
    go_loopw [6] (fun s wr => ∃ m : Nat, m ≤ T ∧ s = .int .i64 m ∧ Hid (FinI w W0 b G N m wr)) (fun s _ => T - (intOf s).toNat)
    case atStart => exact ⟨0, by omega, rfl, Lib.hid ⟨N, H2.out.1, by simp, by simp, by omega, H2.out.2.1, H2.out.2.2⟩⟩
    case round =>
      obtain ⟨m, hm, rfl, hT⟩ := hrel
      obtain ⟨nt, hwa, hr1, hr2, hmk, hF, hbr⟩ := hT.out
      have hFa : Frm (fun _ => False) wr (wr.alloc (.cells #[.pointer (some ⟨b, 0, none⟩)] 59)) := (Frm.refl _ wr).alloc _
      have hc := collr_any wr.heap.size b nt _ (World.cell?_alloc_new wr #[.pointer (some ⟨b, 0, none⟩)] 59 0) ((hwa.kept hFa).rd.mono fun q hq => hq.2.1)
      have HS := Lib.hid (And.intro hwa (And.intro hr1 (And.intro hr2 (And.intro hmk (And.intro hF (And.intro hbr (And.intro hFa hc)))))))
      clear hwa hr1 hr2 hmk hF hbr hFa hc hT
      go_wp2_with fail
      refine (readyf_any _ _).mono ?_
      rintro e w2' ⟨rfl, rfl⟩
      go_wp2_with fail
      refine HS.out.2.2.2.2.2.2.2.mono ?_
      rintro e w3 ⟨v, rfl, hown, hnil, hB⟩
      obtain ⟨Al, cl, rfl, -, -⟩ := own_form hown
      have H3 := Lib.hid (And.intro hown (HS.out.2.2.2.2.2.2.1.trans (Frm.of_below hB) fun _ h => h.elim))
      clear hown hnil hB
      cases hrd : readyNt nt with
      | nil =>
        have hL : (rdAll nt).length = 0 := by unfold rdAll; rw [hrd]; rfl
        have Hend := Lib.hid (fin_end hrd)
        clear hrd
        rw [hL]
        have HL := Lib.hid hL
        clear hL
        obtain ⟨A1', n1', c1', A', n', c', hb4, hn4⟩ := (HS.out.1.kept H3.out.2).nv
        have hr4 := HS.out.2.2.2.2.2.1.kept H3.out.2 id
        have y1 : w3.cell? ⟨b, 0, none⟩ = some (.slice A1' n1' c1') := hb4.cell 0
        have y2 : w3.cell? ⟨b, 1, none⟩ = some (.slice A' n' c') := hb4.cell 1
        have y3 : w3.cell? ⟨G + 1, 0, none⟩ = some (.slice none 0 0) := hr4.cell 0
        have y4 : w3.cell? ⟨G + 1, 1, none⟩ = some (.slice none 0 0) := hr4.cell 1
        have f3 := hr4.frozen 0
        have f4 := hr4.frozen 1
        have htn := told_at (w := w) (by have := H.out.2.2.2; omega) H.out.2.2.1.lt hn4 hr4 (HS.out.2.2.2.2.1.trans H3.out.2 fun _ h => h.elim)
        have HT := Lib.hid htn
        clear htn hr4 hb4 hn4
        go_wp2_with fail
        refine bodyPost_ret (fin_res _ _ (G + 1) _ _ _ _ rfl rfl rfl HT.out.1) rfl ?_
        unfold finR
        rw [if_pos HR.out]
        refine ⟨_, by dsimp only; rw [HS.out.2.2.1, Hend.out]; rfl, ?_, HT.out.2.2⟩
        dsimp only
        rw [HS.out.2.1, Hend.out]
        exact HT.out.2.1
      | cons K Ks =>
        have hKm : K ∈ readyNt nt := by rw [hrd]; simp
        have hL : (rdAll nt).length = Ks.length + 1 := by unfold rdAll; rw [hrd]; simp
        have hL8 := rdAll_le nt
        obtain ⟨gl, hgl, hcl⟩ := own_at H3.out.1 0 (by rw [List.length_map, hL]; omega)
        subst hgl
        have hcv : ((rdAll nt).map iv)[0]? = some (.int .i64 K) := by unfold rdAll; rw [hrd]; rfl
        rw [(List.getElem_eq_iff _).2 hcv] at hcl
        have hstp := fun W h => step_w W0.heap.size b nt K W h hKm
        have hlf := step_left hKm
        have HP := Lib.hid (And.intro (fin_head hrd) (And.intro hstp hlf))
        rw [hL] at hL8 ⊢
        clear hstp hcv hrd hKm hlf hL
        generalize Ks.length = L at *
        have hz : (((L : Nat) : Int) + 1 == 0) = false := by rw [beq_eq_false_iff_ne]; omega
        go_wp2_with fail
        refine (HP.out.2.1 w3 (HS.out.1.kept H3.out.2)).mono ?_
        rintro e w4 ⟨⟨v, rfl⟩, hwa4, hF4⟩
        have hr4 := (HS.out.2.2.2.2.2.1.kept H3.out.2 id).kept hF4 (netk_ne (HS.out.2.2.2.2.2.1.kept H3.out.2 id) (by decide) (by decide))
        have H4 := Lib.hid (And.intro hwa4 (And.intro hF4 hr4))
        have hmT : m + 1 ≤ T := by have := HS.out.2.2.2.1; have := HP.out.2.2; have := HTt.out; omega
        clear hwa4 hF4 hr4 hcl hz
        go_wp2_with fail
        go_roundw
        case rel =>
          obtain ⟨-, hr1, hr2, hmk, hF, -, -, -⟩ := HS.out
          rw [HP.out.1] at hr1 hr2
          refine ⟨m + 1, hmT, by go_num, Lib.hid ⟨_, H4.out.1, hr1, ?_, by have := HP.out.2.2; omega, (hF.trans H3.out.2 fun _ h => h.elim).trans H4.out.2.1 fun q hq => .inr (Nat.le_trans H.out.2.1.size hq.1), H4.out.2.2⟩⟩
          rw [hr2]
          dsimp only
          omega
        case measure => simp [intOf]; omega
end Go.Proofs.Ytnibllkcacalhaa
namespace Go.Proofs.Ytnibllkcacalhaa
set_option maxRecDepth 100000
open Go.RowKit
theorem rright_v (V : Value) (N : Nt) (w : World) (h : NR w V N) (hsm : N.ps.length ≤ 1000) : Calls Try.prog 18 #[V] w (RetBool (rightNt N) w) := by
  obtain ⟨A1, n1, c1, A, n, c, rfl, ps, cks, h1, h2, h3, h4⟩ := h
  obtain ⟨N1, N2⟩ := N
  dsimp only at h3 h4 hsm
  subst h3 h4
  exact rright_n A1 n1 c1 A n c ps cks w h1 h2 (by have := h1.cells.1; simp at hsm; omega)
def cnt (N : Nt) (p : Int) (ins : Bool) (k : Nat) : Nat := ((N.cs.take k).filter (touchB p ins)).length
theorem cnt_le (N : Nt) (p : Int) (ins : Bool) (k : Nat) : cnt N p ins k ≤ k := by
  unfold cnt
  exact Nat.le_trans (List.length_filter_le _ _) (List.length_take_le _ _)
set_option maxRecDepth 100000 in
set_option maxHeartbeats 6400000 in
theorem rclean_v (V : Value) (N : Nt) (w : World) (h : NR w V N) (hsm : N.ps.length ≤ 1000) : Calls Try.prog 27 #[V] w (RetBool (cleanNt N) w) := by
  obtain ⟨A1, n1, c1, A, n, c, rfl⟩ := h.form
  obtain ⟨W, hW⟩ : ∃ W, W = w.alloc (.cells #[.slice A1 n1 c1, .slice A n c] 25) := ⟨_, rfl⟩
  obtain ⟨G, hG⟩ : ∃ G, G = w.heap.size := ⟨_, rfl⟩
  have hF : Frm (fun _ => False) w W := by rw [hW]; exact (Frm.refl _ w).alloc _
  have hb : Blk W G 25 #[.slice A1 n1 c1, .slice A n c] := by rw [hW, hG]; exact Blk.new w _ _
  have hrt := fun (W' : World) (hW' : Frm (fun _ => False) w W') => rright_v _ N W' (h.kept hW') hsm
  obtain ⟨_, _, _, _, _, _, e, ps, cks, h1, h2, h3, h4⟩ := h
  cases e
  have hp1 := h1.cells.1
  obtain ⟨hn, hnc, hcm, hx⟩ := h2.cells
  have hnm : n ≤ 9223372036854775807 := by omega
  have hN1 : n1 = N.ps.length := by rw [← h3, List.length_map]; exact hp1
  have hn1 : n1 ≤ 1000 := by omega
  have H := Lib.hid (And.intro hF (And.intro hb (And.intro hrt (And.intro hn (And.intro hx (And.intro h2.2 (And.intro hN1 h4)))))))
  clear h1 h2 h3 h4 hp1 hn hx hN1 hF hb hrt hnc hcm hsm
  go_enter Try.func27, Try.ntmps27
  go_upto_region 1 with fail
  rw [← hG, ← hW]
  clear hG hW
  go_wp2_with fail
  go_loopw [3] (fun i wr => ∃ k : Nat, k ≤ n1 ∧ i = .int .i64 k ∧ Hid ((∀ j, j < k → okP N j = true) ∧ Frm (fun _ => False) W wr)) (fun i _ => n1 - (intOf i).toNat)
  case atStart => exact ⟨0, Nat.zero_le _, rfl, Lib.hid ⟨fun j h => by omega, Frm.refl _ _⟩⟩
  case round =>
    obtain ⟨k, hk, rfl, hT⟩ := hrel
    have hbw := H.out.2.1.kept hT.out.2 id
    have x0 : wr.cell? ⟨G, 0, none⟩ = some (.slice A1 n1 c1) := hbw.cell 0
    have x1 : wr.cell? ⟨G, 1, none⟩ = some (.slice A n c) := hbw.cell 1
    clear hbw
    by_cases hlt : k < n1
    · have hlk : (k : Int) < (n1 : Int) := by omega
      go_wp2_with fail
      refine (H.out.2.2.1 wr (H.out.1.trans hT.out.2 fun _ h => h.elim)).mono ?_
      rintro e w2 ⟨rfl, hF2⟩
      have hb2 := H.out.2.1.kept (hT.out.2.trans hF2 fun _ h => h.elim) id
      have HF2 := Lib.hid (And.intro (hT.out.2.trans hF2 fun _ h => h.elim) hT.out.1)
      clear hF2 hT x0 x1
      have x0 : w2.cell? ⟨G, 0, none⟩ = some (.slice A1 n1 c1) := hb2.cell 0
      have x1 : w2.cell? ⟨G, 1, none⟩ = some (.slice A n c) := hb2.cell 1
      clear hb2
      cases hr : rightNt N with
      | false =>
        have HR : Hid (cleanNt N = false) := Lib.hid (by unfold cleanNt; rw [hr]; rfl)
        have Hr := Lib.hid hr
        clear hr
        go_wp2_with fail
        refine (H.out.2.2.1 w2 (H.out.1.trans HF2.out.1 fun _ h => h.elim)).mono ?_
        rintro e w3 ⟨rfl, hF3⟩
        have HF3 := Lib.hid ((H.out.1.trans HF2.out.1 fun _ h => h.elim).trans hF3 fun _ h => h.elim)
        clear hF3
        go_wp2_with fail
        go_ret
        exact ⟨by rw [HR.out, Hr.out]; rfl, HF3.out⟩
      | true =>
        have Hr := Lib.hid hr
        clear hr
        go_wp2_with fail
        go_loopw [4, 5, 6] (fun a b i wr => ∃ j : Nat, j ≤ n ∧ i = .int .i64 j ∧ a = .int .i64 (cnt N k true j) ∧ b = .int .i64 (cnt N k false j) ∧ Hid (Frm (fun _ => False) W wr)) (fun _ _ i _ => n - (intOf i).toNat)
        case atStart => exact ⟨0, Nat.zero_le _, rfl, rfl, rfl, Lib.hid HF2.out.1⟩
        case round =>
          obtain ⟨j, hj, rfl, rfl, rfl, hT⟩ := hrel
          have hbw := H.out.2.1.kept hT.out id
          clear x0 x1
          have x0 : wr.cell? ⟨G, 0, none⟩ = some (.slice A1 n1 c1) := hbw.cell 0
          have x1 : wr.cell? ⟨G, 1, none⟩ = some (.slice A n c) := hbw.cell 1
          have b1 := cnt_le N k true j
          have b2 := cnt_le N k false j
          by_cases hlj : j < n
          · obtain ⟨hF, -, -, hn, hx, hrow, -, h4⟩ := H.out
            have hkx : j < cks.length := by omega
            obtain ⟨g, o, rfl, hg, d0, d1, d2, d3⟩ := hx j hkx
            have hFw := hF.trans hT.out fun _ h => h.elim
            have hra := hrow cks[j] (List.getElem_mem hkx)
            obtain ⟨A5, n5, c5, e5, -⟩ := id hra
            rw [e5] at d0 hra
            have hts := map_take_c cks j hkx
            rw [h4] at hts
            have hnm2 := fun (W' : World) (hW' : Frm (fun _ => False) wr W') (ins : Bool) => names_any A5 n5 c5 cks[j].c.at_ cks[j].c.sum cks[j].c.wrong cks[j].c.row k ins W' (hra.keptTo fun q hq => ⟨(hFw.trans hW' fun _ h => h.elim).block q hq id, Nat.lt_of_lt_of_le hq (hFw.trans hW' fun _ h => h.elim).size⟩)
            have hcell := fun (W' : World) (hW' : Frm (fun _ => False) wr W') => And.intro (hW'.cell (hFw.cell d0 id) id) (And.intro (hW'.cell (hFw.cell d1 id) id) (And.intro (hW'.cell (hFw.cell d2 id) id) (And.intro (hW'.cell (hFw.cell d3 id) id) (hW'.cell x1 id))))
            have hcn : ∀ ins, cnt N k ins (j + 1) = cnt N k ins j + if touchB k ins cks[j].c then 1 else 0 := fun ins => by
              unfold cnt
              rw [hts, List.filter_append, List.length_append]
              cases ht : touchB k ins cks[j].c <;> simp [ht]
            have HS := Lib.hid (And.intro hnm2 (And.intro hcell (And.intro hcn hT.out)))
            clear hF hn hx hrow h4 hg hFw hra e5 hts hnm2 hcell hcn hT d0 d1 d2 d3 hbw x0 x1
            generalize cks[j].c = cc at *
            clear hkx
            obtain ⟨es, ca, cs, cr⟩ := cc
            obtain ⟨d0, d1, d2, d3, x1⟩ := HS.out.2.1 wr (Frm.refl _ _)
            dsimp only at d0 d1 d2 d3 HS
            generalize hc1 : cnt N k true j = m1 at *
            generalize hc2 : cnt N k false j = m2 at *
            have HC := Lib.hid (And.intro hc1 hc2)
            clear hc1 hc2
            go_wp2_with fail
            refine (HS.out.1 wr (Frm.refl _ _) true).mono ?_
            rintro e w3 ⟨rfl, hF3⟩
            have HF3 := Lib.hid hF3
            clear hF3 d0 d1 d2 d3 x1
            obtain ⟨d0, d1, d2, d3, x1⟩ := HS.out.2.1 w3 HF3.out
            cases t1 : touchB k true ⟨es, ca, cs, cr⟩
            all_goals
              have Ht1 := Lib.hid t1
              clear t1
              go_wp2_with fail
              refine (HS.out.1 w3 HF3.out false).mono ?_
              rintro e w4 ⟨rfl, hF4⟩
              have HF4 := Lib.hid (HS.out.2.2.2.trans (HF3.out.trans hF4 fun _ h => h.elim) fun _ h => h.elim)
              clear hF4 d0 d1 d2 d3 x1
              cases t2 : touchB k false ⟨es, ca, cs, cr⟩
              all_goals
                have Ht2 := Lib.hid t2
                clear t2
                go_wp2_with fail
                go_roundw
                case rel => exact ⟨j + 1, by omega, by go_num, by rw [HS.out.2.2.1 true, Ht1.out, HC.out.1]; first | rfl | go_num, by rw [HS.out.2.2.1 false, Ht2.out, HC.out.2]; first | rfl | go_num, HF4⟩
                case measure => simp [intOf]; omega
          · obtain rfl : j = n := by omega
            have e1 : ∀ ins, cnt N k ins j = manyNt N k ins := fun ins => by
              unfold cnt manyNt
              obtain ⟨-, -, -, hn, -, -, -, h4⟩ := H.out
              rw [List.take_of_length_le (by rw [← h4, List.length_map]; omega)]
            rw [e1, e1] at *
            have hok : okP N k = (decide (manyNt N k true ≤ 1) && decide (manyNt N k false ≤ 1)) := rfl
            have Hok := Lib.hid (And.intro hok e1)
            clear hok e1 hbw
            generalize manyNt N k true = m1 at *
            generalize manyNt N k false = m2 at *
            by_cases h1 : m1 ≤ 1
            · have g1 : decide ((1 : Int) < m1) = false := by simp; omega
              by_cases h2 : m2 ≤ 1
              · have g2 : decide ((1 : Int) < m2) = false := by simp; omega
                go_wp2_with fail
                go_roundw
                case rel => exact ⟨k + 1, by omega, by go_num, Lib.hid ⟨fun i hi => by
                  rcases Nat.lt_or_ge i k with h | h
                  · exact HF2.out.2 i h
                  · obtain rfl : i = k := by omega
                    rw [Hok.out.1]
                    simp [h1, h2], hT.out⟩⟩
                case measure => simp [intOf]; omega
              · have g2 : decide ((1 : Int) < m2) = true := by simp; omega
                have HN : Hid (cleanNt N = false) := Lib.hid (by
                  unfold cleanNt
                  rw [Hr.out, ← H.out.2.2.2.2.2.2.1]
                  exact range_take_no (okP N) hlt (by rw [Hok.out.1]; simp [h2]))
                go_wp2_with fail
                go_ret
                exact ⟨by rw [HN.out]; rfl, H.out.1.trans hT.out fun _ h => h.elim⟩
            · have g1 : decide ((1 : Int) < m1) = true := by simp; omega
              have HN : Hid (cleanNt N = false) := Lib.hid (by
                unfold cleanNt
                rw [Hr.out, ← H.out.2.2.2.2.2.2.1]
                exact range_take_no (okP N) hlt (by rw [Hok.out.1]; simp [h1]))
              go_wp2_with fail
              go_ret
              exact ⟨by rw [HN.out]; rfl, H.out.1.trans hT.out fun _ h => h.elim⟩
    · obtain rfl : k = n1 := by omega
      go_wp2_with fail
      refine (H.out.2.2.1 wr (H.out.1.trans hT.out.2 fun _ h => h.elim)).mono ?_
      rintro e w2 ⟨rfl, hF2⟩
      have HF2 := Lib.hid ((H.out.1.trans hT.out.2 fun _ h => h.elim).trans hF2 fun _ h => h.elim)
      have hcl : cleanNt N = rightNt N := by
        have h1 : (List.range k).all (okP N) = true := List.all_eq_true.2 fun j hj => hT.out.1 j (List.mem_range.1 hj)
        unfold cleanNt
        rw [← H.out.2.2.2.2.2.2.1]
        show (rightNt N && (List.range k).all (okP N)) = _
        rw [h1, Bool.and_true]
      have HN := Lib.hid hcl
      clear hF2 hcl
      go_wp2_with fail
      go_ret
      exact ⟨by rw [HN.out]; rfl, HF2.out⟩
end Go.Proofs.Ytnibllkcacalhaa
