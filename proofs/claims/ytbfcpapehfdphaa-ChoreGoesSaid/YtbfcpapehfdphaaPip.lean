/- The walk of chore.Pipes. -/
import Derived.Test.YtbfcpapehfdphaaEach
namespace Go.Proofs.Ytbfcpapehfdphaa
open Go.RowKit Go.Shelf
attribute [local go_sem] Oper.semAt_some
def PipesPost (ps : List Pk) (w : World) (e : Ending) (w' : World) : Prop := e = .returned (.bool (pipesB (ps.map (·.p)))) ∧ Frm (fun _ => False) w w'
def pipeH (x : Pk) : Bool := pipeB x.p
/-- The box of the round's pipe. -/
def AxP (w : World) (A : Option Addr) (n c : Nat) (n₀ : Nat) (x : Pk) (a' : Act) (W : World) : Prop := ∃ g, n₀ ≤ g ∧ Blk W g 46 #[.int .i64 x.p.room, x.v, .bool x.p.closed] ∧
  a' = { tmps := #[.slice A n c, undef, .pointer (some ⟨w.heap.size, 0, none⟩), .pointer (some ⟨g, 0, none⟩), .slice A n c, .int .i64 n, .bool false, .slice A n c, .func (.func 38) #[] #[.pointer (some ⟨w.heap.size + 1, 0, none⟩)], pEnc x, undef, undef, undef, undef, undef, undef, undef, undef, undef, undef, undef, undef, undef, undef, undef, undef], defers := [] }
theorem pipes_fin {m D : Nat} {b : Bool} {ps : List Pk} {w W : World} {t : Array Value} (h0 : W.heap[w.heap.size]? = some (.cells #[.bool b] 4 (0, 0))) (hK : W.heap[D]? = some (.deferred (some []))) (hB : Below w.heap.size w W) (hD : w.heap.size + 2 ≤ D)
    (hb : b = pipesB (ps.map (·.p))) (h2 : t.getD 2 undef = .pointer (some ⟨w.heap.size, 0, none⟩)) : bodyPostM Fence.wide m Try.prog Try.f16 (PipesPost ps w) Exit.ret { tmps := t, defers := [{ target := .collected D, args := #[] }] } W := by
  subst hb
  refine ⟨by simp, .inl ⟨_, _, rfl, run_takeDeferred hK, ?_⟩⟩
  have hc0 : (W.putObj D (.deferred none)).cell? ⟨w.heap.size, 0, none⟩ = some (.bool (pipesB (ps.map (·.p)))) := (World.cell?_of_block (w := W) (World.putObj_heap_other (by simp; omega))).trans (cell_of_one h0)
  have hb : Below w.heap.size w (W.putObj D (.deferred none)) := hB.trans (belowK_b (w := w) (Nat.le_refl _) W D _ _ (by omega) hK rfl rfl)
  exact ⟨_, by simp [results, Try.results16, go_sem, -Array.getD_eq_getD_getElem?, h2, hc0], rfl, Frm.of_below hb⟩
theorem pipeH_cases (x : Pk) (n1 : Nat) (h : n1 = x.p.ins.length) : (pipeH x = true ∧ decide (x.p.room < 1) = false ∧ decide (16 < x.p.room) = false ∧ decide (x.p.room < (n1 : Int)) = false) ∨
    (pipeH x = false ∧ (decide (x.p.room < 1) = true ∨ (decide (x.p.room < 1) = false ∧ decide (16 < x.p.room) = true) ∨ (decide (x.p.room < 1) = false ∧ decide (16 < x.p.room) = false ∧ decide (x.p.room < (n1 : Int)) = true))) := by
  subst h
  unfold pipeH pipeB
  simp only [decide_eq_true_eq, decide_eq_false_iff_not, Bool.and_eq_true, Bool.and_eq_false_iff]
  omega
theorem all_snoc {α : Type} (p : α → Bool) (l : List α) (x : α) : (l ++ [x]).all p = (l.all p && p x) := by simp
theorem all_prefix {α : Type} (p : α → Bool) (l m : List α) (h : l <+: m) (hl : l.all p = false) : m.all p = false := by
  obtain ⟨k, rfl⟩ := h
  rw [List.all_append, hl, Bool.false_and]
set_option maxRecDepth 100000 in
set_option maxHeartbeats 2000000 in
theorem pipes_in (A : Option Addr) (n c : Nat) (ps : List Pk) (w : World) (h : PAt w (fun q => q < w.heap.size) (.slice A n c) ps) (hn8 : n ≤ 8) :
    CallsIn Fence.wide 4 Try.prog 16 #[.slice A n c] w (PipesPost ps w) := by
  have hps : n = ps.length := h.cells.1
  have g1 : decide ((8 : Int) < n) = false := by simp; omega
  have H := Lib.hid (And.intro h hps)
  clear h hps
  refine callsIn_of_wp_marks Try.func16 rfl trivial ?_ rfl
  simp only [Try.ntmps16, List.size_toArray, List.length_cons, List.length_nil, Nat.reduceAdd, Nat.reduceSub, Array.replicate_succ, Array.replicate_zero, List.push_toArray, List.append_toArray, List.nil_append, List.cons_append]
  gi_wp2_with fail
  refine ⟨trivial, ?_⟩
  refine (callsIn_wide.2 (each_any A n c _)).mono ?_
  rintro e w' ⟨rfl, rfl⟩
  have hF0 : Frm (fun _ => False) w ((w.alloc (.cells #[.bool false] 4)).alloc (.cells #[.slice A n c] 26)) := ((Frm.refl _ w).alloc _).alloc _
  have hk0 : ((w.alloc (.cells #[.bool false] 4)).alloc (.cells #[.slice A n c] 26)).heap[w.heap.size]? = some (.cells #[.bool false] 4 (0, 0)) := (Blk.new w _ _).alloc _
  have hk1 : ((w.alloc (.cells #[.bool false] 4)).alloc (.cells #[.slice A n c] 26)).cell? ⟨w.heap.size + 1, 0, none⟩ = some (.slice A n c) := by
    have := World.cell?_alloc_new (w.alloc (.cells #[.bool false] 4)) #[.slice A n c] 26 0
    simp at this ⊢
  have hs0 : ((w.alloc (.cells #[.bool false] 4)).alloc (.cells #[.slice A n c] 26)).heap.size = w.heap.size + 2 := by simp
  gi_wp2_with fail
  have H0 := Lib.hid (And.intro hF0 (And.intro hk0 (And.intro hk1 hs0)))
  generalize hW0 : (w.alloc (.cells #[.bool false] 4)).alloc (.cells #[.slice A n c] 26) = W0 at *
  clear hF0 hk0 hk1 hs0 hW0
  refine wpIn_rangeFunc_ownH rfl (by omega) (gf := 38) (lb := #[.pointer (some ⟨w.heap.size + 1, 0, none⟩)]) rfl trivial (enters_of Try.func38 (by kernel_rfl) rfl)
    (each_stops (fun x : { x // x ∈ ps } => x.1) 3 (by omega) (w.heap.size + 1) w.heap.size n c A ps.attach (by omega) W0 (by have := H0.out.2.2.2; omega) H0.out.1.size H0.out.2.2.1 (by rw [List.attach_map_subtype_val]; exact H.out.1.keptTo fun q hq => ⟨H0.out.1.block q hq id, hq⟩)) belowK_t (belowK_b H0.out.1.size) (Below.refl _ _) (fun _ => rfl)
    (fun pre W => (W.heap[w.heap.size]? = some (.cells #[.bool false] 4 (0, 0)) ∧ (pre.map (·.1)).all pipeH = true) ∧ Below w.heap.size w W)
    (fun cc pre W => (cc = .ret ∧ W.heap[w.heap.size]? = some (.cells #[.bool false] 4 (0, 0)) ∧ (pre.map (·.1)).all pipeH = false) ∧ Below w.heap.size w W)
    (OwnFrom.and (Own.from (fun s X Y row hs hg hr => ⟨blk_kept hs.1 hg hr, hs.2⟩) _) (ownFrom_below (Nat.le_refl _) (by have := H0.out.1.size; omega)))
    (fun cc => OwnFrom.and (Own.from (fun s X Y row hs hg hr => ⟨hs.1, blk_kept hs.2.1 hg hr, hs.2.2⟩) _) (ownFrom_below (Nat.le_refl _) (by have := H0.out.1.size; omega)))
    ⟨⟨H0.out.2.1, rfl⟩, H0.out.1.below (Nat.le_refl _) fun _ h => h.elim⟩
    (fun x a' W => AxP w A n c w.heap.size x.1 a' W) (fun x a' => Own.from (fun _ X Y row hs hg hr => by obtain ⟨g, h1, h2, h3⟩ := hs; exact ⟨g, h1, blk_kept h2 hg hr, h3⟩) _) ?assign ?body ?done ?stop
  case assign =>
    rintro l pre x W K ⟨⟨hk, hal⟩, hBW⟩ hK
    obtain ⟨a1, n1, c1, hv, -⟩ := H.out.1.2 x.1 x.2
    have hKK := fun a' (hA : a' = _) => hK a' (W.alloc (.cells #[.int .i64 x.1.p.room, x.1.v, .bool x.1.p.closed] 46)) ((KeepsOthers.alloc W _).from _) ((Below.refl _ W).alloc hBW.size _) ⟨⟨blk_kept hk (World.grownBy_alloc _ _ none) (fun r e => by cases e), hal⟩, hBW.trans ((Below.refl _ W).alloc hBW.size _)⟩ ⟨W.heap.size, hBW.size, Blk.new W _ _, hA⟩
    unfold pEnc at hKK ⊢
    rw [hv] at hKK ⊢
    have HKK := Lib.hid hKK
    clear hKK hK hk hal
    gi_wp2
    exact HKK.out _ rfl
  case body =>
    rintro l pre x a' W hl hrec ⟨⟨hk, hal⟩, hBW⟩ ⟨g, hg, hb, rfl⟩ hlen
    obtain ⟨a1, n1, c1, hv, hn1, -⟩ := H.out.1.2 x.1 x.2
    rw [uv_length] at hn1
    have hpc := pipeH_cases x.1 n1 hn1
    have hal2 : ((pre ++ [x]).map (·.1)).all pipeH = pipeH x.1 := by rw [List.map_append, List.map_singleton, all_snoc, hal, Bool.true_and]
    have c0 := hb.cell 0
    have c1' := hb.cell 1
    rw [hv] at c1'
    have hk0 : W.cell? ⟨w.heap.size, 0, none⟩ = some (.bool false) := cell_of_one hk
    have hf0 := free_of_one hk
    have HB := Lib.hid (And.intro hal2 (And.intro hk hBW))
    simp only [List.getElem?_toArray, List.getElem?_cons_zero, List.getElem?_cons_succ] at c0 c1'
    unfold pEnc
    rw [hv]
    clear hb hal hal2 hk hBW hrec hv hn1
    generalize x.1.p.room = r at *
    rcases hpc with ⟨hp, h1, h2, h3⟩ | ⟨hp, h1 | ⟨h1, h2⟩ | ⟨h1, h2, h3⟩⟩
    · gi_wp2
      exact ⟨KeepsFrom.refl _ _, Below.refl _ _, ⟨HB.out.2.1, by rw [HB.out.1]; exact hp⟩, HB.out.2.2⟩
    all_goals
      gi_wp2
      refine ⟨(KeepsOthers.setCell _ _ _).from _, ⟨rfl, ?_, by rw [HB.out.1]; exact hp⟩, HB.out.2.2.trans ((Below.refl _ W).setCell (p := ⟨w.heap.size, 0, none⟩) (Nat.le_refl _) _)⟩
      rw [one_setCell HB.out.2.1]
  case done =>
    rintro D ys W hD rfl ⟨⟨hk, hal⟩, hBW⟩ hK
    have hc0 := cell_of_one hk
    have hf0 := free_of_one hk
    have hp : pipesB (ps.map (·.p)) = true := by
      rw [List.attach_map_subtype_val] at hal
      unfold pipesB
      rw [List.all_map, List.length_map]
      have : ps.all (pipeB ∘ fun x => x.p) = true := hal
      rw [this]
      simp; have := H.out.2; omega
    have HB := Lib.hid (And.intro hk (And.intro hBW (And.intro hK hp)))
    clear hk hal hBW hK hp
    gi_wp2
    exact pipes_fin (b := true) (by rw [one_setCell HB.out.1]) (by rw [Below.heap_setCell _ _ _ _ (by simp; have := H0.out.2.2.2; omega)]; exact HB.out.2.2.1) (HB.out.2.1.trans ((Below.refl _ W).setCell (p := ⟨w.heap.size, 0, none⟩) (Nat.le_refl _) _)) (by have := H0.out.2.2.2; omega) HB.out.2.2.2.symm rfl
  case stop =>
    rintro D cc pre W hD hpre ⟨⟨rfl, hk, hal⟩, hBW⟩ hK
    have hp : pipesB (ps.map (·.p)) = false := by
      unfold pipesB
      rw [List.all_map]
      have h2 := all_prefix pipeH (pre.map (·.1)) ps (by have := hpre.map (·.1); rwa [List.attach_map_subtype_val] at this) hal
      have : ps.all (pipeB ∘ fun x => x.p) = false := h2
      rw [this, Bool.false_and]
    have HB := Lib.hid (And.intro hk (And.intro hBW (And.intro hK hp)))
    clear hk hal hBW hK hp
    gi_wp2
    exact pipes_fin (b := false) HB.out.1 HB.out.2.2.1 HB.out.2.1 (by have := H0.out.2.2.2; omega) HB.out.2.2.2.symm rfl
set_option maxHeartbeats 800000 in
theorem pipes_any (A : Option Addr) (n c : Nat) (ps : List Pk) (w : World) (h : PAt w (fun q => q < w.heap.size) (.slice A n c) ps) : Calls Try.prog 16 #[.slice A n c] w (PipesPost ps w) := by
  by_cases h8 : n ≤ 8
  · exact callsIn_wide.1 (pipes_in A n c ps w h h8)
  · have hps : n = ps.length := h.cells.1
    have hf : pipesB (ps.map (·.p)) = false := by
      unfold pipesB
      rw [List.length_map, decide_eq_false (by omega), Bool.and_false]
    have g1 : decide ((8 : Int) < n) = true := by simp; omega
    have H := Lib.hid hf
    clear h hps hf h8
    go_enter Try.func16, Try.ntmps16
    go_wp2_with fail
    have hc : (w.alloc (.cells #[.bool false] 4)).cell? ⟨w.heap.size, 0, none⟩ = some (.bool false) := cell_of_one (Blk.new w _ _)
    refine bodyPost_ret (v := .bool false) (by simp [results, Try.results16, go_sem, hc]) rfl ?_
    exact ⟨by rw [H.out], (Frm.refl _ w).alloc _⟩
end Go.Proofs.Ytbfcpapehfdphaa
