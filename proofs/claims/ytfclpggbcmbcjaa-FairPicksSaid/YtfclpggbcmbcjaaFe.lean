/- Play. -/
import Derived.Test.YtfclpggbcmbcjaaWt
namespace Go.Proofs.Ytfclpggbcmbcjaa
open Go.RowKit Go.Shelf
theorem LAt.kept {w w' : World} {p p' : Nat} {A : Option Addr} {m c : Nat} {ls : List (Value × List Int)} (h : LAt w p A m c ls) (hf : ∀ q, q < p → w'.heap[q]? = w.heap[q]?) (hp : p ≤ p') : LAt w' p' A m c ls := by
  obtain ⟨h1, h2, h3, h4⟩ := h
  refine ⟨h1, h2, h3, fun i hi => ?_⟩
  obtain ⟨g, o, e, hg, hc, hs, hz⟩ := h4 i hi
  exact ⟨g, o, e, by omega, (World.cell?_of_block (w := w) (hf g hg)).trans hc, hs.keptTo fun q hq => ⟨hf q hq, Nat.lt_of_lt_of_le hq hp⟩, hz⟩
theorem turns_seq (Bl Bw b p : Nat) (kk s z : Int) (A : Option Addr) (m c : Nat) (ls : List (Value × List Int)) (w : World)
    (hBl : w.cell? ⟨Bl, 0, none⟩ = some (.slice A m c)) (hBw : w.cell? ⟨Bw, 0, none⟩ = some (.pointer (some ⟨b, 0, none⟩))) (hP : PlanAt w b 47 kk s z) (hL : LAt w p A m c ls)
    (hlt : Bl < w.heap.size ∧ Bw < w.heap.size ∧ b < w.heap.size ∧ p ≤ b ∧ Bl ≠ b ∧ Bw ≠ b) :
    SeqW Fence.wide 6 Try.prog 18 #[.pointer (some ⟨Bl, 0, none⟩), .pointer (some ⟨Bw, 0, none⟩)] (fun x : Tn => #[tEnc x]) (fun X Y => Frm (fun q => q = b) X Y) (fun X Y => Frm (fun q => w.heap.size ≤ q) X Y) (tGood w.heap.size)
      (fun ys => ys.map tCont = playL kk s z (Lists ls)) m w := fun l J W hW hJ hY h0 =>
  turns1_in 6 (by omega) l Bl Bw b p w.heap.size kk s z A m c ls J hJ hY W (hW.cell hBl id) (hW.cell hBw id) (Blk.kept hP hW id) (hL.kept (fun q hq => hW.block q (by omega) id) (Nat.le_refl _))
    ⟨hlt.1, hlt.2.1, hlt.2.2.1, hlt.2.2.2.1, by omega, hlt.2.2.2.2.1, hlt.2.2.2.2.2, hW.size⟩ h0
def PlayPost (k s z : Int) (L : List (List Int)) (w : World) (e : Ending) (w' : World) : Prop :=
  ∃ v ys, e = .returned v ∧ ys.map tCont = playL k s z L ∧ w'.ownsRow w.heap.size 34 2 v ys.length (WT.cellsOf ys) ∧ (∀ y ∈ ys, tGood w.heap.size y w') ∧ Frm (fun _ => False) w w'
theorem turns_any (b : Nat) (A : Option Addr) (m c : Nat) (w : World) :
    Calls Try.prog 15 #[.pointer (some ⟨b, 0, none⟩), .slice A m c] w fun e w' => e = .returned (.func (.func 18) #[] #[.pointer (some ⟨w.heap.size + 1, 0, none⟩), .pointer (some ⟨w.heap.size, 0, none⟩)]) ∧
      w' = (w.alloc (.cells #[.pointer (some ⟨b, 0, none⟩)] 55)).alloc (.cells #[.slice A m c] 24) := by
  go_enter Try.func15, Try.ntmps15
  go_wp2
  go_ret
  exact ⟨rfl, rfl⟩
set_option maxHeartbeats 800000 in
theorem play_any (k s z : Int) (A : Option Addr) (m c : Nat) (ls : List (Value × List Int)) (w : World) (h : LAt w w.heap.size A m c ls) (hm : m ≤ 1000000) :
    Calls Try.prog 7 #[.agg #[.int .u8 k, .int .u32 s, .int .i64 z], .slice A m c] w (PlayPost k s z (Lists ls) w) := by
  have H := Lib.hid h
  clear h
  go_enter Try.func7, Try.ntmps7
  go_wp2_with fail
  have hF1 : Frm (fun _ => False) w ((w.alloc (.cells #[.int .u8 k, .int .u32 s, .int .i64 z] 31)).alloc (.cells #[.int .u8 k, .int .u32 s, .int .i64 z] 47)) := ((Frm.refl _ w).alloc _).alloc _
  have hP1 : PlanAt ((w.alloc (.cells #[.int .u8 k, .int .u32 s, .int .i64 z] 31)).alloc (.cells #[.int .u8 k, .int .u32 s, .int .i64 z] 47)) (w.heap.size + 1) 47 k s z := by
    have := Blk.new (w.alloc (.cells #[.int .u8 k, .int .u32 s, .int .i64 z] 31)) 47 #[.int .u8 k, .int .u32 s, .int .i64 z]
    rwa [World.size_alloc] at this
  have hs1 : ((w.alloc (.cells #[.int .u8 k, .int .u32 s, .int .i64 z] 31)).alloc (.cells #[.int .u8 k, .int .u32 s, .int .i64 z] 47)).heap.size = w.heap.size + 2 := by simp
  generalize (w.alloc (.cells #[.int .u8 k, .int .u32 s, .int .i64 z] 31)).alloc (.cells #[.int .u8 k, .int .u32 s, .int .i64 z] 47) = w1 at *
  refine (turns_any (w.heap.size + 1) A m c w1).mono ?_
  rintro e w2 ⟨rfl, rfl⟩
  have hF2 : Frm (fun _ => False) w1 ((w1.alloc (.cells #[.pointer (some ⟨w.heap.size + 1, 0, none⟩)] 55)).alloc (.cells #[.slice A m c] 24)) := ((Frm.refl _ w1).alloc _).alloc _
  have hBw := (Blk.new w1 55 #[.pointer (some ⟨w.heap.size + 1, 0, none⟩)]).alloc (.cells #[.slice A m c] 24)
  have hBl := Blk.new (w1.alloc (.cells #[.pointer (some ⟨w.heap.size + 1, 0, none⟩)] 55)) 24 #[.slice A m c]
  rw [World.size_alloc] at hBl
  have hs2 : ((w1.alloc (.cells #[.pointer (some ⟨w.heap.size + 1, 0, none⟩)] 55)).alloc (.cells #[.slice A m c] 24)).heap.size = w1.heap.size + 2 := by simp
  generalize (w1.alloc (.cells #[.pointer (some ⟨w.heap.size + 1, 0, none⟩)] 55)).alloc (.cells #[.slice A m c] 24) = w2 at *
  have hP2 : PlanAt w2 (w.heap.size + 1) 47 k s z := Blk.kept hP1 hF2 id
  have hFF := hF1.trans hF2 fun _ h => h.elim
  have hL2 : LAt w2 w.heap.size A m c ls := H.out.kept (fun q hq => hFF.block q hq id) (Nat.le_refl _)
  have hsq := turns_seq (w1.heap.size + 1) w1.heap.size (w.heap.size + 1) w.heap.size k s z A m c ls w2 (hBl.cell 0) (hBw.cell 0) hP2 hL2 ⟨by omega, by omega, by omega, by omega, by omega, by omega⟩
  have hcol := WT.collect_calls _ _ (enters_of Try.func18 (by kernel_rfl) rfl) (w.heap.size + 1) m hm _ w2 (by omega) hsq
  have HC := Lib.hid (And.intro hcol (And.intro hFF (And.intro hs1 hs2)))
  clear hsq hcol hFF hs1 hs2 hP2 hL2 hBw hBl hF1 hF2 hP1
  go_wp2_with fail
  refine HC.out.1.mono ?_
  rintro e w3 ⟨v, ys, rfl, hS, ho, hg, hF⟩
  have HE := Lib.hid (And.intro hS (And.intro ho (And.intro hg hF)))
  clear hS ho hg hF
  go_wp2_with fail
  go_ret
  obtain ⟨hS, ho, hg, hF⟩ := HE.out
  obtain ⟨_, hFF, hs1, hs2⟩ := HC.out
  exact ⟨v, ys, rfl, hS, World.ownsRow.mono ho (by omega), fun y hy => World.ownsRow.mono (hg y hy) (by omega), hFF.trans hF fun q hq => .inr (by have : q = w.heap.size + 1 := hq; omega)⟩
end Go.Proofs.Ytfclpggbcmbcjaa
