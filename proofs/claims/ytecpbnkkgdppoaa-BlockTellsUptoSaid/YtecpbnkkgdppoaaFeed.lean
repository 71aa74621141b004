/- Feed. -/
import Derived.Test.YtecpbnkkgdppoaaWh
namespace Go.Proofs.Ytecpbnkkgdppoaa
open Go.RowKit Go.Shelf
theorem CSt.kp {w w' : World} {B b S L F n n₀ : Nat} {v : Value} {xs : List UInt8} (h : CSt w B b S L F n v xs) (hF : KpW n₀ 5 w w') (hb : b < n₀) : CSt w' B b S L F n v xs :=
  h.kept hF (fun hk => by omega) fun q hq hk => by
    obtain ⟨cs, hh⟩ := own_blk h.2.1 q hq
    exact hk.2 ⟨_, _, hh⟩
theorem whole_any (p : Option Addr) (A : Option Addr) (m c : Nat) (w : World) :
    Calls Try.prog 36 #[.pointer p, .slice A m c] w fun e w' => e = .returned (.func (.func 41) #[] #[.pointer (some ⟨w.heap.size + 1, 0, none⟩), .pointer (some ⟨w.heap.size, 0, none⟩)]) ∧
      w' = (w.alloc (.cells #[.pointer p] 31)).alloc (.cells #[.slice A m c] 23) := by
  go_enter Try.func36, Try.ntmps36
  go_wp2
  go_ret
  exact ⟨rfl, rfl⟩
def FeedPost (B b S L F : Nat) (t : List UInt8) (v0 : Value) (bs : List Bc) (w : World) (e : Ending) (w' : World) : Prop :=
  ∃ v ys, e = .returned v ∧ ys.map (·.c) = bs ∧ w'.ownsRow w.heap.size 40 4 v ys.length (WB.cellsOf ys) ∧ (∀ y ∈ ys, kGood w.heap.size y w' ∧ ∀ q, y.v.ownBlock = some q → ¬ Row w' b q) ∧ CutFrom w' B b S L F v0 w.heap.size t ∧ Frm (KC b v0) w w'
set_option maxHeartbeats 800000 in
theorem feed_any (B b S L F : Nat) (t0 : List UInt8) (v0 : Value) (A : Option Addr) (m c : Nat) (vs : List Value) (Ls : List (List UInt8)) (Kc : Nat → Prop) (w : World) (hC : Cut S L F) (h : CSt w B b S L F (t0.length / S) v0 (heldN S L t0))
    (hsl : Sl w Kc (.slice A m c) vs) (hE : Each w Kc vs Ls) (hKc : ∀ q, Kc q → q < w.heap.size ∧ ¬ KC b v0 q) (hs : (t0 ++ Ls.flatten).length ≤ 1000000) :
    Calls Try.prog 22 #[.pointer (some ⟨b, 0, none⟩), .slice A m c] w (FeedPost B b S L F (t0 ++ Ls.flatten) v0 (newsN S L F t0 (t0 ++ Ls.flatten)) w) := by
  have c3 := h.cells.2.2.2.1
  have H := Lib.hid (And.intro hC (And.intro h (And.intro hsl (And.intro hE (And.intro hKc hs)))))
  clear hC h hsl hE hKc hs
  go_enter Try.func22, Try.ntmps22
  go_wp2_with fail
  refine (whole_any (some ⟨b, 0, none⟩) A m c w).mono ?_
  rintro e w' ⟨rfl, rfl⟩
  obtain ⟨hC, h, hsl, hE, hKc, hs⟩ := H.out
  have hF3 : Frm (fun _ => False) w ((w.alloc (.cells #[.pointer (some ⟨b, 0, none⟩)] 31)).alloc (.cells #[.slice A m c] 23)) := ((Frm.refl _ w).alloc _).alloc _
  have hbw := (Blk.new w 31 #[.pointer (some ⟨b, 0, none⟩)]).alloc (.cells #[.slice A m c] 23)
  have hbl := Blk.new (w.alloc (.cells #[.pointer (some ⟨b, 0, none⟩)] 31)) 23 #[.slice A m c]
  rw [World.size_alloc] at hbl
  have hs3 : ((w.alloc (.cells #[.pointer (some ⟨b, 0, none⟩)] 31)).alloc (.cells #[.slice A m c] 23)).heap.size = w.heap.size + 2 := by simp
  generalize (w.alloc (.cells #[.pointer (some ⟨b, 0, none⟩)] 31)).alloc (.cells #[.slice A m c] 23) = w3 at *
  have h3 := h.keptF hF3
  have hKw : ∀ q, KC b v0 q → q < w.heap.size := by
    rintro q (rfl | hq)
    · exact h.lt.1
    · exact (h.lt.2 q hq).2.1
  have hWL : ∀ W, Frm (fun _ => False) w3 W → WL W B b w3.heap.size (w.heap.size + 1) w.heap.size S L F m c A v0 t0 vs Ls Kc := fun W hW => by
    have hFW := hF3.trans hW fun _ h => h.elim
    have hk : ∀ q, Kc q → W.heap[q]? = w.heap[q]? := fun q hq => hFW.block q (hKc q hq).1 id
    refine ⟨hC, hW.cell (hbl.cell 0) id, hW.cell (hbw.cell 0) id, hsl.kept hk, hE.kept fun q hq => ⟨hk q hq, hq⟩, fun q hq => ⟨by have := (hKc q hq).1; omega, (hKc q hq).2⟩, ⟨by omega, by omega, by have := h.lt.1; omega, fun hq => by have := hKw _ hq; omega, fun hq => by have := hKw _ hq; omega, by have := h.2.2.2; omega, hW.size⟩, hs⟩
  have hseq : SeqS Fence.wide 6 Try.prog 41 #[.pointer (some ⟨w.heap.size + 1, 0, none⟩), .pointer (some ⟨w.heap.size, 0, none⟩)] (fun x : Bk => #[bEnc x]) (RC b v0 w3.heap.size) (KpW w3.heap.size 5) (wGood b w3.heap.size)
      (fun ys W => ys.map (·.c) = newsN S L F t0 (t0 ++ Ls.flatten) ∧ CutFrom W B b S L F v0 w3.heap.size (t0 ++ Ls.flatten)) (newsN S L F t0 (t0 ++ Ls.flatten)).length w3 := fun l J W hW hJ hY h0 =>
    whole1_in 6 (by omega) l _ _ b w3.heap.size B S L F t0 v0 A m c vs Ls Kc J hJ hY W (hWL W hW) (h3.keptF hW) h0
  have hcol := WB.collect_calls _ _ (enters_of Try.func41 (by kernel_rfl) rfl) (newsN S L F t0 (t0 ++ Ls.flatten)).length (by
      have h1 := Nat.div_le_self (t0 ++ Ls.flatten).length S
      have h2 := Nat.sub_le ((t0 ++ Ls.flatten).length / S) (t0.length / S)
      simp only [newsN, List.length_map, List.length_range']; omega)
    (fun ys W => ys.map (·.c) = newsN S L F t0 (t0 ++ Ls.flatten) ∧ CutFrom W B b S L F v0 w3.heap.size (t0 ++ Ls.flatten)) (wGood b w3.heap.size) (KC b v0) (RC b v0 w3.heap.size) w3 (fun q hq => by have := hKw q hq; omega) (fun X Y h => h.1) (fun x X Y h k => h.step k)
    (fun ys X Y hS hk => ⟨hS.1, by obtain ⟨v, hv, hq⟩ := hS.2; exact ⟨v, hv.kp hk (by have := h.lt.1; omega), hq⟩⟩) (wGood_stays b _) (fun x W h => by obtain ⟨A0, c0, h, -, -⟩ := own_form h.1; exact ⟨_, _, _, h⟩) hseq
  have HC := Lib.hid (And.intro hcol (And.intro hF3 hs3))
  clear hcol hF3 hs3 hseq hWL hKw h3 hbw hbl hC h hsl hE hKc hs c3
  go_wp2_with fail
  refine HC.out.1.mono ?_
  rintro e w4 ⟨v, xs, rfl, hS, ho, hg, hF4⟩
  have HX := Lib.hid (And.intro hS (And.intro ho (And.intro hg hF4)))
  clear hS ho hg hF4
  go_wp2_with fail
  go_ret
  obtain ⟨hS, ho, hg, hF4⟩ := HX.out
  have hz := HC.out.2.2
  exact ⟨v, xs, rfl, hS.1, World.ownsRow.mono ho (by omega), fun y hy => ⟨World.ownsRow.mono (hg y hy).1 (by omega), (hg y hy).2.2.2.2⟩, (by obtain ⟨v, hv, hq⟩ := hS.2; exact ⟨v, hv, fun q h => (hq q h).imp id fun h => by omega⟩), (HC.out.2.1.mono (K' := KC b v0) fun _ h => h.elim).trans hF4 fun q hq => .inl hq⟩
end Go.Proofs.Ytecpbnkkgdppoaa
