/- A queue and the reference's queue, in one walk. -/
import Derived.Test.YtchhfhldpkaadaaWk
import Derived.Test.YtchhfhldpkaadaaRef
import Derived.Test.YtchhfhldpkaadaaDeed
namespace Go.Proofs.Ytchhfhldpkaadaa
open Go.RowKit Go.Shelf
def fitB (m : Nat) (xs : List Int) (cl : Bool) (l : List Int) : Bool := !cl && decide (xs.length + l.length ≤ m)
def newIn (m : Nat) (xs : List Int) (cl : Bool) (l : List Int) : List Int := if fitB m xs cl l then xs ++ l else xs
section
variable {w0 wr w2 : World} {b g m f f' E b' : Nat} {xs xs' ys ys' : List Int} {cl cl' dl dl' : Bool}
theorem QI.W.putAll (h : QI.W w0 b g m f xs cl wr) {K : Nat → Prop} {v : Value} {l : List Int} (hv : Sl wr K v (l.map iv)) (hK : ∀ k, K k → k ≠ b ∧ k ≠ g ∧ k < wr.heap.size) :
    Calls Try.prog 11 #[.pointer (some ⟨b, 0, none⟩), v] wr (QI.P (.bool (fitB m xs cl l)) w0 b g m f (newIn m xs cl l) cl wr) := by
  obtain ⟨A, n, c, rfl, hn, hc, hm, hx⟩ := id hv
  rw [List.length_map] at hn
  unfold newIn
  by_cases hfit : cl = false ∧ xs.length + l.length ≤ m
  · obtain ⟨rfl, h2⟩ := hfit
    have e : fitB m xs false l = true := by simp [fitB, h2]
    rw [e, if_pos rfl]
    exact h.put hv hK h2
  · have e : fitB m xs cl l = false := by
      cases cl
      · simp [fitB]; simp at hfit; omega
      · simp [fitB]
    rw [e, if_neg (by decide)]
    exact h.putNo (by cases cl; right; simp at hfit; omega; left; rfl)
theorem rput_all (h : RefAt wr E b' m ys dl) {K : Nat → Prop} {v : Value} {l : List Int} (hv : Sl wr K v (l.map iv)) (hK : ∀ k, K k → k < wr.heap.size) (hl : l.length ≤ 40) :
    Calls Try.prog 12 #[.pointer (some ⟨b', 0, none⟩), v] wr (RPost E b' m (.bool (fitB m ys dl l)) (newIn m ys dl l) dl wr) := by
  obtain ⟨A, n, c, rfl, hn, hc, hm, hx⟩ := id hv
  rw [List.length_map] at hn
  unfold newIn
  by_cases hfit : dl = false ∧ ys.length + l.length ≤ m
  · obtain ⟨rfl, h2⟩ := hfit
    have e : fitB m ys false l = true := by simp [fitB, h2]
    rw [e, if_pos rfl]
    exact rput_ok K E b' m ys l _ wr h hv hK h2
  · have e : fitB m ys dl l = false := by
      cases dl
      · simp [fitB]; simp at hfit; omega
      · simp [fitB]
    rw [e, if_neg (by decide)]
    exact rput_no E b' m ys dl A n c wr h (by omega) (by cases dl; right; simp at hfit; omega; left; rfl)
/-- A queue and the reference's, apart. -/
def TRel (w0 : World) (m b g b' E f : Nat) (xs : List Int) (cl : Bool) (ys : List Int) (dl : Bool) (wr : World) : Prop :=
  QI.W w0 b g m f xs cl wr ∧ RefAt wr E b' m ys dl ∧ b < E ∧ g < E ∧ b ≠ b' ∧ g ≠ b' ∧ w0.heap.size ≤ b'
theorem TRel.q (h : TRel w0 m b g b' E f xs cl ys dl wr) (hQ : QI.W w0 b g m f' xs' cl' w2) (hF : Frm (fun k => k = b ∨ k = g) wr w2) : TRel w0 m b g b' E f' xs' cl' ys dl w2 := by
  obtain ⟨h1, h2, h3, h4, h5, h6, h7⟩ := h
  exact ⟨hQ, h2.kept hF (by rintro (h | h); exact h5 h.symm; exact h6 h.symm) (fun k hk _ => by rintro (h | h) <;> omega), h3, h4, h5, h6, h7⟩
theorem TRel.r (h : TRel w0 m b g b' E f xs cl ys dl wr) (hR : RefAt w2 E b' m ys' dl') (hF : Frm (fun k => k = b') wr w2) : TRel w0 m b g b' E f xs cl ys' dl' w2 := by
  obtain ⟨h1, h2, h3, h4, h5, h6, h7⟩ := h
  exact ⟨h1.kept hF h5 h6 (fun k hk => by subst hk; exact h7), hR, h3, h4, h5, h6, h7⟩
theorem TRel.same (h : TRel w0 m b g b' E f xs cl ys dl wr) (hF : Frm (fun _ => False) wr w2) : TRel w0 m b g b' E f xs cl ys dl w2 := by
  obtain ⟨h1, h2, h3⟩ := h
  exact ⟨h1.same hF, h2.keptF hF, h3⟩
theorem TRel.frm (h : TRel w0 m b g b' E f xs cl ys dl wr) : Frm (fun _ => False) w0 wr := h.1.2.1
/-- What was there at w0 is apart from both. -/
theorem TRel.old (h : TRel w0 m b g b' E f xs cl ys dl wr) {k : Nat} (hk : k < w0.heap.size) : k ≠ b ∧ k ≠ g ∧ k ≠ b' := by
  obtain ⟨h1, h2, h3, h4, h5, h6, h7⟩ := h
  have := h1.2.2
  omega
end
end Go.Proofs.Ytchhfhldpkaadaa
