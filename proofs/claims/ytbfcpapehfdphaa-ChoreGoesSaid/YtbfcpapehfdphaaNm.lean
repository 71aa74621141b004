/- The walk of named. -/
import Derived.Test.YtbfcpapehfdphaaCan
namespace Go.Proofs.Ytbfcpapehfdphaa
open Go.RowKit
/-- What the next errand names. -/
def namedN (e : Er) : Int := if e.d = 3 ∨ e.d = 5 then -1 else e.q
set_option maxHeartbeats 1600000 in
theorem named_any (A : Option Addr) (n c k : Nat) (s r : Int) (es : List Er) (x : Er) (w : World) (h : RAt w (fun q => q < w.heap.size) (.slice A n c) es) (hx : es[k]? = some x) :
    Calls Try.prog 23 #[.agg #[.slice A n c, .int .i64 k, .int .u32 s, .int .i64 r]] w fun e w' => e = .returned (.int .i64 (namedN x)) ∧ Frm (fun _ => False) w w' := by
  obtain ⟨hes, hnc, hcm, hcs⟩ := h.cells
  obtain ⟨hkx, rfl⟩ := List.getElem?_eq_some_iff.1 hx
  obtain ⟨g, o, rfl, hg, d0, d1, d2⟩ := hcs k hkx
  have hF0 : Frm (fun _ => False) w (w.alloc (.cells #[.slice (some ⟨g, o, none⟩) n c, .int .i64 k, .int .u32 s, .int .i64 r] 25)) := (Frm.refl _ w).alloc _
  have e0 := hF0.cell d0 id
  have e1 := hF0.cell d1 id
  have e2 := hF0.cell d2 id
  have hkn : k < n := by omega
  clear h hes hcs hx d0 d1 d2
  generalize es[k] = y at *
  obtain ⟨d, q, m⟩ := y
  dsimp only at *
  by_cases hd3 : d = 3
  · subst hd3
    go_enter Try.func23, Try.ntmps23
    go_wp2_with fail
    go_ret
    exact ⟨rfl, ((Frm.refl _ w).alloc _).alloc _⟩
  · by_cases hd5 : d = 5
    · subst hd5
      go_enter Try.func23, Try.ntmps23
      go_wp2_with fail
      go_ret
      exact ⟨rfl, ((Frm.refl _ w).alloc _).alloc _⟩
    · have f3 : (d == 3) = false := by simp [hd3]
      have f5 : (d == 5) = false := by simp [hd5]
      have hB : namedN ⟨d, q, m⟩ = q := by unfold namedN; rw [if_neg (by simp [hd3, hd5])]
      rw [hB]
      clear hB
      go_enter Try.func23, Try.ntmps23
      go_wp2_with fail
      go_ret
      exact ⟨rfl, ((Frm.refl _ w).alloc _).alloc _⟩
end Go.Proofs.Ytbfcpapehfdphaa
