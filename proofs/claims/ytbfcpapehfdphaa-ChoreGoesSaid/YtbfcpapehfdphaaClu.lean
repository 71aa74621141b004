/- The walk of slices.Clone[[]uint32,uint32]. -/
import Derived.Test.YtbfcpapehfdphaaLib
namespace Go.Proofs.Ytbfcpapehfdphaa
open Go.RowKit
theorem infoCu : (Try.prog.info? 23).map (fun i => (i.zero, i.size)) = some (some (.int .u32 0), 1) := by kernel_rfl
theorem bytesCu : (Try.prog.info? 23).map (fun i => i.bytes) = some 4 := by kernel_rfl
theorem infoCu' : ∃ i, Try.prog.info? 23 = some i ∧ i.zero = some (.int .u32 0) ∧ i.size = 1 ∧ i.bytes = 4 := by
  have h := infoCu
  have h' := bytesCu
  cases hh : Try.prog.info? 23 with
  | none => rw [hh] at h; cases h
  | some i => rw [hh] at h h'; simp at h h'; exact ⟨i, rfl, h.1, h.2, h'⟩
set_option maxHeartbeats 1000000 in
theorem clone_u (K : Nat → Prop) (v : Value) (xs : List Value) (n : Nat) (w : World) (h : SlZ w K 1 v xs) (hl : xs.length = n * 1) (hK : ∀ k, K k → k < w.heap.size) (h1 : ∀ u ∈ xs, u.oneCell' = true) (hn : n ≤ 1000000) :
    Calls Try.prog 37 #[v] w fun e w' => ∃ v', e = .returned v' ∧ w'.ownsRow w.heap.size 23 1 v' n xs ∧ Frm (fun _ => False) w w' := by
  obtain ⟨A, n', c, rfl, hn', hc, hcm, hx⟩ := id h
  have hnn : n' = n := by omega
  subst hnn
  obtain ⟨i0, hi, hz0, hz1, hz2⟩ := infoCu'
  cases A with
  | none =>
    have h0 : n' = 0 := hx.elim id fun ⟨_, _, h, _⟩ => by cases h
    have hxs : xs = [] := List.eq_nil_of_length_eq_zero (by simp [hl, h0])
    have he : ∀ w, (binOp .eql 44 (.slice none n' c) (.slice none 0 0)).run Try.prog w = .ok (.bool true) w := fun _ => rfl
    have H := Lib.hid (And.intro h0 hxs)
    clear h hx h0 hxs hl hn'
    go_enter Try.func37, Try.ntmps37
    go_wp2_with fail
    go_ret
    obtain ⟨h0, hxs⟩ := H.out
    subst h0 hxs
    exact ⟨_, rfl, World.ownsRow_nil _ _ _ _, Frm.refl _ _⟩
  | some a =>
    have he : ∀ w, (binOp .eql 44 (.slice (some a) n' c) (.slice none 0 0)).run Try.prog w = .ok (.bool false) w := fun _ => rfl
    have H := Lib.hid (And.intro h (And.intro hK (And.intro h1 hl)))
    clear h hx hl hn' hK h1
    have hfr : ∀ w2, (w.alloc (Obj.cells #[] 23)).grownBy w2 (Value.slice (some ⟨w.heap.size, 0, none⟩) 0 0).ownBlock → Frm (fun _ => False) w w2 := fun w2 hg => ((Frm.refl _ w).alloc _).grown hg (fun k hk => Or.inr (by have h : some w.heap.size = some k := hk; injection h; omega))
    have Hfr := Lib.hid hfr
    clear hfr
    go_enter Try.func37, Try.ntmps37
    go_wp2_with (at_builtin; refine wpList_append_slz (by rfl) _ _ 44 (by rfl) w.heap.size 23 i0 (.int .u32 0) 1 4 Try.underlying44 hi hz0 hz1 hz2 (by rfl) (by decide) _ 0 [] (by rfl) (World.ownsRow_made _ _ _ (Nat.le_refl _) (Nat.zero_le _) rfl) (fun k => k < w.heap.size) _ n' xs (by rfl) (by exact H.out.1.keptTo fun k hk => ⟨Below.heap_alloc _ _ _ (H.out.2.1 k hk), H.out.2.1 k hk⟩) H.out.2.2.2 H.out.2.2.1 (by unfold maxLen; omega) (by omega) (by simp) ?_; intro A2 N2 c2 w2 HN2 hNc2 hc2 hown2 hg2 hat2; have Hg2 := Lib.hid (And.intro hown2 (Hfr.out w2 hg2)); clear hg2 hat2 hown2)
    go_ret
    have hN : N2 = n' := by have := HN2.out; omega
    subst hN
    exact ⟨_, rfl, by simpa using Hg2.out.1, Hg2.out.2⟩
end Go.Proofs.Ytbfcpapehfdphaa
