/- The walks of teaselref24.names, Clean. -/
import Derived.Test.YtnibllkcacalhaaGF
namespace Go.Proofs.Ytnibllkcacalhaa
set_option maxRecDepth 100000
open Go.RowKit
def nameT (p : Int) (ins : Bool) (e : Er) : Bool := (e.q == p) && (if ins then (e.d == 1 || e.d == 4) else e.d == 2)
theorem any_no {f : Er → Bool} {l : List Er} (h : ∀ j (h : j < l.length), f l[j] = false) : l.any f = false := by
  rw [List.any_eq_false]
  intro y hy
  obtain ⟨j, hj, rfl⟩ := List.getElem_of_mem hy
  simp [h j hj]
set_option maxRecDepth 100000 in
set_option maxHeartbeats 6400000 in
theorem names_any (A : Option Addr) (n c : Nat) (a s r : Int) (es : List Er) (p : Int) (ins : Bool) (w : World) (h : RAt w (fun q => q < w.heap.size) (.slice A n c) es) :
    Calls Try.prog 48 #[.agg #[.slice A n c, .int .i64 a, .int .u32 s, .int .i64 r], .int .i64 p, .bool ins] w (RetBool (touchB p ins ⟨es, a, s, r⟩) w) := by
  obtain ⟨hn, hnc, hcm, hx⟩ := h.cells
  have hnm : n ≤ 9223372036854775807 := by omega
  obtain ⟨W, hW⟩ : ∃ W, W = w.alloc (.cells #[.slice A n c, .int .i64 a, .int .u32 s, .int .i64 r] 46) := ⟨_, rfl⟩
  obtain ⟨G, hG⟩ : ∃ G, G = w.heap.size := ⟨_, rfl⟩
  have hF : Frm (fun _ => False) w W := by rw [hW]; exact (Frm.refl _ w).alloc _
  have hb : Blk W G 46 #[.slice A n c, .int .i64 a, .int .u32 s, .int .i64 r] := by rw [hW, hG]; exact Blk.new w _ _
  obtain ⟨R, hR⟩ : ∃ R, R = touchB p ins ⟨es, a, s, r⟩ := ⟨_, rfl⟩
  rw [← hR]
  have hRe : R = es.any (nameT p ins) := hR
  have H := Lib.hid (And.intro hn (And.intro hx (And.intro hF (And.intro hb hRe))))
  clear h hn hx hF hb hR hRe hnc hcm
  go_enter Try.func48, Try.ntmps48
  go_upto_region 1 with fail
  rw [← hG, ← hW]
  clear hG hW
  go_wp2_with fail
  go_loopw [7] (fun i wr => ∃ k : Nat, k ≤ n ∧ i = .int .i64 k ∧ Hid ((∀ j (h : j < es.length), j < k → nameT p ins es[j] = false) ∧ Frm (fun _ => False) W wr)) (fun i _ => n - (intOf i).toNat)
  case atStart => exact ⟨0, Nat.zero_le _, rfl, Lib.hid ⟨fun j _ h => by omega, Frm.refl _ _⟩⟩
  case round =>
    obtain ⟨k, hk, rfl, hT⟩ := hrel
    have hbw := H.out.2.2.2.1.kept hT.out.2 id
    have x0 : wr.cell? ⟨G, 0, none⟩ = some (.slice A n c) := hbw.cell 0
    by_cases hlt : k < n
    · obtain ⟨hn, hx, hF, -, hR⟩ := H.out
      have hkx : k < es.length := by omega
      obtain ⟨g, o, rfl, hg, d0, d1, d2⟩ := hx k hkx
      have hFw := hF.trans hT.out.2 fun _ h => h.elim
      replace d0 := hFw.cell d0 id
      replace d1 := hFw.cell d1 id
      replace d2 := hFw.cell d2 id
      have hyes : nameT p ins es[k] = true → R = true := fun h => by rw [hR]; exact List.any_eq_true.2 ⟨es[k], List.getElem_mem hkx, h⟩
      have hno : nameT p ins es[k] = false → ∀ j (h : j < es.length), j < k + 1 → nameT p ins es[j] = false := fun hb j h hj => by
        rcases Nat.lt_or_ge j k with h1 | h1
        · exact hT.out.1 j h h1
        · obtain rfl : j = k := by omega
          exact hb
      have HS := Lib.hid (And.intro hyes (And.intro hno hT.out.2))
      clear hn hx hF hR hg hFw hyes hno hT hbw
      generalize es[k] = y at *
      clear hkx
      obtain ⟨d, q, z⟩ := y
      dsimp only at d0 d1 d2
      go_upto_region 5 with fail
      have hFa : Frm (fun _ => False) wr (wr.alloc (.cells #[.int .u8 d, .int .i64 q, .int .u32 z] 49)) := (Frm.refl _ wr).alloc _
      have hba := Blk.new wr 49 #[.int .u8 d, .int .i64 q, .int .u32 z]
      obtain ⟨G5, hG5⟩ : ∃ G, G = wr.heap.size := ⟨_, rfl⟩
      rw [← hG5] at hba ⊢
      generalize wr.alloc (.cells #[.int .u8 d, .int .i64 q, .int .u32 z] 49) = w5 at *
      have y0 : w5.cell? ⟨G5, 0, none⟩ = some (.int .u8 d) := hba.cell 0
      have y1 : w5.cell? ⟨G5, 1, none⟩ = some (.int .i64 q) := hba.cell 1
      have H5 := Lib.hid (HS.out.2.2.trans hFa fun _ h => h.elim)
      clear hFa hba hG5 d0 d1 d2 x0
      have hE : nameT p ins ⟨d, q, z⟩ = ((q == p) && (if ins then (d == 1 || d == 4) else d == 2)) := rfl
      have HE := Lib.hid hE
      clear hE
      cases ins
      all_goals
        cases h1 : (d == 1)
        all_goals
          cases h4 : (d == 4)
          all_goals
            cases h2 : (d == 2)
            all_goals
              cases hq : (q == p)
              all_goals
                have HQ := Lib.hid (And.intro h1 (And.intro h4 (And.intro h2 hq)))
                first
                  | (have Hn : Hid (nameT p _ ⟨d, q, z⟩ = false) := Lib.hid (by rw [HE.out, h1, h4, h2, hq]; rfl)
                     go_wp2_with fail
                     go_roundw
                     case rel => exact ⟨k + 1, by omega, by go_num, Lib.hid ⟨HS.out.2.1 Hn.out, H5.out⟩⟩
                     case measure => simp [intOf]; omega)
                  | (have Hy : Hid (nameT p _ ⟨d, q, z⟩ = true) := Lib.hid (by rw [HE.out, h1, h4, h2, hq]; rfl)
                     have Hr := Lib.hid (HS.out.1 Hy.out)
                     go_wp2_with fail
                     go_ret
                     exact ⟨by rw [Hr.out]; rfl, H.out.2.2.1.trans H5.out fun _ h => h.elim⟩)
    · obtain rfl : k = n := by omega
      have hr : R = false := by
        rw [H.out.2.2.2.2]
        exact any_no fun j hj => hT.out.1 j hj (by have := H.out.1; omega)
      have HR := Lib.hid hr
      clear hr hbw
      go_wp2_with fail
      go_ret
      exact ⟨by rw [HR.out]; rfl, H.out.2.2.1.trans hT.out.2 fun _ h => h.elim⟩
end Go.Proofs.Ytnibllkcacalhaa
