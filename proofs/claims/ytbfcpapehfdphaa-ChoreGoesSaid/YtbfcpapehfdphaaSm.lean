/- Small walks: Over, Great, named, can. -/
import Derived.Test.YtbfcpapehfdphaaEr
namespace Go.Proofs.Ytbfcpapehfdphaa
open Go.RowKit
theorem over_any (A : Option Addr) (n c : Nat) (a s r : Int) (w : World) : Calls Try.prog 18 #[.agg #[.slice A n c, .int .i64 a, .int .u32 s, .int .i64 r]] w fun e w' => e = .returned (.bool (decide (a = (n : Int)))) ∧ Frm (fun _ => False) w w' := by
  have hb : (a == (n : Int)) = decide (a = (n : Int)) := by by_cases h : a = (n : Int) <;> simp [h]
  generalize decide (a = (n : Int)) = b at *
  go_enter Try.func18, Try.ntmps18
  go_wp2_with fail
  go_ret
  exact ⟨rfl, (Frm.refl _ w).alloc _⟩
theorem rover_any (A : Option Addr) (n c : Nat) (a s r : Int) (w : World) : Calls Try.prog 19 #[.agg #[.slice A n c, .int .i64 a, .int .u32 s, .int .i64 r]] w fun e w' => e = .returned (.bool (decide (a = (n : Int)))) ∧ Frm (fun _ => False) w w' := by
  have hb : (a == (n : Int)) = decide (a = (n : Int)) := by by_cases h : a = (n : Int) <;> simp [h]
  generalize decide (a = (n : Int)) = b at *
  go_enter Try.func19, Try.ntmps19
  go_wp2_with fail
  go_ret
  exact ⟨rfl, (Frm.refl _ w).alloc _⟩
def greatB (row : Nat) (ps : List Pk) : Prop := row ≤ 80 ∧ ps.length ≤ 12 ∧ ∀ p ∈ ps, p.p.ins.length ≤ 30
def GreatPost (row : Nat) (ps : List Pk) (w : World) (e : Ending) (w' : World) : Prop := ∃ g : Bool, e = .returned (.bool g) ∧ Frm (fun _ => False) w w' ∧ (g = false → greatB row ps)
set_option maxHeartbeats 1600000 in
theorem great_any (A : Option Addr) (n c : Nat) (a s r : Int) (A1 : Option Addr) (n1 c1 : Nat) (ps : List Pk) (w : World) (h : PAt w (fun q => q < w.heap.size) (.slice A1 n1 c1) ps) :
    Calls Try.prog 6 #[.agg #[.slice A n c, .int .i64 a, .int .u32 s, .int .i64 r], .slice A1 n1 c1] w (GreatPost n ps w) := by
  obtain ⟨hps, hnc, hcm, hcs⟩ := h.cells
  have H := Lib.hid (And.intro hps (And.intro hcs h.2))
  clear h hps hcs
  go_enter Try.func6, Try.ntmps6
  go_wp2_with fail
  have hF0 : Frm (fun _ => False) w (w.alloc (.cells #[.slice A n c, .int .i64 a, .int .u32 s, .int .i64 r] 25)) := (Frm.refl _ w).alloc _
  have hk0 := Blk.new w 25 #[.slice A n c, .int .i64 a, .int .u32 s, .int .i64 r]
  obtain ⟨gc, hgc⟩ : ∃ g, g = w.heap.size := ⟨_, rfl⟩
  rw [← hgc] at hk0 ⊢
  generalize w.alloc (.cells #[.slice A n c, .int .i64 a, .int .u32 s, .int .i64 r] 25) = W0 at *
  have c0 : W0.cell? ⟨gc, 0, none⟩ = some (.slice A n c) := hk0.cell 0
  have H0 := Lib.hid hF0
  clear hF0 hk0 hgc
  go_loopw [5] (fun i wr => ∃ k : Nat, k ≤ n1 ∧ k ≤ 20 ∧ i = .int .i64 k ∧ wr = W0 ∧ ∀ p ∈ ps.take k, p.p.ins.length ≤ 30) (fun i _ => n1 - (intOf i).toNat)
  case atStart => exact ⟨0, Nat.zero_le _, by omega, rfl, rfl, by simp⟩
  case round =>
    obtain ⟨k, hk, hk20, rfl, rfl, hno⟩ := hrel
    have Hno := Lib.hid hno
    clear hno
    by_cases hlt : k < n1
    · by_cases h20 : k < 20
      · obtain ⟨hps, hcs, hsl⟩ := H.out
        have hkx : k < ps.length := by omega
        obtain ⟨g, o, rfl, hg, -, d1, -⟩ := hcs k hkx
        replace d1 := H0.out.cell d1 id
        obtain ⟨a2, n2, c2, hv, hn2, -⟩ := hsl ps[k] (List.getElem_mem hkx)
        rw [uv_length] at hn2
        rw [hv] at d1
        have hts : ps.take (k + 1) = ps.take k ++ [ps[k]] := List.take_succ_eq_append_getElem hkx
        have HS := Lib.hid (And.intro hn2 hts)
        clear hps hcs hsl hv hn2 hts hg
        by_cases h30 : (30 : Int) < n2
        · go_wp2_with fail
          go_ret
          exact ⟨true, rfl, H0.out, fun h => by cases h⟩
        · go_wp2_with fail
          go_roundw
          case rel => exact ⟨k + 1, by omega, by omega, by go_num, trivial, by
            rw [HS.out.2]
            intro p hp
            rcases List.mem_append.1 hp with h | h
            · exact Hno.out p h
            · simp at h; subst h; have := HS.out.1; omega⟩
          case measure => simp [intOf]; omega
      · have g1 : decide ((12 : Int) < n1) = true := by simp; omega
        have g2 : decide ((k : Int) < 20) = false := by simp; omega
        by_cases h80 : (80 : Int) < n
        · go_wp2_with fail
          go_ret
          exact ⟨true, rfl, H0.out, fun h => by cases h⟩
        · go_wp2_with fail
          go_ret
          exact ⟨true, rfl, H0.out, fun h => by cases h⟩
    · obtain rfl : k = n1 := by omega
      by_cases h80 : (80 : Int) < n
      · go_wp2_with fail
        go_ret
        exact ⟨true, rfl, H0.out, fun h => by cases h⟩
      · by_cases h12 : (12 : Int) < k
        · go_wp2_with fail
          go_ret
          exact ⟨true, rfl, H0.out, fun h => by cases h⟩
        · go_wp2_with fail
          go_ret
          have hps := H.out.1
          exact ⟨false, by simp, H0.out, fun _ => ⟨by omega, by omega, fun p hp => Hno.out p (by rw [List.take_of_length_le (by omega)]; exact hp)⟩⟩
end Go.Proofs.Ytbfcpapehfdphaa
