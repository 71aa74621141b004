/- The walk of teasellaw17.SourceTells. -/
import Derived.Test.YtddhejgbidmmjaaWf
namespace Go.Proofs.Ytddhejgbidmmjaa
open Go.RowKit Go.Shelf
/-- Between two rounds. -/
def TellsRel (w w1 : World) (K K' : Nat → Prop) (b br : Nat) (brk : Bool) (wr : World) : Prop :=
  ∃ L told, SrcAt wr K b L brk told ∧ RefAt wr w.heap.size K' br L told ∧ Frm (fun _ => False) w wr ∧ w1.heap.size ≤ wr.heap.size
set_option maxRecDepth 100000 in
set_option maxHeartbeats 2000000 in
theorem tells_any (brk : Bool) (v0 v1 : Value) (vs0 : List Value) (qs : List Int) (L : List (List UInt8)) (w : World) (h : Sl w (fun k => k < w.heap.size) v0 vs0) (he : Each w (fun k => k < w.heap.size) vs0 L) (ha : Sl w (fun k => k < w.heap.size) v1 (qs.map (Value.int .i64))) :
    Calls Try.prog 3 #[.bool brk, v0, v1] w fun e w' => e = .returned (.bool true) ∧ Frm (fun _ => False) w w' := by
  obtain ⟨A, n, c, rfl, hn, hc, hm, hx⟩ := ha
  have Ha := Lib.hid (And.intro hn hx)
  clear hn hx
  have hgr := great_any v0 _ _ vs0 L w h he
  have Hs := Lib.hid (And.intro h he)
  clear h he
  go_enter Try.func3, Try.ntmps3
  go_wp2_with fail
  refine hgr.mono ?_
  rintro e w' ⟨gr, rfl, rfl, hg⟩
  clear hgr
  cases gr with
  | true =>
    clear hg
    go_wp2_with fail
    refine (wakes_any w).mono ?_
    rintro e w' ⟨rfl, hF⟩
    go_wp2_with fail
    go_ret
    exact ⟨rfl, hF⟩
  | false =>
    have hg1 := hg rfl
    clear hg
    have Hg := Lib.hid hg1
    clear hg1
    by_cases h60 : (60 : Int) < (n : Int)
    · go_wp2_with fail
      refine (wakes_any w).mono ?_
      rintro e w' ⟨rfl, hF⟩
      go_wp2_with fail
      go_ret
      exact ⟨rfl, hF⟩
    · go_wp2_with fail
      refine (new_any brk v0 vs0 _ _ L w Hs.out.1 Hs.out.2 (fun _ h => h) (fun _ h => h) (by have := Hg.out; omega) (by have := Hg.out; omega)).mono ?_
      rintro e w1 ⟨b, K, rfl, hS, hK, hF⟩
      have Hk := Lib.hid hK
      have HF := Lib.hid hF
      clear hK hF
      go_wp2_with fail
      have hz := HF.out.size
      refine (rnew_any w.heap.size v0 vs0 (fun k => k < w.heap.size) L w1 (Hs.out.1.kept fun k hk => HF.out.block k hk id) (Hs.out.2.kept fun k hk => ⟨HF.out.block k hk id, hk⟩) (fun k hk => Nat.lt_of_lt_of_le hk hz) hz (by have := Hg.out; omega) (by have := Hg.out; omega)).mono ?_
      rintro e w2 ⟨br, K', rfl, hR, hK', hF⟩
      have Hk' := Lib.hid hK'
      have hS2 := hS.kept hF.size (fun k hk => hF.block k (hS.lt k hk) id)
      have hrel0 : TellsRel w w1 K K' b br brk w2 := ⟨L, 0, hS2, hR, HF.out.trans hF (fun _ h => h.elim), hF.size⟩
      have Hk1 := Lib.hid hS.lt
      clear hK' hS hS2 hR hF
      go_wp2_with fail
      go_loopw [9] (fun i wr => ∃ k : Nat, k ≤ n ∧ i = .int .i64 k ∧ TellsRel w w1 K K' b br brk wr) (fun i _ => n - (intOf i).toNat)
      case atStart => exact ⟨0, Nat.zero_le _, rfl, hrel0⟩
      case round =>
        obtain ⟨k, hk, rfl, hrel⟩ := hrel
        by_cases hlt : k < n
        · obtain ⟨g, o, rfl, hg, hcs⟩ := Ha.out.2.resolve_left (by omega)
          obtain ⟨L1, told, hS, hR, hF, hz1⟩ := hrel
          have hka : k < qs.length := by have := Ha.out.1; simp at this; omega
          have hcx : w.cell? ⟨g, o + k, none⟩ = some (.int .i64 qs[k]) := by rw [hcs k (by simpa using hka)]; simp
          clear hcs
          generalize qs[k] = most at *
          have hcx1 : wr.cell? ⟨g, o + k, none⟩ = some (.int .i64 most) := hF.cell hcx id
          have HF1 := Lib.hid hF
          clear hF
          go_wp2_with fail
          refine (next_any K b brk told L1 most wr hS).mono ?_
          rintro e w3 ⟨va, rfl, hva, hS3, hF3⟩
          have hR3 : RefAt w3 w.heap.size K' br L1 told := hR.kept hF3.size fun k hk => hF3.block k (hk.elim (fun h => (hR.lt k h).2) (fun h => Nat.lt_of_lt_of_le h HF1.out.size)) (fun h => by
            have h1 := Hk.out k h; have h2 := Hk1.out k h
            rcases hk with hk | hk
            · have := Hk'.out k hk; omega
            · omega)
          have HF3 : Hid (Frm (fun _ => False) w w3) := HF1.out.trans hF3 (fun k hk => .inr (Hk.out k hk))
          have hz3 := Nat.le_trans hz1 hF3.size
          have hva1 := hva.apart (K2 := K') (fun x hx hk => Nat.not_lt.2 hx (hR.lt x hk).2)
          have Hva := Lib.hid hva1
          have hcx3 : w3.cell? ⟨g, o + k, none⟩ = some (.int .i64 most) := HF3.out.cell hcx id
          clear hF3 hcx1 hS hR hva hva1 HF1 hz1
          go_wp2_with fail
          refine (rnext_any w.heap.size K' br told L1 most w3 hR3).mono ?_
          rintro e w4 ⟨vb, rfl, hvb, hR4, hF4⟩
          have hS4 := hS3.kept hF4.size fun k hk => hF4.block k (hS3.lt k hk) (fun h => by have h1 := Hk1.out k hk; have h2 := Hk'.out k h; omega)
          have HF4 : Hid (Frm (fun _ => False) w w4) := HF3.out.trans hF4 (fun k hk => .inr (hR3.lt k hk).1)
          have hz4 := Nat.le_trans hz3 hF4.size
          have Hva4 := Lib.hid (Hva.out.next hF4)
          have Hvb4 := Lib.hid (hvb.apart (K2 := K') (fun x hx hk => Nat.not_lt.2 hx (hR3.lt x hk).2))
          clear hF4 hS3 hR3 hvb Hva HF3 hz3 hcx3
          go_wp2_with fail
          refine (left_any _ _ _ _ _ w4 hS4).mono ?_
          rintro e w5 ⟨rfl, hF5⟩
          have hS5 := hS4.kept hF5.size fun k hk => hF5.block k (hS4.lt k hk) id
          have hR5 := hR4.kept hF5.size fun k hk => hF5.block k (hk.elim (fun h => (hR4.lt k h).2) (fun h => Nat.lt_of_lt_of_le h HF4.out.size)) id
          have HF5 : Hid (Frm (fun _ => False) w w5) := HF4.out.trans hF5 (fun k hk => hk.elim)
          have hz5 := Nat.le_trans hz4 hF5.size
          have Hva5 := Lib.hid (Hva4.out.next (hF5.mono fun _ h => h.elim))
          have Hvb5 := Lib.hid (Hvb4.out.next (hF5.mono fun _ h => h.elim))
          clear hF5 hS4 hR4 Hva4 Hvb4 HF4 hz4
          go_wp2_with fail
          refine (rleft_any _ _ _ _ _ w5 hR5).mono ?_
          rintro e w6 ⟨rfl, rfl⟩
          obtain ⟨vR, vsR, hbR, hR5'⟩ := id hR5
          clear hR5'
          have hcr : w5.cell? ⟨br, 1, none⟩ = some (.int .i64 ((told + (nextL L1 most).1.length : Nat) : Int)) := hbR.cell 1
          have ea := fun n => run_convN (P := Try.prog) Try.underlying30 Try.underlying5 Try.underlying9 Hva5.out n
          have eb := fun n => run_convN (P := Try.prog) Try.underlying30 Try.underlying5 Try.underlying9 Hvb5.out n
          have HS5 := Lib.hid (And.intro hS5 hR5)
          clear hS5 hR5 hbR
          generalize (nextL L1 most).1 = ra at *
          generalize (nextL L1 most).2.1 = rb at *
          generalize (nextL L1 most).2.2 = L2 at *
          go_wp2_with fail
          go_quiet (first
            | (go_at_call 14; exact quiet_left (told_any K b L2 brk (told + ra.length) _ (HS5.out.1.kept (Nat.le_refl _) fun _ _ => rfl)))
            | (go_at_call 15; exact quiet_left (broken_any K b L2 brk (told + ra.length) _ (HS5.out.1.kept (Nat.le_refl _) fun _ _ => rfl))))
          rename_i nq
          go_wp2_with fail
          go_roundw
          case rel => exact ⟨k + 1, by omega, by go_num, L2, told + ra.length, HS5.out.1.kept (Nat.le_refl _) fun _ _ => rfl, HS5.out.2.kept (Nat.le_refl _) fun _ _ => rfl, ⟨HF5.out.os, HF5.out.tape, HF5.out.output, HF5.out.size, HF5.out.block⟩, hz5⟩
          case measure => simp [intOf]; omega
        · obtain rfl : k = n := by omega
          obtain ⟨L1, told, hS, hR, hF, hz1⟩ := hrel
          have HF1 := Lib.hid hF
          clear hF hS hR hz1
          go_wp2_with fail
          refine (wakes_any wr).mono ?_
          rintro e w' ⟨rfl, hF⟩
          go_wp2_with fail
          go_ret
          exact ⟨rfl, HF1.out.trans hF (fun _ h => h.elim)⟩
end Go.Proofs.Ytddhejgbidmmjaa
