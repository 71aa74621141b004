/- The walk of teasellaw22.RingTells. -/
import Derived.Test.YtcdhdpocnjmkmaaTh
import Derived.Test.YtcdhdpocnjmkmaaStr
import Derived.Deep.DeepCutAuto
import Derived.Deep.CutBlock
import Derived.Deep.RegionHeld3
namespace Go.Proofs.Ytcdhdpocnjmkmaa
open Go.RowKit Go.Shelf
/-- Between two deeds. -/
def TRel (w : World) (m b g b' E k : Nat) (wr : World) : Prop :=
  ∃ next win, RI.RAt wr b g m next win ∧ RefAt wr E b' m next (things next win m) ∧ next ≤ k ∧ Frm (fun _ => False) w wr
/-- Where the two rings lie. -/
def Lies (w : World) (b g b' E : Nat) : Prop := b < E ∧ g < E ∧ b' < E ∧ b ≠ b' ∧ g ≠ b' ∧ g ≤ b ∧ w.heap.size = g ∧ g ≤ b'
theorem RI_congr {w : World} {b g m next : Nat} {win win' : Nat → Option Int} (h : RI.RAt w b g m next win) (he : ∀ i, i < m → win i = win' i) : RI.RAt w b g m next win' := by
  obtain ⟨cs, h1, h2, h3, h4, h5, h6, h7⟩ := h
  exact ⟨cs, h1, h2, h3, h4, h5, h6, fun i hi => by rw [← he i hi]; exact h7 i hi⟩
def putT (m next : Nat) (win : Nat → Option Int) (N : Int) : Bool := decide ((next : Int) ≤ N ∧ N < next + m) && (win (N - next).toNat).isNone
def putN (m next : Nat) (win : Nat → Option Int) (N X : Int) : Nat → Option Int := if putT m next win N then RI.putW win (N - next).toNat X else win
def PutAll (m next : Nat) (win : Nat → Option Int) (b g : Nat) (N X : Int) (w : World) (e : Ending) (w' : World) : Prop :=
  e = .returned (.bool (putT m next win N)) ∧ RI.RAt w' b g m next (putN m next win N X) ∧ Frm (fun k => k = b ∨ k = g) w w'
theorem put_all (b g m next : Nat) (win : Nat → Option Int) (N X : Int) (w : World) (h : RI.RAt w b g m next win) (hN : N ≤ 9223372036854775807) :
    Calls Try.prog 11 #[.pointer (some ⟨b, 0, none⟩), .int .i64 N, .int .i64 X] w (PutAll m next win b g N X w) := by
  unfold PutAll putN
  by_cases ha : (next : Int) ≤ N ∧ N < next + m
  · obtain ⟨i, hi⟩ := Int.eq_ofNat_of_zero_le (show 0 ≤ N - next by omega)
    have hiN : N = ((next + i : Nat) : Int) := by omega
    have hit : (N - (next : Int)).toNat = i := by omega
    have him : i < m := by omega
    cases hw : win i with
    | none =>
      have ht : putT m next win N = true := by simp [putT, ha, hit, hw]
      rw [ht, if_pos rfl, hit]
      exact RI.put_ok' b g m next win i N X w h hiN him hw
    | some y =>
      have ht : putT m next win N = false := by simp [putT, hit, hw]
      rw [ht, if_neg (by decide)]
      refine (RI.put_full' b g m next win i N X y w h hiN him hw).mono ?_
      rintro e w' ⟨rfl, k, rfl⟩
      exact ⟨rfl, h.drewN k, (Frm.refl _ w).drewN k⟩
  · have ht : putT m next win N = false := by simp only [putT, decide_eq_false ha, Bool.false_and]
    rw [ht, if_neg (by decide)]
    refine (RI.put_no' b g m next win N X w h hN (by unfold RI.Admit; exact decide_eq_false ha)).mono ?_
    rintro e w' ⟨rfl, k, rfl⟩
    exact ⟨rfl, h.drewN k, (Frm.refl _ w).drewN k⟩
def RPutAll (E b m next : Nat) (win : Nat → Option Int) (N X : Int) (w : World) (e : Ending) (w' : World) : Prop :=
  e = .returned (.bool (putT m next win N)) ∧ RefAt w' E b m next (things next (putN m next win N X) m) ∧ Frm (fun k => k = b) w w'
theorem rput_all (E b m next : Nat) (win : Nat → Option Int) (N X : Int) (w : World) (h : RefAt w E b m next (things next win m)) (hN : N ≤ 9223372036854775807) :
    Calls Try.prog 12 #[.pointer (some ⟨b, 0, none⟩), .int .i64 N, .int .i64 X] w (RPutAll E b m next win N X w) := by
  unfold RPutAll putN
  obtain ⟨_, _, _, _, _, _, hm16, hnx6⟩ := id h
  by_cases ha : (next : Int) ≤ N ∧ N < next + m
  · obtain ⟨i, hi⟩ := Int.eq_ofNat_of_zero_le (show 0 ≤ N - next by omega)
    have hiN : N = ((next + i : Nat) : Int) := by omega
    have hit : (N - (next : Int)).toNat = i := by omega
    have him : i < m := by omega
    have hlen := things_len (next := next) (win := win) m
    have hcall := rput_any E b m next (things next win m) N X w h hN (by omega) (things_sorted m) (by unfold AdmitR; exact decide_eq_true ha)
    cases hw : win i with
    | none =>
      have ht : putT m next win N = true := by simp [putT, ha, hit, hw]
      rw [ht, if_pos rfl, hit]
      refine hcall.mono ?_
      intro e w' hp
      unfold RPutPost at hp
      rw [if_neg, hiN, things_put X m him hw] at hp
      · exact hp
      · rintro ⟨p, hp, hpn⟩
        obtain ⟨j, hj, h1, h2⟩ := things_mem.1 hp
        obtain rfl : j = i := by omega
        rw [hw] at h1; cases h1
    | some y =>
      have ht : putT m next win N = false := by simp [putT, hit, hw]
      rw [ht, if_neg (by decide)]
      refine hcall.mono ?_
      intro e w' hp
      unfold RPutPost at hp
      rw [if_pos] at hp
      · exact hp
      · exact ⟨(((next + i : Nat) : Int), y), things_mem.2 ⟨i, him, hw, rfl⟩, hiN.symm⟩
  · have ht : putT m next win N = false := by simp only [putT, decide_eq_false ha, Bool.false_and]
    rw [ht, if_neg (by decide)]
    refine (rput_no E b m next _ N X w h hN (by unfold AdmitR; exact decide_eq_false ha)).mono ?_
    rintro e w' ⟨rfl, k, rfl⟩
    exact ⟨rfl, h.kept ((Frm.refl (fun _ => False) w).drewN k) id (fun _ _ _ => id), (Frm.refl _ w).drewN k⟩
theorem adm_eq (m next : Nat) (n : Int) : (RI.Admit m next n == AdmitR m next n) = true := beq_self_eq_true (RI.Admit m next n)
set_option maxRecDepth 100000 in
set_option maxHeartbeats 2000000 in
theorem tells_any (room : Int) (hroom : room ≤ 9223372036854775807) (v1 : Value) (ds : List (List Int)) (hds : ∀ d ∈ ds, d.length = 3 ∧ ∀ x ∈ d, (Lit.int .i64 x).wf = true) (w : World) (h : SlZ w (fun k => k < w.heap.size) 3 v1 (flatI ds)) :
    Calls Try.prog 3 #[.int .i64 room, v1] w fun e w' => e = .returned (.bool true) ∧ Frm (fun _ => False) w w' := by
  obtain ⟨A, n, c, rfl, hn, hc, hm, hx⟩ := h
  have hnl : n = ds.length := by have h1 := flatI_length ds fun d hd => (hds d hd).1; omega
  have hcell : ∀ k, k < n → ∃ ga o, A = some ⟨ga, o, none⟩ ∧ ga < w.heap.size ∧ ∃ D N X : Int, w.cell? ⟨ga, o + k * 3, none⟩ = some (.int .i64 D) ∧ w.cell? ⟨ga, o + k * 3 + 1, none⟩ = some (.int .i64 N) ∧ w.cell? ⟨ga, o + k * 3 + 2, none⟩ = some (.int .i64 X) ∧ N ≤ 9223372036854775807 := fun k hk => by
    obtain ⟨ga, o, rfl, hg, hcs⟩ := hx.resolve_left (by omega)
    have hk' : k < ds.length := by omega
    have hat := fun j hj => flatI_at ds (fun d hd => (hds d hd).1) k j hk' hj
    have hcc : ∀ j, j < 3 → w.cell? ⟨ga, o + k * 3 + j, none⟩ = some (.int .i64 (ds[k].getD j 0)) := fun j hj => by
      obtain ⟨p, q⟩ := List.getElem?_eq_some_iff.1 (hat j hj)
      rw [Nat.add_assoc, hcs _ p, q]; rfl
    have hd := hds ds[k] (List.getElem_mem hk')
    refine ⟨ga, o, rfl, hg, _, _, _, hcc 0 (by omega), hcc 1 (by omega), hcc 2 (by omega), ?_⟩
    have : ds[k].getD 1 0 = ds[k][1]'(by omega) := by simp [List.getD, hd.1]
    rw [this]
    exact (i64_range (hd.2 _ (List.getElem_mem _))).2
  have Hc := Lib.hid hcell
  clear hx hn hds hnl hcell
  go_enter Try.func3, Try.ntmps3
  by_cases h100 : (100 : Int) < (n : Int)
  · go_wp2_with fail
    refine (wakes_any w).mono ?_
    rintro e w' ⟨rfl, hF⟩
    go_wp2_with fail
    go_ret
    exact ⟨rfl, hF⟩
  · by_cases hr : 1 ≤ room ∧ room ≤ 16
    · obtain ⟨m, rfl⟩ := Int.eq_ofNat_of_zero_le (show 0 ≤ room by omega)
      have hmay := may_any (m : Int)
      rw [show decide (1 ≤ (m : Int) ∧ (m : Int) ≤ 16) = true from by simpa using hr] at hmay
      have Hmay := Lib.hid hmay
      clear hmay
      go_wp2_with fail
      refine (RI.new_ok m w (by omega) (by omega)).mono ?_
      rintro e w1 ⟨rfl, h1, hF⟩
      have H1 := Lib.hid (And.intro h1 hF)
      clear h1 hF
      generalize hb : w.heap.size + 1 = b at *
      generalize hg : w.heap.size = g at *
      have HB := Lib.hid (And.intro hb hg)
      clear hb hg
      go_wp2_with fail
      refine (Hmay.out w1).mono ?_
      rintro e w' ⟨rfl, rfl⟩
      clear Hmay
      go_wp2_with fail
      generalize hb2 : w1.heap.size = b' at *
      have hrel0 : TRel w m b g b' (b' + 1) 0 (w1.alloc (.cells #[.int .i64 m, .int .i64 0, .slice none 0 0] 32)) := by
        subst hb2
        obtain ⟨h1, hF⟩ := H1.out
        refine ⟨0, fun _ => none, h1.kept (Below.heap_alloc _ _ _ h1.lt.1) (Below.heap_alloc _ _ _ h1.lt.2), ?_, by omega, hF.alloc _⟩
        rw [things_none_all]
        exact ⟨_, Blk.new _ _ _, by omega, by simp, SlZ.nil _ _ _, by simp, by omega, by omega⟩
      have hl : Lies w b g b' (b' + 1) := by
        have := H1.out.1.lt; have h2 := HB.out; have h3 := H1.out.2.size
        unfold Lies; omega
      have HL := Lib.hid hl
      clear H1 HB hl hb2
      generalize hE : b' + 1 = E at *
      clear hE
      go_loopw [9] (fun i wr => ∃ k : Nat, k ≤ n ∧ i = .int .i64 k ∧ TRel w m b g b' E k wr) (fun i _ => n - (intOf i).toNat)
      case atStart => exact ⟨0, Nat.zero_le _, rfl, hrel0⟩
      case round =>
        clear hrel0
        obtain ⟨k, hk, rfl, next, win, h, hr', hnk, hF⟩ := hrel
        by_cases hlt : k < n
        · obtain ⟨ga, o, rfl, hga, D, N, X, c0, c1, c2, hN⟩ := Hc.out k hlt
          have d0 := hF.cell c0 id
          have d1 := hF.cell c1 id
          have d2 := hF.cell c2 id
          have Hcs := Lib.hid (And.intro c0 (And.intro c1 (And.intro c2 hga)))
          have HF := Lib.hid hF
          clear c0 c1 c2 hga hF
          go_wp2_with fail
          go_quiet (first
            | (go_at_call 9; exact Calls.quiet_of (RI.admits_any b g m next win N _ (h.drewN _) hN))
            | (go_at_call 10; exact Calls.quiet_of (radmits_any E b' m next _ N _ (hr'.kept ((Frm.refl (fun _ => False) wr).drewN _) id (fun _ _ _ => id)) hN)))
          have hadm := adm_eq m next N
          go_upto_block 2 with fail
          have h0 := h.drewN nq
          have hr0 : RefAt (wr.drewN nq) E b' m next (things next win m) := hr'.kept ((Frm.refl (fun _ => False) wr).drewN nq) id (fun _ _ _ => id)
          have HF0 : Hid (Frm (fun _ => False) w (wr.drewN nq)) := HF.out.drewN nq
          have e0 : (wr.drewN nq).cell? ⟨ga, o + k * 3, none⟩ = some (.int .i64 D) := d0
          have e1 : (wr.drewN nq).cell? ⟨ga, o + k * 3 + 1, none⟩ = some (.int .i64 N) := d1
          have e2 : (wr.drewN nq).cell? ⟨ga, o + k * 3 + 2, none⟩ = some (.int .i64 X) := d2
          clear h hr' HF d0 d1 d2
          generalize wr.drewN nq = w0 at *
          have hgb : ga ≠ b ∧ ga ≠ g ∧ ga ≠ b' := by have h1 := HL.out; have h2 := Hcs.out.2.2.2; unfold Lies at h1; omega
          obtain ⟨n1, n2, n3⟩ := hgb
          go_cut [10] (fun t wc => t = .bool true ∧ TRel w m b g b' E (k + 1) wc)
          case first =>
            by_cases hD0 : D = 0
            · subst hD0
              go_wp2_with fail
              go_region_held3 (fun w' => w'.cell? ⟨ga, o + k * 3 + 1, none⟩ = some (.int .i64 N) ∧ w'.cell? ⟨ga, o + k * 3 + 2, none⟩ = some (.int .i64 X)) (first | exact ⟨e1, e2⟩ | exact ⟨e11, e21⟩ | exact ⟨e12, e22⟩)
                (first
                | (go_at_call 11; refine (put_all b g m next win N X _ (by exact h0.kept rfl rfl) hN).mono ?_; rintro e w1 ⟨rfl, h1, hF1⟩; have e11 := hF1.cell (a := ⟨ga, o + k * 3 + 1, none⟩) (by exact e1) (by rintro (h | h); exact n1 h; exact n2 h); have e21 := hF1.cell (a := ⟨ga, o + k * 3 + 2, none⟩) (by exact e2) (by rintro (h | h); exact n1 h; exact n2 h))
                | (go_at_call 12; refine (rput_all E b' m next win N X _ (by exact (hr0.kept ((Frm.refl (fun _ => False) w0).drew) id (fun _ _ _ => id)).kept hF1 (by have h1 := HL.out; unfold Lies at h1; rintro (h | h); exact h1.2.2.2.1 h.symm; exact h1.2.2.2.2.1 h.symm) (by intro q h2 _ h3; have h1 := HL.out; unfold Lies at h1; omega)) hN).mono ?_; rintro e w2 ⟨rfl, hr2, hF2⟩; have e12 := hF2.cell e11 n3; have e22 := hF2.cell e21 n3))
              have hlie : ∀ q, q = b ∨ q = g ∨ q = b' → w.heap.size ≤ q := by intro q hq; have h1 := HL.out; unfold Lies at h1; omega
              have hbb : ¬ b = b' ∧ ¬ g = b' := by have h1 := HL.out; unfold Lies at h1; omega
              have HX := Lib.hid (And.intro hlie (And.intro hbb (And.intro h1 (And.intro hr2 (And.intro hF1 hF2)))))
              clear hlie hbb h1 hr2 hF1 hF2 h0 hr0
              go_wp2_with fail
              go_meet
              case rel =>
                obtain ⟨hlie, hbb, h1, hr2, hF1, hF2⟩ := HX.out
                exact ⟨by simp, next, putN m next win N X, h1.kept (hF2.block _ h1.lt.1 hbb.1) (hF2.block _ h1.lt.2 hbb.2), hr2, by omega, (HF0.out.drew.trans hF1 (fun q hq => .inr (hlie q (by rcases hq with h | h; exact .inl h; exact .inr (.inl h))))).trans hF2 (fun q hq => .inr (hlie q (.inr (.inr hq))))⟩
            · have hb0 : (D == 0) = false := by simpa using hD0
              have hlie : ∀ q, q = b ∨ q = g ∨ q = b' → w.heap.size ≤ q := by intro q hq; have h1 := HL.out; unfold Lies at h1; omega
              have hbb : (¬ b = b' ∧ ¬ g = b') ∧ b < E ∧ g < E := by have h1 := HL.out; unfold Lies at h1; omega
              have Hlie := Lib.hid hlie
              have Hbb := Lib.hid hbb
              clear hlie hbb
              by_cases hD1 : D = 1
              · subst hD1
                cases hw0 : win 0 with
                | none =>
                  have hhead : ∀ p, (things next win m).head? = some p → p.1 ≠ next := by
                    intro p hp
                    have hp' := List.mem_of_mem_head? hp
                    obtain ⟨i, hi, h1, h2⟩ := things_mem.1 hp'
                    intro h3
                    obtain rfl : i = 0 := by omega
                    rw [hw0] at h1; cases h1
                  have HH := Lib.hid (And.intro h0 (And.intro hr0 (And.intro hhead hw0)))
                  clear h0 hr0 hhead hw0
                  go_wp2_with fail
                  refine (RI.take_no b g m next win w0 HH.out.1 HH.out.2.2.2).mono ?_
                  rintro e w' ⟨rfl, q1, rfl⟩
                  go_wp2_with fail
                  refine (rtake_no E b' m next _ (w0.drewN q1) (HH.out.2.1.kept ((Frm.refl (fun _ => False) w0).drewN q1) id (fun _ _ _ => id)) HH.out.2.2.1).mono ?_
                  rintro e w' ⟨rfl, q2, rfl⟩
                  go_wp2_with fail
                  go_meet
                  case rel => exact ⟨rfl, next, win, (HH.out.1.drewN _), HH.out.2.1.kept ((Frm.refl (fun _ => False) w0).drewN _) id (fun _ _ _ => id), by omega, HF0.out.drewN _⟩
                | some x =>
                  have hth := things_takeW (next := next) (win := win) h0.room.1
                  rw [hw0] at hth
                  have hth' : things next win m = ((next : Int), x) :: things (next + 1) (RI.takeW m win) m := hth
                  rw [hth'] at hr0
                  have hnb : next < 1000000 := by omega
                  have HH := Lib.hid (And.intro h0 (And.intro hr0 hw0))
                  clear h0 hr0 hth hth' hw0
                  go_wp2_with fail
                  refine (RI.take_ok b g m next win x w0 HH.out.1 HH.out.2.2 hnb).mono ?_
                  rintro e w2 ⟨rfl, h1, hF1⟩
                  have hr1 := HH.out.2.1.kept hF1 (by rintro (h | h); exact Hbb.out.1.1 h.symm; exact Hbb.out.1.2 h.symm) (by intro q h2 _ h3; have := Hbb.out.2; omega)
                  have HX := Lib.hid (And.intro h1 hF1)
                  clear h1 hF1
                  unfold RI.ev
                  go_wp2_with fail
                  refine (rtake_ok E b' m next x _ w2 hr1 hnb).mono ?_
                  rintro e w3 ⟨rfl, hr2, hF2⟩
                  obtain ⟨h1, hF1⟩ := HX.out
                  have h2 := h1.kept (hF2.block _ h1.lt.1 Hbb.out.1.1) (hF2.block _ h1.lt.2 Hbb.out.1.2)
                  have HX2 := Lib.hid (And.intro h2 (And.intro hr2 ((HF0.out.trans hF1 (fun q hq => .inr (Hlie.out q (by rcases hq with h | h; exact .inl h; exact .inr (.inl h))))).trans hF2 (fun q hq => .inr (Hlie.out q (.inr (.inr hq)))))))
                  clear h1 h2 hF1 hF2 hr1 hr2 HX
                  go_wp2_with fail
                  go_meet
                  case rel => exact ⟨by simp, next + 1, RI.takeW m win, HX2.out.1, HX2.out.2.1, by omega, HX2.out.2.2⟩
              · have hb1 : (D == 1) = false := by simpa using hD1
                have hlen : (RI.numsTo next win m).length = (things next win m).length := by rw [← things_nums, List.length_map]
                have HH := Lib.hid (And.intro h0 hr0)
                clear h0 hr0
                go_wp2_with fail
                refine (RI.clear_eq b g m next win (things next win m).length w0 HH.out.1 hlen).mono ?_
                rintro e w2 ⟨rfl, h1, hF1⟩
                have hr1 := HH.out.2.kept hF1 (by rintro (h | h); exact absurd HH.out.2.blk.choose_spec.1.lt (by omega); exact Hbb.out.1.2 h.symm) (by intro q h2 h4 h3; have := Hbb.out.2; omega)
                have HX := Lib.hid (And.intro h1 hF1)
                clear h1 hF1 hlen
                go_wp2_with fail
                refine (rclear_any E b' m next _ w2 hr1).mono ?_
                rintro e w3 ⟨rfl, hr2, hF2⟩
                obtain ⟨h1, hF1⟩ := HX.out
                have h2 := h1.kept (hF2.block _ h1.lt.1 Hbb.out.1.1) (hF2.block _ h1.lt.2 Hbb.out.1.2)
                rw [← things_none_all (next := next) m] at hr2
                have HX2 := Lib.hid (And.intro h2 (And.intro hr2 ((HF0.out.trans hF1 (fun q hq => .inr (by rcases hq with h | h; exact Nat.le_trans HF0.out.size h; exact Hlie.out q (.inr (.inl h))))).trans hF2 (fun q hq => .inr (Hlie.out q (.inr (.inr hq)))))))
                clear h1 h2 hF1 hF2 hr1 hr2 HX
                go_wp2_with fail
                go_meet
                case rel => exact ⟨by simp, next, fun _ => none, HX2.out.1, HX2.out.2.1, by omega, HX2.out.2.2⟩
          case rest =>
            obtain ⟨rfl, hrel⟩ := hcut
            obtain ⟨next2, win2, h2, hr2, hn2, hF2⟩ := hrel
            have hbn : wc.cell? ⟨b', 1, none⟩ = some (.int .i64 next2) := by obtain ⟨_, _, _, _, hc1, _⟩ := hr2.sl; exact hc1
            clear h0 hr0 HF0 e0 e1 e2 Hcs
            have HX := Lib.hid (And.intro h2 (And.intro hr2 hF2))
            clear h2 hr2 hF2
            go_wp2_with fail
            go_region_held3 (fun w' => w'.cell? ⟨b', 1, none⟩ = some (.int .i64 next2)) (first | exact hbn | exact hb3 | exact hb4)
              (first
              | (go_at_call 17; refine (RI.next_any b g m next2 win2 _ (by exact HX.out.1.kept rfl rfl)).mono ?_; rintro e w' ⟨rfl, rfl⟩)
              | (go_at_call 19; refine (RI.nums_any b g m next2 win2 _ (by exact HX.out.1.kept rfl rfl)).mono ?_; rintro e w3 ⟨v3, rfl, hv3, hF3⟩; have hb3 := hF3.cell hbn id)
              | (go_at_call 20; refine (rnums_any E b' m next2 _ _ (by exact (HX.out.2.1.kept ((Frm.refl (fun _ => False) wc).drew) id (fun _ _ _ => id)).kept hF3 id (fun _ _ _ => id))).mono ?_; rintro e w4 ⟨v4, rfl, hv4, hF4⟩; have hb4 := hF4.cell hb3 id; rw [things_nums] at hv4)
              | (go_at_call 18; refine (ints_any v3 v4 _ _ (RI.numsTo next2 win2 m) (RI.numsTo next2 win2 m) _ (by exact (hv3.apart (K2 := fun _ => False) (fun _ _ h => h)).next hF4) (by exact hv4.apart (K2 := fun _ => False) (fun _ _ h => h))).mono ?_; rintro e w5 ⟨rfl, q5, rfl⟩))
            have HY : Hid (RI.RAt (w4.drewN q5) b g m next2 win2 ∧ RefAt (w4.drewN q5) E b' m next2 (things next2 win2 m) ∧ Frm (fun _ => False) w (w4.drewN q5)) := by
              obtain ⟨h2, hr2, hF2⟩ := HX.out
              have h3 : RI.RAt w3 b g m next2 win2 := h2.kept (hF3.block _ h2.lt.1 id) (hF3.block _ h2.lt.2 id)
              have h4 : RI.RAt w4 b g m next2 win2 := h3.kept (hF4.block _ h3.lt.1 id) (hF4.block _ h3.lt.2 id)
              have hr4 := ((hr2.kept ((Frm.refl (fun _ => False) wc).drew) id (fun _ _ _ => id)).kept hF3 id (fun _ _ _ => id)).kept hF4 id (fun _ _ _ => id)
              exact ⟨h4.drewN q5, hr4.kept ((Frm.refl (fun _ => False) w4).drewN q5) id (fun _ _ _ => id), ((hF2.drew.trans hF3 (fun _ h => h.elim)).trans hF4 (fun _ h => h.elim)).drewN q5⟩
            clear hv3 hv4 hF3 hF4 HX hb3 hb4 hbn
            generalize w4.drewN q5 = w5 at *
            go_wp2_with fail
            go_roundw
            case rel => exact ⟨k + 1, by omega, by go_num, next2, win2, HY.out.1, HY.out.2.1, hn2, HY.out.2.2⟩
            case measure => simp [intOf]; omega
        · obtain rfl : k = n := by omega
          have HF := Lib.hid hF
          clear hF h hr'
          go_wp2_with fail
          refine (wakes_any wr).mono ?_
          rintro e w5 ⟨rfl, hF5⟩
          go_wp2_with fail
          go_ret
          exact ⟨rfl, HF.out.trans hF5 (fun _ h => h.elim)⟩
    · have hr2 : room < 1 ∨ 16 < room := by omega
      have hmay := may_any room
      rw [show decide (1 ≤ room ∧ room ≤ 16) = false from by simpa using hr] at hmay
      have Hmay := Lib.hid hmay
      clear hmay hr
      go_wp2_with fail
      refine (RI.new_no room w hr2).mono ?_
      rintro e w' ⟨rfl, rfl⟩
      go_wp2_with fail
      refine (Hmay.out w).mono ?_
      rintro e w' ⟨rfl, rfl⟩
      go_wp2_with fail
      refine (wakes_any w).mono ?_
      rintro e w' ⟨rfl, hF⟩
      go_wp2_with fail
      go_ret
      exact ⟨rfl, hF⟩
end Go.Proofs.Ytcdhdpocnjmkmaa
