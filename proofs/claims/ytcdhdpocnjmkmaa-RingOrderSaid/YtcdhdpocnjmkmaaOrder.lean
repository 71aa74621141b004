/- The walk of teasellaw22.RingOrder. -/
import Derived.Test.YtcdhdpocnjmkmaaTells
namespace Go.Proofs.Ytcdhdpocnjmkmaa
open Go.RowKit Go.Shelf
/-- The deeds, as they are read. -/
theorem deeds_open (v1 : Value) (ds : List (List Int)) (hds : ∀ d ∈ ds, d.length = 3 ∧ ∀ x ∈ d, (Lit.int .i64 x).wf = true) (w : World) (h : SlZ w (fun k => k < w.heap.size) 3 v1 (flatI ds)) :
    ∃ A n c, v1 = .slice A n c ∧ n ≤ c ∧ c ≤ 9223372036854775807 ∧ ∀ k, k < n → ∃ ga o, A = some ⟨ga, o, none⟩ ∧ ga < w.heap.size ∧ ∃ D N X : Int, w.cell? ⟨ga, o + k * 3, none⟩ = some (.int .i64 D) ∧ w.cell? ⟨ga, o + k * 3 + 1, none⟩ = some (.int .i64 N) ∧ w.cell? ⟨ga, o + k * 3 + 2, none⟩ = some (.int .i64 X) ∧ N ≤ 9223372036854775807 := by
  obtain ⟨A, n, c, rfl, hn, hc, hm, hx⟩ := h
  have hnl : n = ds.length := by have h1 := flatI_length ds fun d hd => (hds d hd).1; omega
  refine ⟨A, n, c, rfl, hc, hm, ?_⟩
  have hcell : ∀ k, k < n → ∃ ga o, A = some ⟨ga, o, none⟩ ∧ ga < w.heap.size ∧ ∃ D N X : Int, w.cell? ⟨ga, o + k * 3, none⟩ = some (.int .i64 D) ∧ w.cell? ⟨ga, o + k * 3 + 1, none⟩ = some (.int .i64 N) ∧ w.cell? ⟨ga, o + k * 3 + 2, none⟩ = some (.int .i64 X) ∧ N ≤ 9223372036854775807 := fun k hk => by
    obtain ⟨ga, o, rfl, hg, hcs⟩ := hx.resolve_left (by omega)
    have hk' : k < ds.length := by omega
    have hat := fun j hj => flatI_at ds (fun d hd => (hds d hd).1) k j hk' hj
    have hcc : ∀ j, j < 3 → w.cell? ⟨ga, o + k * 3 + j, none⟩ = some (.int .i64 (ds[k].getD j 0)) := fun j hj => by
      obtain ⟨p, q⟩ := List.getElem?_eq_some_iff.1 (hat j hj)
      rw [Nat.add_assoc, hcs _ p, q]; rfl
    have hd := hds ds[k] (List.getElem_mem hk')
    refine ⟨ga, o, rfl, hg, _, _, _, hcc 0 (by omega), hcc 1 (by omega), hcc 2 (by omega), ?_⟩
    have : ds[k].getD 1 0 = ds[k][1]'(by omega) := by simp [List.getD, hd.1]
    rw [this]
    exact (i64_range (hd.2 _ (List.getElem_mem _))).2
  exact hcell
def thB (m next : Nat) (win : Nat → Option Int) (j : Nat) : Bool := decide (next ≤ j ∧ j < next + m) && (win (j - next)).isSome
theorem thB_in {m next i : Nat} {win : Nat → Option Int} (hi : i < m) : thB m next win (next + i) = (win i).isSome := by
  unfold thB
  rw [show decide (next ≤ next + i ∧ next + i < next + m) = true from by simpa using hi, show next + i - next = i from by omega]
  simp
theorem thB_put {m next i : Nat} {win : Nat → Option Int} (x : Int) (hi : i < m) (j : Nat) : thB m next (RI.putW win i x) j = if j = next + i then true else thB m next win j := by
  by_cases h : j = next + i
  · subst h
    rw [thB_in hi, if_pos rfl]; simp [RI.putW]
  · rw [if_neg h]
    unfold thB
    by_cases h2 : next ≤ j ∧ j < next + m
    · simp [RI.putW, show j - next ≠ i by omega]
    · simp [h2]
theorem thB_take {m next : Nat} {win : Nat → Option Int} (hm : 1 ≤ m) (j : Nat) : thB m (next + 1) (RI.takeW m win) j = if j = next then false else thB m next win j := by
  unfold thB RI.takeW
  by_cases h : j = next
  · subst h
    rw [show decide (j + 1 ≤ j ∧ j < j + 1 + m) = false from by simp; omega]; simp
  · rw [if_neg h]
    by_cases h2 : next + 1 ≤ j ∧ j < next + 1 + m
    · by_cases h3 : j < next + m
      · rw [show decide (next + 1 ≤ j ∧ j < next + 1 + m) = true from by simpa using h2, show decide (next ≤ j ∧ j < next + m) = true from by simp; omega, if_pos (by omega), show j - (next + 1) + 1 = j - next from by omega]
      · rw [if_neg (by omega), show decide (next ≤ j ∧ j < next + m) = false from by simp; omega]; simp
    · rw [show decide (next + 1 ≤ j ∧ j < next + 1 + m) = false from by simpa using h2]
      rw [show decide (next ≤ j ∧ j < next + m) = false from by simp; omega]; simp
theorem thB_none {m next : Nat} (j : Nat) : thB m next (fun _ => none) j = false := by simp [thB]
/-- How many are there below k. -/
def cnt (m next : Nat) (win : Nat → Option Int) : Nat → Nat
  | 0 => 0
  | k + 1 => cnt m next win k + if thB m next win k then 1 else 0
theorem cnt_low {m next : Nat} {win : Nat → Option Int} : ∀ k, k ≤ next → cnt m next win k = 0
  | 0, _ => rfl
  | k + 1, h => by
    rw [cnt, cnt_low k (by omega), show thB m next win k = false from by unfold thB; rw [show decide (next ≤ k ∧ k < next + m) = false from by simp; omega]; simp]; rfl
theorem cnt_mid {m next : Nat} {win : Nat → Option Int} : ∀ i, i ≤ m → cnt m next win (next + i) = (RI.numsTo next win i).length
  | 0, _ => by rw [Nat.add_zero, cnt_low next (Nat.le_refl _)]; rfl
  | i + 1, h => by
    rw [← Nat.add_assoc, cnt, cnt_mid i (by omega), thB_in (by omega)]
    cases hw : (win i).isSome with
    | true => rw [RI.numsTo_yes hw]; simp
    | false => rw [RI.numsTo_no hw]; simp
theorem cnt_high {m next : Nat} {win : Nat → Option Int} : ∀ j, cnt m next win (next + m + j) = (RI.numsTo next win m).length
  | 0 => cnt_mid m (Nat.le_refl _)
  | j + 1 => by
    rw [← Nat.add_assoc, cnt, cnt_high j, show thB m next win (next + m + j) = false from by unfold thB; rw [show decide (next ≤ next + m + j ∧ next + m + j < next + m) = false from by simp]; simp]; rfl
theorem cnt_le {m next : Nat} {win : Nat → Option Int} : ∀ k, cnt m next win k ≤ k
  | 0 => Nat.le_refl _
  | k + 1 => by have := cnt_le (m := m) (next := next) (win := win) k; unfold cnt; split <;> omega
/-- The two arrays: what is there, and what. -/
def Arr (wr : World) (m bt bw next : Nat) (win : Nat → Option Int) : Prop :=
  ∃ cs es, Blk wr bt 43 cs ∧ Blk wr bw 44 es ∧ (∀ j, j < 120 → cs[j]? = some (.bool (thB m next win j))) ∧ (∀ j, j < 120 → ∃ z : Int, es[j]? = some (.int .i64 z)) ∧ (∀ i x, i < m → win i = some x → es[next + i]? = some (.int .i64 x))
/-- Within the loop that clears: the first j are cleared. -/
def InRel (w0 : World) (m bt bw next : Nat) (win : Nat → Option Int) (j : Nat) (wr : World) : Prop :=
  (∃ cs es, Blk wr bt 43 cs ∧ Blk wr bw 44 es ∧ bt ≠ bw ∧ (∀ q, q < 120 → cs[q]? = some (.bool (if q < j then false else thB m next win q))) ∧ (∀ q, q < 120 → ∃ z : Int, es[q]? = some (.int .i64 z))) ∧ Frm (fun q => q = bt) w0 wr
section
variable {w0 wr : World} {m bt bw next j : Nat} {win : Nat → Option Int}
theorem InRel.cell (h : InRel w0 m bt bw next win j wr) (hj : j < 120) : wr.cell? ⟨bt, j, none⟩ = some (.bool (thB m next win j)) := by
  obtain ⟨⟨cs, es, q1, q2, _, q3, _⟩, _⟩ := h
  rw [q1.cell, q3 j hj, if_neg (by omega)]
theorem InRel.frozen (h : InRel w0 m bt bw next win j wr) (q : Nat) : wr.frozen? ⟨bt, q, none⟩ = false := by
  obtain ⟨⟨cs, es, q1, _⟩, _⟩ := h
  exact q1.frozen q
theorem InRel.frm (h : InRel w0 m bt bw next win j wr) : Frm (fun q => q = bt) w0 wr := h.2
theorem InRel.size (h : InRel w0 m bt bw next win j wr) : bt < wr.heap.size ∧ bw < wr.heap.size := by
  obtain ⟨⟨cs, es, q1, q2, _⟩, _⟩ := h
  exact ⟨q1.lt, q2.lt⟩
theorem InRel.step (h : InRel w0 m bt bw next win j wr) (hj : j < 120) : InRel w0 m bt bw next win (j + 1) (wr.setCell ⟨bt, j, none⟩ (.bool false)) := by
  obtain ⟨⟨cs, es, q1, q2, hne, q3, q4⟩, hF⟩ := h
  have l1 : j < cs.size := (Array.getElem?_eq_some_iff.1 (q3 j hj)).1
  refine ⟨⟨_, es, q1.set_ _ _, q2.far hne.symm _, hne, fun q hq => ?_, q4⟩, hF.setCell ⟨bt, j, none⟩ (.inl rfl) _⟩
  rw [Array.getElem?_setIfInBounds]
  by_cases h : j = q
  · subst h; rw [if_pos rfl, if_pos l1, if_pos (by omega)]
  · rw [if_neg h, q3 q hq]
    by_cases h2 : q < j
    · rw [if_pos h2, if_pos (by omega)]
    · rw [if_neg h2, if_neg (by omega)]
theorem InRel.done (h : InRel w0 m bt bw next win 120 wr) : Arr wr m bt bw next (fun _ => none) := by
  obtain ⟨⟨cs, es, q1, q2, hne, q3, q4⟩, hF⟩ := h
  exact ⟨cs, es, q1, q2, fun q hq => by rw [q3 q hq, if_pos hq, thB_none], q4, fun i x _ hx => by cases hx⟩
end
/-- Between two deeds. -/
def ORel (w : World) (m b g bt bw k next : Nat) (wr : World) : Prop :=
  ∃ win, RI.RAt wr b g m next win ∧ Arr wr m bt bw next win ∧ next ≤ k ∧ Frm (fun _ => False) w wr
def OLies (w : World) (b g bt bw : Nat) : Prop := b ≠ bt ∧ g ≠ bt ∧ b ≠ bw ∧ g ≠ bw ∧ bt ≠ bw ∧ g ≤ b ∧ w.heap.size = g ∧ g ≤ bt ∧ g ≤ bw
def zb : Array Value := Array.replicate 120 (.bool false)
def zi : Array Value := Array.replicate 120 (.int .i64 0)
theorem zero_b (w : World) : (zeroValue 43).run Try.prog w = .ok (.agg zb) w := by kernel_rfl
theorem zero_i (w : World) : (zeroValue 44).run Try.prog w = .ok (.agg zi) w := by kernel_rfl
theorem Arr.kept {wr wr' : World} {m bt bw next : Nat} {win : Nat → Option Int} (h : Arr wr m bt bw next win) (h1 : wr'.heap[bt]? = wr.heap[bt]?) (h2 : wr'.heap[bw]? = wr.heap[bw]?) : Arr wr' m bt bw next win := by
  obtain ⟨cs, es, q1, q2, rest⟩ := h
  exact ⟨cs, es, h1.trans q1, h2.trans q2, rest⟩
theorem Arr.size {wr : World} {m bt bw next : Nat} {win : Nat → Option Int} (h : Arr wr m bt bw next win) : bt < wr.heap.size ∧ bw < wr.heap.size := by
  obtain ⟨cs, es, q1, q2, rest⟩ := h
  exact ⟨q1.lt, q2.lt⟩
/-- A thing is put: it is there. -/
theorem Arr.put {wr : World} {m bt bw next i : Nat} {win : Nat → Option Int} (h : Arr wr m bt bw next win) (hne : bt ≠ bw) (hi : i < m) (hb : next + m ≤ 120) (x : Int) :
    Arr ((wr.setCell ⟨bt, next + i, none⟩ (.bool true)).setCell ⟨bw, next + i, none⟩ (.int .i64 x)) m bt bw next (RI.putW win i x) := by
  obtain ⟨cs, es, q1, q2, q3, q4, q5⟩ := h
  have l1 : next + i < cs.size := (Array.getElem?_eq_some_iff.1 (q3 (next + i) (by omega))).1
  have l2 : next + i < es.size := (Array.getElem?_eq_some_iff.1 (q4 (next + i) (by omega)).choose_spec).1
  refine ⟨_, _, (q1.set_ _ _).far hne _, (q2.far hne.symm _).set_ _ _, fun j hj => ?_, fun j hj => ?_, fun k y hk hy => ?_⟩
  · rw [thB_put x hi, Array.getElem?_setIfInBounds]
    by_cases hji : j = next + i
    · subst hji; rw [if_pos rfl, if_pos l1, if_pos rfl]
    · rw [if_neg (fun e => hji e.symm), if_neg hji]; exact q3 j hj
  · rw [Array.getElem?_setIfInBounds]
    split
    · rename_i e; subst e; exact ⟨x, by simp⟩
    · exact q4 j hj
  · rw [Array.getElem?_setIfInBounds]
    by_cases hki : k = i
    · subst hki
      rw [if_pos rfl, if_pos l2]
      simp [RI.putW] at hy; rw [hy]
    · rw [if_neg (by omega)]
      simp [RI.putW, hki] at hy
      exact q5 k y hk hy
/-- The next thing is taken. -/
theorem Arr.take {wr : World} {m bt bw next : Nat} {win : Nat → Option Int} (h : Arr wr m bt bw next win) (hne : bt ≠ bw) (hm : 1 ≤ m) (hb : next + m ≤ 120) :
    Arr (wr.setCell ⟨bt, next, none⟩ (.bool false)) m bt bw (next + 1) (RI.takeW m win) := by
  obtain ⟨cs, es, q1, q2, q3, q4, q5⟩ := h
  have l1 : next < cs.size := (Array.getElem?_eq_some_iff.1 (q3 next (by omega))).1
  refine ⟨_, _, q1.set_ _ _, q2.far hne.symm _, fun j hj => ?_, q4, fun k y hk hy => ?_⟩
  · rw [thB_take hm, Array.getElem?_setIfInBounds]
    by_cases hji : j = next
    · subst hji; rw [if_pos rfl, if_pos l1, if_pos rfl]
    · rw [if_neg (fun e => hji e.symm), if_neg hji]; exact q3 j hj
  · unfold RI.takeW at hy
    by_cases hk1 : k + 1 < m
    · rw [if_pos hk1] at hy
      have := q5 (k + 1) y hk1 hy
      rw [show next + 1 + k = next + (k + 1) from by omega]; exact this
    · rw [if_neg hk1] at hy; cases hy
set_option maxRecDepth 100000 in
set_option maxHeartbeats 4000000 in
theorem order_any (room : Int) (v1 : Value) (ds : List (List Int)) (hds : ∀ d ∈ ds, d.length = 3 ∧ ∀ x ∈ d, (Lit.int .i64 x).wf = true) (w : World) (h : SlZ w (fun k => k < w.heap.size) 3 v1 (flatI ds)) :
    Calls Try.prog 4 #[.int .i64 room, v1] w fun e w' => e = .returned (.bool true) ∧ Frm (fun _ => False) w w' := by
  obtain ⟨A, n, c, rfl, hnc, hcm, hcell⟩ := deeds_open v1 ds hds w h
  have Hc := Lib.hid hcell
  clear h hds hcell
  have hmay := fun W => may_any room W
  have Hmay := Lib.hid hmay
  clear hmay
  go_enter Try.func4, Try.ntmps4
  by_cases h100 : (100 : Int) < (n : Int)
  · go_wp2_with fail
    refine (wakes_any w).mono ?_
    rintro e w' ⟨rfl, hF⟩
    go_wp2_with fail
    go_ret
    exact ⟨rfl, hF⟩
  · by_cases hr : 1 ≤ room ∧ room ≤ 16
    · obtain ⟨m, rfl⟩ := Int.eq_ofNat_of_zero_le (show 0 ≤ room by omega)
      have hmay := Hmay.out w
      rw [show decide (1 ≤ (m : Int) ∧ (m : Int) ≤ 16) = true from by simpa using hr] at hmay
      have hab := zero_b
      have hai := zero_i
      go_wp2_with fail
      refine hmay.mono ?_
      rintro e w' ⟨rfl, rfl⟩
      clear hmay Hmay
      go_wp2_with fail
      refine (RI.new_ok m w (by omega) (by omega)).mono ?_
      rintro e w1 ⟨rfl, h1, hF⟩
      have H1 := Lib.hid (And.intro h1 hF)
      clear h1 hF
      generalize hb : w.heap.size + 1 = b at *
      generalize hg : w.heap.size = g at *
      have HB := Lib.hid (And.intro hb hg)
      clear hb hg
      go_wp2_with fail
      clear hab hai
      generalize hbt : w1.heap.size = bt at *
      have hrel0 : ORel w m b g bt (bt + 1) 0 0 ((w1.alloc (.cells zb 43)).alloc (.cells zi 44)) := by
        subst hbt
        obtain ⟨h1, hF⟩ := H1.out
        have hl := h1.lt
        refine ⟨fun _ => none, h1.kept ?_ ?_, ⟨zb, zi, (Blk.new _ _ _).alloc _, ?_, fun j hj => ?_, fun j hj => ⟨0, ?_⟩, fun i x _ hx => by cases hx⟩, Nat.le_refl _, (hF.alloc _).alloc _⟩
        · rw [Below.heap_alloc _ _ _ (by simp; omega), Below.heap_alloc _ _ _ hl.1]
        · rw [Below.heap_alloc _ _ _ (by simp; omega), Below.heap_alloc _ _ _ hl.2]
        · have := Blk.new (w1.alloc (.cells zb 43)) 44 zi
          simpa using this
        · rw [thB_none]; simp [zb, hj]
        · simp [zi, hj]
      have hl : OLies w b g bt (bt + 1) := by
        have := H1.out.1.lt; have h2 := HB.out; have h3 := H1.out.2.size
        unfold OLies; omega
      have HL := Lib.hid hl
      clear H1 HB hl hbt
      generalize hE : bt + 1 = bw at *
      clear hE
      go_loopw [7, 10] (fun t i wr => ∃ k next : Nat, k ≤ n ∧ i = .int .i64 k ∧ t = .int .i64 next ∧ ORel w m b g bt bw k next wr) (fun _ i _ => n - (intOf i).toNat)
      case atStart => exact ⟨0, 0, Nat.zero_le _, rfl, rfl, hrel0⟩
      case round =>
        clear hrel0
        obtain ⟨k, next, hk, rfl, rfl, win, h, ha, hnk, hF⟩ := hrel
        by_cases hlt : k < n
        · obtain ⟨ga, o, rfl, hga, D, N, X, c0, c1, c2, hN⟩ := Hc.out k hlt
          have d0 := hF.cell c0 id
          have d1 := hF.cell c1 id
          have d2 := hF.cell c2 id
          have Hcs := Lib.hid (And.intro c0 (And.intro c1 (And.intro c2 hga)))
          have HF := Lib.hid hF
          have Ha := Lib.hid ha
          clear c0 c1 c2 hga hF ha
          have hm116 : next + m ≤ 116 := by omega
          go_upto_region 13 with fail
          go_cut [12] (fun t wc => wc = wr ∧ t = .bool (RI.Admit m next N))
          case first =>
            by_cases hnN : (next : Int) ≤ N
            · have e : RI.Admit m next N = decide (N < (next : Int) + (m : Int)) := by unfold RI.Admit; rw [decide_eq_decide]; omega
              have e1 : decide ((next : Int) ≤ N) = true := by simpa using hnN
              go_wp2_with fail
              go_meet
              case rel => exact ⟨rfl, by rw [e]⟩
            · have e : RI.Admit m next N = false := by unfold RI.Admit; simp; omega
              have e1 : decide ((next : Int) ≤ N) = false := by simpa using hnN
              go_wp2_with fail
              go_meet
              case rel => exact ⟨rfl, by rw [e]⟩
          case rest =>
            obtain ⟨rfl, rfl⟩ := hcut
            have hA := RI.admits_any b g m next win N wc h hN
            generalize had : RI.Admit m next N = ad at *
            have Had := Lib.hid had
            clear had
            go_wp2_with fail
            refine hA.mono ?_
            rintro e w' ⟨rfl, q1, rfl⟩
            clear hA
            go_wp2_with fail
            refine (RI.next_any b g m next win _ (h.drewN q1)).mono ?_
            rintro e w' ⟨rfl, rfl⟩
            have h0 := h.drewN q1
            have ha0 : Hid (Arr (wc.drewN q1) m bt bw next win) := Ha.out.kept rfl rfl
            have HF0 : Hid (Frm (fun _ => False) w (wc.drewN q1)) := HF.out.drewN q1
            have e0 : (wc.drewN q1).cell? ⟨ga, o + k * 3, none⟩ = some (.int .i64 D) := d0
            have e1 : (wc.drewN q1).cell? ⟨ga, o + k * 3 + 1, none⟩ = some (.int .i64 N) := d1
            have e2 : (wc.drewN q1).cell? ⟨ga, o + k * 3 + 2, none⟩ = some (.int .i64 X) := d2
            have hadd : (ad != ad) = false := by simp
            go_upto_block 2 with fail
            clear h Ha HF d0 d1 d2
            generalize wc.drewN q1 = w0 at *
            have hlie : (∀ q, q = b ∨ q = g ∨ q = bt ∨ q = bw → w.heap.size ≤ q) ∧ bt ≠ bw ∧ b ≠ bt ∧ b ≠ bw ∧ g ≠ bt ∧ g ≠ bw ∧ ga ≠ b ∧ ga ≠ g ∧ ga ≠ bt ∧ ga ≠ bw := by
              have h1 := HL.out; have h2 := Hcs.out.2.2.2; unfold OLies at h1
              refine ⟨fun q hq => ?_, ?_⟩ <;> omega
            have Hlie := Lib.hid hlie
            clear hlie
            go_cut [7] (fun t wc => ∃ next2 : Nat, t = .int .i64 next2 ∧ ORel w m b g bt bw (k + 1) next2 wc)
            case first =>
              by_cases hD0 : D = 0
              · subst hD0
                have HP := Lib.hid fun (W : World) (hW : RI.RAt W b g m next win) => put_all b g m next win N X W hW hN
                cases ad with
                | false =>
                  have hT : putT m next win N = false := by
                    have h1 : RI.Admit m next N = false := Had.out
                    unfold RI.Admit at h1
                    unfold putT; rw [h1]; rfl
                  have HT := Lib.hid hT
                  clear hT
                  go_wp2_with fail
                  refine (HP.out w0 h0).mono ?_
                  rintro e w2 ⟨rfl, h1, hF1⟩
                  rw [HT.out]
                  have h1' : RI.RAt w2 b g m next win := by unfold putN at h1; rw [HT.out, if_neg (by decide)] at h1; exact h1
                  have HX := Lib.hid (And.intro h1' hF1)
                  clear h1 h1' hF1 h0
                  go_wp2_with fail
                  go_meet
                  case rel =>
                    obtain ⟨h1, hF1⟩ := HX.out
                    have hs := ha0.out.size
                    exact ⟨next, rfl, win, h1, ha0.out.kept (hF1.block _ hs.1 (by have := Hlie.out.2; omega)) (hF1.block _ hs.2 (by have := Hlie.out.2; omega)), by omega, HF0.out.trans hF1 (fun q hq => .inr (Hlie.out.1 q (by rcases hq with h | h; exact .inl h; exact .inr (.inl h))))⟩
                | true =>
                  have h1 : (next : Int) ≤ N ∧ N < next + m := by have := Had.out; unfold RI.Admit at this; exact of_decide_eq_true this
                  obtain ⟨i, hi⟩ := Int.eq_ofNat_of_zero_le (show 0 ≤ N - next by omega)
                  obtain ⟨nn, rfl⟩ := Int.eq_ofNat_of_zero_le (show 0 ≤ N by omega)
                  have hni : nn = next + i := by omega
                  have him : i < m := by omega
                  have hit : ((nn : Int) - (next : Int)).toNat = i := by omega
                  have hn120 : nn < 120 := by omega
                  have hcb : w0.cell? ⟨bt, nn, none⟩ = some (.bool (win i).isSome) := by
                    obtain ⟨cs, es, q1, q2, q3, _⟩ := ha0.out
                    rw [q1.cell, hni, q3 (next + i) (by omega), thB_in him]
                  cases hw : win i with
                  | some y =>
                    rw [hw] at hcb
                    simp only [Option.isSome_some] at hcb
                    have hT : putT m next win (nn : Int) = false := by unfold putT; rw [hit, hw]; simp
                    have HT := Lib.hid hT
                    clear hT hni hi hw hit
                    go_wp2_with fail
                    refine (HP.out w0 h0).mono ?_
                    rintro e w2 ⟨rfl, h1, hF1⟩
                    rw [HT.out]
                    have h1' : RI.RAt w2 b g m next win := by unfold putN at h1; rw [HT.out, if_neg (by decide)] at h1; exact h1
                    have HX := Lib.hid (And.intro h1' hF1)
                    clear h1 h1' hF1 h0 hcb
                    go_wp2_with fail
                    go_meet
                    case rel =>
                      obtain ⟨h1, hF1⟩ := HX.out
                      have hs := ha0.out.size
                      exact ⟨next, rfl, win, h1, ha0.out.kept (hF1.block _ hs.1 (by have := Hlie.out.2; omega)) (hF1.block _ hs.2 (by have := Hlie.out.2; omega)), by omega, HF0.out.trans hF1 (fun q hq => .inr (Hlie.out.1 q (by rcases hq with h | h; exact .inl h; exact .inr (.inl h))))⟩
                  | none =>
                    rw [hw] at hcb
                    simp only [Option.isSome_none] at hcb
                    have hT : putT m next win (nn : Int) = true := by unfold putT; rw [hit, hw]; simp; omega
                    have HT := Lib.hid (And.intro hT (And.intro hit hni))
                    clear hT hni hi hw hit
                    go_wp2_with fail
                    refine (HP.out w0 h0).mono ?_
                    rintro e w2 ⟨rfl, h1, hF1⟩
                    rw [HT.out.1]
                    have h1' : RI.RAt w2 b g m next (RI.putW win i X) := by unfold putN at h1; rw [HT.out.1, if_pos rfl, HT.out.2.1] at h1; exact h1
                    have hs := ha0.out.size
                    have ha1 := ha0.out.kept (hF1.block _ hs.1 (by have := Hlie.out.2; omega)) (hF1.block _ hs.2 (by have := Hlie.out.2; omega))
                    have e22 := hF1.cell e2 (by have := Hlie.out.2; dsimp only; omega)
                    have hft : w2.frozen? ⟨bt, nn, none⟩ = false ∧ w2.frozen? ⟨bw, nn, none⟩ = false ∧ (∃ z, w2.cell? ⟨bt, nn, none⟩ = some z) ∧ (∃ z, w2.cell? ⟨bw, nn, none⟩ = some z) := by
                      obtain ⟨cs, es, p1, p2, p3, p4, _⟩ := ha1
                      obtain ⟨z, hz⟩ := p4 nn hn120
                      exact ⟨p1.frozen _, p2.frozen _, ⟨_, (p1.cell _).trans (p3 nn hn120)⟩, ⟨_, (p2.cell _).trans hz⟩⟩
                    obtain ⟨f1, f2, ⟨z1, f3⟩, ⟨z2, f4⟩⟩ := hft
                    have hbtw := Hlie.out.2.1
                    have hbtw' := hbtw.symm
                    have hgabt : ga ≠ bt := by have := Hlie.out.2; omega
                    have HX := Lib.hid (And.intro h1' (And.intro hF1 ha1))
                    clear h1 h1' hF1 h0 hcb ha1 hs
                    go_wp2_with fail
                    go_meet
                    case rel =>
                      obtain ⟨h1, hF1, ha1⟩ := HX.out
                      have hl := Hlie.out
                      have hni := HT.out.2.2
                      have ha2 := ha1.put hbtw him (by omega) X
                      rw [← hni] at ha2
                      refine ⟨next, rfl, RI.putW win i X, h1.kept ?_ ?_, ha2, by omega, (((HF0.out.trans hF1 (fun q hq => .inr (hl.1 q (by rcases hq with h | h; exact .inl h; exact .inr (.inl h))))).setCell ⟨bt, nn, none⟩ (.inr (hl.1 bt (by simp))) _).setCell ⟨bw, nn, none⟩ (.inr (hl.1 bw (by simp))) _)⟩
                      · rw [Below.heap_setCell _ _ _ _ (show b ≠ bw by omega), Below.heap_setCell _ _ _ _ (show b ≠ bt by omega)]
                      · rw [Below.heap_setCell _ _ _ _ (show g ≠ bw by omega), Below.heap_setCell _ _ _ _ (show g ≠ bt by omega)]
              · have hb0 : (D == 0) = false := by simpa using hD0
                by_cases hD1 : D = 1
                · subst hD1
                  have hn120 : next < 120 := by omega
                  have hm1 := h0.room.1
                  have hcb : w0.cell? ⟨bt, next, none⟩ = some (.bool (win 0).isSome) := by
                    obtain ⟨cs, es, q1, q2, q3, _⟩ := ha0.out
                    have := thB_in (next := next) (win := win) (show 0 < m by omega)
                    rw [Nat.add_zero] at this
                    rw [q1.cell, q3 next (by omega), this]
                  have hs := ha0.out.size
                  cases hw : win 0 with
                  | none =>
                    rw [hw] at hcb
                    simp only [Option.isSome_none] at hcb
                    have HH := Lib.hid (And.intro h0 hw)
                    clear h0 hw
                    go_wp2_with fail
                    refine (RI.take_no b g m next win w0 HH.out.1 HH.out.2).mono ?_
                    rintro e w' ⟨rfl, q2, rfl⟩
                    go_wp2_with fail
                    go_meet
                    case rel => exact ⟨next, rfl, win, HH.out.1.drewN _, ha0.out.kept rfl rfl, by omega, HF0.out.drewN _⟩
                  | some x =>
                    rw [hw] at hcb
                    simp only [Option.isSome_some] at hcb
                    have hwc : w0.cell? ⟨bw, next, none⟩ = some (.int .i64 x) := by
                      obtain ⟨cs, es, q1, q2, q3, q4, q5⟩ := ha0.out
                      exact (q2.cell _).trans (q5 0 x (by omega) hw)
                    have HH := Lib.hid (And.intro h0 hw)
                    clear h0 hw
                    go_wp2_with fail
                    refine (RI.take_ok b g m next win x w0 HH.out.1 HH.out.2 (by omega)).mono ?_
                    rintro e w2 ⟨rfl, h1, hF1⟩
                    have ha1 := ha0.out.kept (hF1.block _ hs.1 (by have := Hlie.out.2; omega)) (hF1.block _ hs.2 (by have := Hlie.out.2; omega))
                    have g1 := hF1.cell hcb (by have := Hlie.out.2; dsimp only; omega)
                    have g2 := hF1.cell hwc (by have := Hlie.out.2; dsimp only; omega)
                    have g3 : w2.frozen? ⟨bt, next, none⟩ = false := by obtain ⟨cs, es, p1, _⟩ := ha1; exact p1.frozen _
                    have hxx : (x != x) = false := by simp
                    have HX := Lib.hid (And.intro h1 (And.intro hF1 ha1))
                    clear h1 hF1 hcb hwc ha1
                    unfold RI.ev
                    go_wp2_with fail
                    go_meet
                    case rel =>
                      obtain ⟨h1, hF1, ha1⟩ := HX.out
                      have hl := Hlie.out
                      refine ⟨next + 1, by go_num, RI.takeW m win, h1.kept ?_ ?_, ha1.take hl.2.1 hm1 (by omega), by omega, (HF0.out.trans hF1 (fun q hq => .inr (hl.1 q (by rcases hq with h | h; exact .inl h; exact .inr (.inl h))))).setCell ⟨bt, next, none⟩ (.inr (hl.1 bt (by simp))) _⟩
                      · exact Below.heap_setCell _ _ _ _ (show b ≠ bt by omega)
                      · exact Below.heap_setCell _ _ _ _ (show g ≠ bt by omega)
                · have hb1 : (D == 1) = false := by simpa using hD1
                  have hrelO : InRel w0 m bt bw next win 0 w0 := ⟨by obtain ⟨cs, es, p1, p2, p3, p4, _⟩ := ha0.out; exact ⟨cs, es, p1, p2, Hlie.out.2.1, fun q hq => by rw [p3 q hq, if_neg (by omega)], p4⟩, Frm.refl _ _⟩
                  go_wp2_with fail
                  go_loopw [16, 17] (fun t i wr => ∃ j : Nat, j ≤ 120 ∧ i = .int .i64 j ∧ t = .int .i64 (cnt m next win j) ∧ InRel w0 m bt bw next win j wr) (fun _ i _ => 120 - (intOf i).toNat)
                  case atStart => exact ⟨0, by omega, rfl, rfl, hrelO⟩
                  case round =>
                    clear hrelO
                    obtain ⟨j, hj, rfl, rfl, hrel⟩ := hrel
                    by_cases hj1 : j < 120
                    · have hcj : wr.cell? ⟨bt, j, none⟩ = some (.bool (thB m next win j)) := hrel.cell hj1
                      have hfj := hrel.frozen j
                      have hrelN := hrel.step hj1
                      have hcl := cnt_le (m := m) (next := next) (win := win) j
                      cases ht : thB m next win j with
                      | true =>
                        rw [ht] at hcj
                        have Hn := Lib.hid (And.intro hrelN ht)
                        clear hrelN ht hrel
                        go_wp2_with fail
                        go_roundw
                        case rel => exact ⟨j + 1, by omega, by go_num, by rw [cnt, Hn.out.2, if_pos rfl]; go_num, Hn.out.1⟩
                        case measure => simp [intOf]; omega
                      | false =>
                        rw [ht] at hcj
                        have Hn := Lib.hid (And.intro hrelN ht)
                        clear hrelN ht hrel
                        go_wp2_with fail
                        go_roundw
                        case rel => exact ⟨j + 1, by omega, by go_num, by rw [cnt, Hn.out.2, if_neg (by decide)]; rfl, Hn.out.1⟩
                        case measure => simp [intOf]; omega
                    · obtain rfl : j = 120 := by omega
                      have hc120 : cnt m next win 120 = (RI.numsTo next win m).length := by
                        have := cnt_high (m := m) (next := next) (win := win) (120 - (next + m))
                        rwa [show next + m + (120 - (next + m)) = 120 by omega] at this
                      have hq := hrel.frm
                      have h1 : RI.RAt wr b g m next win := h0.kept (hq.block _ h0.lt.1 (by have := Hlie.out.2; omega)) (hq.block _ h0.lt.2 (by have := Hlie.out.2; omega))
                      have Hr := Lib.hid hrel
                      have Hh := Lib.hid h0
                      clear hq hrel h0
                      go_wp2_with fail
                      refine (RI.clear_eq b g m next win (cnt m next win 120) wr h1 hc120.symm).mono ?_
                      rintro e w2 ⟨rfl, h2, hF2⟩
                      have HX := Lib.hid (And.intro h2 hF2)
                      clear h1 h2 hF2 hc120
                      go_wp2_with fail
                      go_meet
                      case rel =>
                        obtain ⟨h2, hF2⟩ := HX.out
                        have hl := Hlie.out
                        have hs := Hr.out.size
                        refine ⟨next, rfl, fun _ => none, h2, Hr.out.done.kept (hF2.block _ hs.1 (by omega)) (hF2.block _ hs.2 (by omega)), by omega, (HF0.out.trans Hr.out.frm (fun q hq => .inr (hl.1 q (by simp [hq])))).trans hF2 (fun q hq => .inr (by rcases hq with h | h; exact Nat.le_trans (Nat.le_trans HF0.out.size Hr.out.frm.size) h; exact hl.1 q (by simp [h])))⟩
            case rest =>
              obtain ⟨next2, rfl, win2, h2, ha2, hn2, hF2⟩ := hcut
              have hlen := RI.numsTo_len next2 win2 m
              have hm16 := h2.room.2.1
              have HX := Lib.hid (And.intro ha2 hF2)
              clear ha2 hF2 h0 ha0 HF0 e0 e1 e2 hadd
              have hN2 := RI.nums_any b g m next2 win2 wc h2
              have Hh := Lib.hid h2
              clear h2
              go_wp2_with fail
              refine hN2.mono ?_
              rintro e w3 ⟨v, rfl, hv, hF3⟩
              clear hN2
              obtain ⟨A1, n1, c1, rfl, hn1, _⟩ := hv
              rw [List.length_map] at hn1
              have hd : decide (m < n1) = false := by simp; omega
              have hn16 : n1 ≤ 16 := by omega
              have HF3 := Lib.hid hF3
              clear hF3 hn1
              go_wp2_with fail
              go_roundw
              case rel =>
                obtain ⟨ha2, hF2⟩ := HX.out
                have hs := ha2.size
                exact ⟨k + 1, next2, by omega, by go_num, rfl, win2, Hh.out.kept (HF3.out.block _ Hh.out.lt.1 id) (HF3.out.block _ Hh.out.lt.2 id), ha2.kept (HF3.out.block _ hs.1 id) (HF3.out.block _ hs.2 id), hn2, hF2.trans HF3.out (fun _ h => h.elim)⟩
              case measure => simp [intOf]; omega
        · obtain rfl : k = n := by omega
          have HF := Lib.hid hF
          clear hF h ha
          go_wp2_with fail
          refine (wakes_any wr).mono ?_
          rintro e w5 ⟨rfl, hF5⟩
          go_wp2_with fail
          go_ret
          exact ⟨rfl, HF.out.trans hF5 (fun _ h => h.elim)⟩
    · have hmay := Hmay.out w
      rw [show decide (1 ≤ room ∧ room ≤ 16) = false from by simpa using hr] at hmay
      clear Hmay hr
      go_wp2_with fail
      refine hmay.mono ?_
      rintro e w' ⟨rfl, rfl⟩
      clear hmay
      go_wp2_with fail
      refine (wakes_any w).mono ?_
      rintro e w' ⟨rfl, hF⟩
      go_wp2_with fail
      go_ret
      exact ⟨rfl, hF⟩
end Go.Proofs.Ytcdhdpocnjmkmaa
