/- The walk of teasellaw18.BufferEach. -/
import Derived.Test.YtkmammeaidfaaaaTells
namespace Go.Proofs.Ytkmammeaidfaaaa
open Go.RowKit
theorem infoStr : (Try.prog.info? 9).map (fun i => (i.zero, i.size, i.bytes)) = some (some (.string ByteArray.empty), 1, 16) := by kernel_rfl
def mkS (l : List UInt8) : ByteArray := ⟨l.toArray⟩
theorem mkS_size (l : List UInt8) : (mkS l).size = l.length := by simp [mkS, ByteArray.size]
theorem mkS_append (l r : List UInt8) : mkS (l ++ r) = mkS l ++ mkS r := by
  apply ByteArray.ext
  simp [mkS]
/-- The pool, which are in use, what they hold, as the walk has it. -/
def E2 (w0 : World) (b m size gU gH : Nat) (fr : List Nat) (us : List Bool) (dt : List (List UInt8)) (ul : List Bool) (hl : List ByteArray) (wr : World) : Prop :=
  ∃ S, PAt wr S b m size fr us dt ∧ (∀ k, S k → w0.heap.size ≤ k) ∧ ¬ S gU ∧ ¬ S gH ∧ Blk wr gU 4 (ul.map Value.bool).toArray ∧ Blk wr gH 9 (hl.map Value.string).toArray ∧ w0.heap.size ≤ gU ∧ w0.heap.size ≤ gH ∧ Frm (fun _ => False) w0 wr
section
variable {w0 wr w2 : World} {b m size gU gH n : Nat} {fr fr1 : List Nat} {us us1 ul : List Bool} {dt dt1 : List (List UInt8)} {hl : List ByteArray}
theorem E2.same (h : E2 w0 b m size gU gH fr us dt ul hl wr) (hF : Frm (fun _ => False) wr w2) : E2 w0 b m size gU gH fr us dt ul hl w2 := by
  obtain ⟨S, h1, h2, h3, h4, h5, h6, h7, h8, h9⟩ := h
  exact ⟨S, h1.keptF hF, h2, h3, h4, h5.kept hF id, h6.kept hF id, h7, h8, h9.trans hF fun _ h => h.elim⟩
theorem E2.frm (h : E2 w0 b m size gU gH fr us dt ul hl wr) : Frm (fun _ => False) w0 wr := by
  obtain ⟨S, h1, h2, h3, h4, h5, h6, h7, h8, h9⟩ := h
  exact h9
theorem E2.pw (h : E2 w0 b m size gU gH fr us dt ul hl wr) : PW w0 b m size fr us dt wr := by
  obtain ⟨S, h1, h2, h3, h4, h5, h6, h7, h8, h9⟩ := h
  exact ⟨S, h1, h2, h9⟩
theorem E2.step {S : Nat → Prop} (h2 : ∀ k, S k → w0.heap.size ≤ k) (h3 : ¬ S gU) (h4 : ¬ S gH) (h5 : Blk wr gU 4 (ul.map Value.bool).toArray) (h6 : Blk wr gH 9 (hl.map Value.string).toArray) (h7 : w0.heap.size ≤ gU) (h8 : w0.heap.size ≤ gH) (h9 : Frm (fun _ => False) w0 wr)
    (hL : Left S b m size fr1 us1 dt1 wr w2) : E2 w0 b m size gU gH fr1 us1 dt1 ul hl w2 := by
  obtain ⟨S', p1, p2, p3⟩ := hL
  have hs := h9.size
  have l1 := h5.lt
  have l2 := h6.lt
  refine ⟨S', p1, fun k hk => ?_, fun hk => ?_, fun hk => ?_, h5.kept p3 h3, h6.kept p3 h4, h7, h8, h9.trans p3 fun k hk => .inr (h2 k hk)⟩
  · rcases p2 k hk with h | h
    · exact h2 k h
    · omega
  · rcases p2 _ hk with h | h
    · exact h3 h
    · omega
  · rcases p2 _ hk with h | h
    · exact h4 h
    · omega
theorem E2.ne_ (h : E2 w0 b m size gU gH fr us dt ul hl wr) : gU ≠ gH := by
  obtain ⟨S, h1, h2, h3, h4, h5, h6, h7, h8, h9⟩ := h
  exact h5.ne_ h6 (by decide)
theorem E2.setU (h : E2 w0 b m size gU gH fr us dt ul hl wr) (n : Nat) (x : Bool) : E2 w0 b m size gU gH fr us dt (ul.set n x) hl (wr.setCell ⟨gU, n, none⟩ (.bool x)) := by
  have hne := h.ne_
  obtain ⟨S, h1, h2, h3, h4, h5, h6, h7, h8, h9⟩ := h
  exact ⟨S, h1.kept ((Frm.refl (fun k => k = gU) wr).setCell ⟨gU, n, none⟩ (.inl rfl) (.bool x)) (fun k hk e => h3 (e ▸ hk)), h2, h3, h4, by simpa [List.map_set] using h5.set_ n (.bool x), h6.far hne.symm _, h7, h8, h9.setCell ⟨gU, n, none⟩ (.inr h7) _⟩
theorem E2.setH (h : E2 w0 b m size gU gH fr us dt ul hl wr) (n : Nat) (x : ByteArray) : E2 w0 b m size gU gH fr us dt ul (hl.set n x) (wr.setCell ⟨gH, n, none⟩ (.string x)) := by
  have hne := h.ne_
  obtain ⟨S, h1, h2, h3, h4, h5, h6, h7, h8, h9⟩ := h
  exact ⟨S, h1.kept ((Frm.refl (fun k => k = gH) wr).setCell ⟨gH, n, none⟩ (.inl rfl) (.string x)) (fun k hk e => h4 (e ▸ hk)), h2, h3, h4, h5.far hne _, by simpa [List.map_set] using h6.set_ n (.string x), h7, h8, h9.setCell ⟨gH, n, none⟩ (.inr h8) _⟩
theorem E2.cellU (h : E2 w0 b m size gU gH fr us dt ul hl wr) {x : Bool} (hx : ul[n]? = some x) : wr.cell? ⟨gU, n, none⟩ = some (.bool x) ∧ wr.frozen? ⟨gU, n, none⟩ = false := by
  obtain ⟨S, h1, h2, h3, h4, h5, h6, h7, h8, h9⟩ := h
  exact ⟨by rw [h5.cell]; simp [hx], h5.frozen n⟩
theorem E2.cellH (h : E2 w0 b m size gU gH fr us dt ul hl wr) {x : ByteArray} (hx : hl[n]? = some x) : wr.cell? ⟨gH, n, none⟩ = some (.string x) ∧ wr.frozen? ⟨gH, n, none⟩ = false := by
  obtain ⟨S, h1, h2, h3, h4, h5, h6, h7, h8, h9⟩ := h
  exact ⟨by rw [h6.cell]; simp [hx], h6.frozen n⟩
theorem E2.take (h : E2 w0 b m size gU gH (fr ++ [n]) us dt ul hl wr) : Calls Try.prog 12 #[.pointer (some ⟨b, 0, none⟩)] wr fun e w2 => e = .returned (.tuple #[.int .i64 n, .bool true]) ∧ E2 w0 b m size gU gH fr (us.set n true) (dt.set n []) ul hl w2 := by
  obtain ⟨S, h1, h2, h3, h4, h5, h6, h7, h8, h9⟩ := h
  exact (take_ok S b m size n fr us dt wr h1).mono fun e w' ⟨he, hL⟩ => ⟨he, E2.step h2 h3 h4 h5 h6 h7 h8 h9 hL⟩
theorem E2.give (h : E2 w0 b m size gU gH fr us dt ul hl wr) (hu : us[n]? = some true) (hr : fr.length < m) : Calls Try.prog 14 #[.pointer (some ⟨b, 0, none⟩), .int .i64 (n : Int)] wr fun e w2 => e = .returned (.bool true) ∧ E2 w0 b m size gU gH (fr ++ [n]) (us.set n false) (dt.set n []) ul hl w2 := by
  obtain ⟨S, h1, h2, h3, h4, h5, h6, h7, h8, h9⟩ := h
  exact (give_ok S b m size n fr us dt wr h1 hu hr).mono fun e w' ⟨he, hL⟩ => ⟨he, E2.step h2 h3 h4 h5 h6 h7 h8 h9 hL⟩
theorem E2.put {l bs : List UInt8} {K : Nat → Prop} {a : Value} (h : E2 w0 b m size gU gH fr us dt ul hl wr) (hu : us[n]? = some true) (hdl : dt[n]? = some l) (hs : Sl wr K a (bv bs)) (hK : ∀ k, K k → k < wr.heap.size) (hlt : l.length + bs.length ≤ size) :
    Calls Try.prog 16 #[.pointer (some ⟨b, 0, none⟩), .int .i64 (n : Int), a] wr fun e w2 => e = .returned (.bool true) ∧ E2 w0 b m size gU gH fr us (dt.set n (l ++ bs)) ul hl w2 := by
  obtain ⟨S, h1, h2, h3, h4, h5, h6, h7, h8, h9⟩ := h
  exact (put_ok S K b m size n fr us dt l bs a wr h1 hu hdl hs hK hlt).mono fun e w' ⟨he, hL⟩ => ⟨he, E2.step h2 h3 h4 h5 h6 h7 h8 h9 hL⟩
end
/-- Between two deeds. -/
def EBet (w0 : World) (b m size gU gH : Nat) (wr : World) : Prop := ∃ fr us dt, E2 w0 b m size gU gH fr us dt us (dt.map mkS) wr ∧ Inv m fr us ∧ (∀ i : Nat, us[i]? = some false → dt[i]? = some []) ∧ dt.length = m ∧ ∀ l ∈ dt, l.length ≤ size
theorem clean_set {us : List Bool} {dt : List (List UInt8)} (hc : ∀ i : Nat, us[i]? = some false → dt[i]? = some []) (hl : us.length = dt.length) (n : Nat) (x : Bool) : ∀ i : Nat, (us.set n x)[i]? = some false → (dt.set n [])[i]? = some [] := fun i hi => by
  by_cases e : n = i
  · subst e
    rw [List.getElem?_set] at hi ⊢
    simp only [if_true] at hi ⊢
    split at hi
    · rw [if_pos (by omega)]
    · cases hi
  · rw [List.getElem?_set_ne e] at hi ⊢
    exact hc i hi
theorem small_set {dt : List (List UInt8)} {size n : Nat} {l : List UInt8} (h : ∀ l ∈ dt, l.length ≤ size) (hl : l.length ≤ size) : ∀ r ∈ dt.set n l, r.length ≤ size := fun r hr => by
  rcases List.mem_or_eq_of_mem_set hr with h1 | h1
  · exact h r h1
  · subst h1; exact hl
theorem bytesOf_at {us : List Bool} {dt : List (List UInt8)} {k : Nat} {l : List UInt8} {x : Bool} (hc : ∀ i : Nat, us[i]? = some false → dt[i]? = some []) (hl : dt[k]? = some l) (hx : us[k]? = some x) : bytesOf us dt (k : Int) = l := by
  unfold bytesOf inUse
  simp only [Int.toNat_natCast, List.getD, hx, hl, Option.getD_some]
  cases x with
  | true => simp
  | false => have := hc k hx; rw [hl] at this; cases this; simp
theorem inUse_at {us : List Bool} {k : Nat} {x : Bool} (hx : us[k]? = some x) : inUse us (k : Int) = x := by simp [inUse, List.getD, hx]
theorem inUse_far {us : List Bool} {m : Nat} {n : Int} (hl : us.length = m) (h : n < 0 ∨ (m : Int) ≤ n) : inUse us n = false := by
  unfold inUse
  rcases h with h | h
  · rw [decide_eq_false (by omega)]; rfl
  · have : us.length ≤ n.toNat := by omega
    simp [List.getD, this]
theorem liveTo_count (us : List Bool) (k : Nat) (hk : k ≤ us.length) : (liveTo us k).length = (us.take k).count true := by
  induction k with
  | zero => simp [liveTo]
  | succ k ih =>
    have hlt : k < us.length := by omega
    rw [List.take_succ_eq_append_getElem hlt, List.count_append]
    have hg : us.getD k false = us[k] := by simp [List.getD, hlt]
    cases hs : us[k] with
    | true => rw [liveTo_yes (by rw [hg, hs]), List.length_append, ih (by omega)]; simp
    | false => rw [liveTo_no (by rw [hg, hs]), ih (by omega)]; simp
set_option maxRecDepth 100000 in
set_option maxHeartbeats 8000000 in
theorem each_any (many size : Int) (hmany : -9223372036854775808 ≤ many ∧ many ≤ 9223372036854775807) (hsize : -9223372036854775808 ≤ size ∧ size ≤ 9223372036854775807) (A : Option Addr) (n c : Nat) (ds : List (Int × Int × Value × List UInt8)) (w : World) (h : DAt w A n c ds) :
    Calls Try.prog 4 #[.int .i64 many, .int .i64 size, .slice A n c] w fun e w' => e = .returned (.bool true) ∧ Frm (fun _ => False) w w' := by
  have hsm := small_any A n c ds w h
  have H := Lib.hid (And.intro h hsm)
  have hbd : n ≤ c ∧ c ≤ 9223372036854775807 := ⟨h.2.1, h.2.2.1⟩
  obtain ⟨hnc, hcm⟩ := hbd
  clear h hsm
  have HS : Hid (∃ s, s = smallB ds) := ⟨_, rfl⟩
  obtain ⟨s, hs⟩ := HS.out
  have Hs := Lib.hid hs
  rw [← hs] at H
  clear HS hs
  cases s
  · go_enter Try.func4, Try.ntmps4
    go_wp2_with fail
    refine H.out.2.mono ?_
    rintro e w' ⟨rfl, rfl⟩
    go_wp2_with fail
    refine (wakes_any w).mono ?_
    rintro e w' ⟨rfl, hF⟩
    go_wp2_with fail
    go_ret
    exact ⟨rfl, hF⟩
  · have hmay := rmay_any many size
    cases hm : mayB many size with
    | true =>
      have hmm : 1 ≤ many ∧ many ≤ 16 ∧ 1 ≤ size ∧ size ≤ 288 := by simpa [mayB] using hm
      obtain ⟨m, rfl⟩ := Int.eq_ofNat_of_zero_le (show 0 ≤ many by omega)
      obtain ⟨q, rfl⟩ := Int.eq_ofNat_of_zero_le (show 0 ≤ size by omega)
      rw [hm] at hmay
      have Hmay := Lib.hid hmay
      clear hmay hm hmany hsize
      obtain ⟨hm1, hm2, hm3, hm4⟩ := hmm
      obtain ⟨i0, hi, hz0, hz1, hz2⟩ := info_parts infoBl
      obtain ⟨j0, hj, hy0, hy1, hy2⟩ := info_parts infoStr
      have mkB : ∀ w : World, (Instr.makeSlice 44 (.int .i64 m) (.int .i64 m)).run Try.prog w = .ok (.slice (some ⟨w.heap.size, 0, none⟩) m m) (w.alloc (.cells (madeCells #[.bool false] m) 4)) := fun w => by
        have := run_makeSlice (P := Try.prog) w 44 4 i0 _ Try.underlying44 hi hz0 .i64 .i64 m m (by omega) (Int.le_refl _) (by rw [hz1]; simp; omega) (by rw [hz2]; omega) (by omega)
        rw [hz1] at this
        simpa [Value.cells] using this
      have mkT : ∀ w : World, (Instr.makeSlice 50 (.int .i64 m) (.int .i64 m)).run Try.prog w = .ok (.slice (some ⟨w.heap.size, 0, none⟩) m m) (w.alloc (.cells (madeCells #[.string ByteArray.empty] m) 9)) := fun w => by
        have := run_makeSlice (P := Try.prog) w 50 9 j0 _ Try.underlying50 hj hy0 .i64 .i64 m m (by omega) (Int.le_refl _) (by rw [hy1]; simp; omega) (by rw [hy2]; omega) (by omega)
        rw [hy1] at this
        simpa [Value.cells] using this
      clear hi hz0 hz1 hz2 hj hy0 hy1 hy2
      go_enter Try.func4, Try.ntmps4
      go_wp2_with fail
      refine H.out.2.mono ?_
      rintro e w' ⟨rfl, rfl⟩
      go_wp2_with fail
      refine (Hmay.out w).mono ?_
      rintro e w' ⟨rfl, rfl⟩
      clear Hmay
      go_wp2_with fail
      refine (new_ok m q w (by omega) (by omega) (by omega) (by omega)).mono ?_
      rintro e w1 ⟨b, S, rfl, hP, hS, hF1⟩
      have HT : Hid (EBet w b m q w1.heap.size (w1.heap.size + 1) ((w1.alloc (.cells (madeCells #[.bool false] m) 4)).alloc (.cells (madeCells #[.string ByteArray.empty] m) 9))) := Lib.hid (by
        have hF : Frm (fun _ => False) w1 ((w1.alloc (.cells (madeCells #[.bool false] m) 4)).alloc (.cells (madeCells #[.string ByteArray.empty] m) 9)) := ((Frm.refl _ w1).alloc _).alloc _
        have hs := hF1.size
        refine ⟨(List.range m).map (m - 1 - ·), List.replicate m false, List.replicate m [], ⟨S, hP.keptF hF, hS, fun hk => ?_, fun hk => ?_, ?_, ?_, by omega, by omega, hF1.trans hF fun _ h => h.elim⟩, ⟨by simp, by simp [List.count_replicate], nodup_down m, ?_⟩, ?_, by simp, ?_⟩
        · have := hP.lt.2 _ hk; omega
        · have := hP.lt.2 _ hk; omega
        · have := (Blk.new w1 4 (madeCells #[.bool false] m)).alloc (.cells (madeCells #[.string ByteArray.empty] m) 9)
          rw [made_rep] at this
          rw [List.map_replicate, made_rep]
          simpa using this
        · have := Blk.new (w1.alloc (.cells (madeCells #[.bool false] m) 4)) 9 (madeCells #[.string ByteArray.empty] m)
          rw [List.map_replicate, List.map_replicate]
          rw [show mkS [] = ByteArray.empty from rfl]
          rw [made_rep (.string ByteArray.empty)] at this ⊢
          simpa using this
        · intro i hi
          simp at hi
          obtain ⟨j, hj, rfl⟩ := hi
          rw [List.getElem?_replicate, if_pos (by omega)]
        · intro i hi
          rw [List.getElem?_replicate] at hi ⊢
          split at hi
          · rename_i h; rw [if_pos h]
          · cases hi
        · intro l hl; rw [List.eq_of_mem_replicate hl]; simp)
      clear hP hS hF1
      go_wp2_with fail
      clear mkB mkT
      generalize (w1.alloc (.cells (madeCells #[.bool false] m) 4)).alloc (.cells (madeCells #[.string ByteArray.empty] m) 9) = w2 at *
      generalize w1.heap.size + 1 = gH at *
      generalize w1.heap.size = gU at *
      go_loopw [11] (fun i wr => ∃ k : Nat, k ≤ n ∧ i = .int .i64 k ∧ Hid (EBet w b m q gU gH wr)) (fun i _ => n - (intOf i).toNat)
      case atStart => exact ⟨0, Nat.zero_le _, rfl, HT⟩
      case round =>
        clear HT
        obtain ⟨k, hk, rfl, hT⟩ := hrel
        by_cases hlt : k < n
        · obtain ⟨fr, us, dt, hE, hI, hC, hdl, hsz⟩ := hT.out
          obtain ⟨hn, _, _, hds⟩ := H.out.1
          have hkl : k < ds.length := by omega
          obtain ⟨ga, o, rfl, hga, d0, d1, d2, hsl⟩ := hds k hkl
          have hl40 : (ds[k]).2.2.2.length ≤ 400 := by
            have := Hs.out
            simp [smallB] at this
            exact this.1 _ _ _ _ (List.getElem_mem hkl)
          have c0 := hE.frm.cell d0 id
          have c1 := hE.frm.cell d1 id
          have c2 := hE.frm.cell d2 id
          clear hds hn
          generalize ds[k] = d at *
          obtain ⟨D, N, v, l⟩ := d
          dsimp only at c0 c1 c2 d0 d1 d2 hsl hl40
          obtain ⟨A', n', c', rfl, hn', hc', hm', _⟩ := id hsl
          rw [bv_length] at hn'
          have Hd := Lib.hid (And.intro hga (And.intro d1 (And.intro d2 (And.intro hsl hl40))))
          have hn4 : n' ≤ 1000000 := by omega
          have HE := Lib.hid (And.intro hE (And.intro hI (And.intro hC (And.intro hdl hsz))))
          have Hn' := Lib.hid hn'
          clear hga d0 d1 d2 hsl hl40 hn' hkl hE hI hC hdl hsz hT
          go_upto_region 12 with fail
          go_cut [13] (fun t wc => ∃ tt, Hid (inUse us N = tt) ∧ wr = wc ∧ t = .bool tt)
          case first =>
            by_cases h0 : 0 ≤ N
            · obtain ⟨i, rfl⟩ := Int.eq_ofNat_of_zero_le h0
              by_cases him : i < m
              · obtain ⟨x, hx⟩ : ∃ x, us[i]? = some x := ⟨_, List.getElem?_eq_getElem (by have := HE.out.2.1.1; omega)⟩
                have cu := (HE.out.1.cellU hx).1
                have Hx := Lib.hid hx
                have hd0 : decide ((0 : Int) ≤ (i : Int)) = true := by simp
                clear hx
                go_wp2_with fail
                go_meet
                case rel => exact ⟨_, Lib.hid rfl, rfl, by rw [inUse_at Hx.out]⟩
              · have e := inUse_far (n := (i : Int)) HE.out.2.1.1 (.inr (by omega))
                have He := Lib.hid e
                have hd0 : decide ((0 : Int) ≤ (i : Int)) = true := by simp
                clear e
                go_wp2_with fail
                go_meet
                case rel => exact ⟨_, Lib.hid rfl, rfl, by rw [He.out]⟩
            · have e := inUse_far (n := N) HE.out.2.1.1 (.inl (by omega))
              have He := Lib.hid e
              have hd0 : decide ((0 : Int) ≤ N) = false := by simpa using h0
              clear e
              go_wp2_with fail
              go_meet
              case rel => exact ⟨_, Lib.hid rfl, rfl, by rw [He.out]⟩
          case rest =>
            obtain ⟨tt, Htt, rfl, rfl⟩ := hcut
            go_upto_block 2 with fail
            go_cut [] (fun wc => Hid (EBet w b m q gU gH wc))
            case first =>
              by_cases hD0 : D = 0
              · subst hD0
                rcases List.eq_nil_or_concat fr with rfl | ⟨fr, x, rfl⟩
                · go_wp2_with fail
                  refine (HE.out.1.pw.takeNo).mono ?_
                  rintro e w' ⟨rfl, rfl⟩
                  go_wp2_with fail
                  go_meet
                  case rel => exact Lib.hid ⟨_, _, _, HE.out⟩
                · rw [List.concat_eq_append] at HE
                  have hxm : x < m := by
                    have h1 := HE.out.2.1.2.2.2 x (by simp)
                    have h2 := (List.getElem?_eq_some_iff.1 h1).1
                    have := HE.out.2.1.1
                    omega
                  go_wp2_with fail
                  refine (HE.out.1.take).mono ?_
                  rintro e w3 ⟨rfl, h3⟩
                  have hxu := HE.out.2.1.2.2.2 x (by simp)
                  obtain ⟨cu, fu⟩ := h3.cellU hxu
                  obtain ⟨s, hxd⟩ : ∃ s, (dt.map mkS)[x]? = some s := ⟨_, List.getElem?_eq_getElem (by have := HE.out.2.2.2.1; simp; omega)⟩
                  obtain ⟨ch, fh⟩ := h3.cellH hxd
                  have hne := h3.ne_
                  have H3 := Lib.hid (And.intro h3 hxu)
                  clear h3 hxu hxd
                  go_wp2_with fail
                  go_meet
                  case rel => exact Lib.hid ⟨fr, us.set x true, dt.set x [], by
                    have h5 := (H3.out.1.setU x true).setH x ByteArray.empty
                    rw [List.map_set]
                    exact h5, HE.out.2.1.take, clean_set HE.out.2.2.1 (by have := HE.out.2.1.1; have := HE.out.2.2.2.1; omega) x true, by simpa using HE.out.2.2.2.1, small_set HE.out.2.2.2.2 (by simp)⟩
              · have hb0 : (D == 0) = false := by simpa using hD0
                by_cases hD1 : D = 1
                · subst hD1
                  cases tt with
                  | true =>
                    have hu := Htt.out
                    obtain ⟨x, rfl, hxN, hxu⟩ := inUse_nat hu
                    have hxm : x < m := by have h2 := (List.getElem?_eq_some_iff.1 hxu).1; have := HE.out.2.1.1; omega
                    have hroom := HE.out.2.1.room hxu
                    have Hxu := Lib.hid (And.intro hxu hroom)
                    clear hu hxN hxu hroom
                    go_wp2_with fail
                    refine (HE.out.1.give Hxu.out.1 Hxu.out.2).mono ?_
                    rintro e w3 ⟨rfl, h3⟩
                    obtain ⟨cu, fu⟩ := h3.cellU Hxu.out.1
                    obtain ⟨s, hxd⟩ : ∃ s, (dt.map mkS)[x]? = some s := ⟨_, List.getElem?_eq_getElem (by have := HE.out.2.2.2.1; simp; omega)⟩
                    obtain ⟨ch, fh⟩ := h3.cellH hxd
                    have hne := h3.ne_
                    have H3 := Lib.hid h3
                    clear h3 hxd
                    go_wp2_with fail
                    go_meet
                    case rel => exact Lib.hid ⟨fr ++ [x], us.set x false, dt.set x [], by
                      have h5 := (H3.out.setU x false).setH x ByteArray.empty
                      rw [List.map_set]
                      exact h5, HE.out.2.1.give Hxu.out.1, clean_set HE.out.2.2.1 (by have := HE.out.2.1.1; have := HE.out.2.2.2.1; omega) x false, by simpa using HE.out.2.2.2.1, small_set HE.out.2.2.2.2 (by simp)⟩
                  | false =>
                    have Hu := Htt
                    go_wp2_with fail
                    refine (HE.out.1.pw.giveNo Hu.out).mono ?_
                    rintro e w3 ⟨rfl, rfl⟩
                    go_wp2_with fail
                    go_meet
                    case rel => exact Lib.hid ⟨_, _, _, HE.out⟩
                · have hb1 : (D == 1) = false := by simpa using hD1
                  cases tt with
                  | false =>
                    have Hu := Htt
                    go_wp2_with fail
                    go_quiet (fail)
                    go_wp2_with fail
                    refine (put_no' _ N A' n' c' _ (fun k => by have := ((HE.out.1.same ((Frm.refl _ wr).drewN nq)).same ((Frm.refl _ _).drewN k)).pw.has N; rwa [Hu.out] at this)).mono ?_
                    rintro e w3 ⟨rfl, k2, rfl⟩
                    go_wp2_with fail
                    go_meet
                    case rel => exact Lib.hid ⟨_, _, _, HE.out.1.same ((Frm.refl _ wr).drewN (nq + k2)), HE.out.2⟩
                  | true =>
                    have hu := Htt.out
                    obtain ⟨x, rfl, hxN, hxu⟩ := inUse_nat hu
                    have hxm : x < m := by have h2 := (List.getElem?_eq_some_iff.1 hxu).1; have := HE.out.2.1.1; omega
                    obtain ⟨l0, hl0⟩ : ∃ l0, dt[x]? = some l0 := ⟨_, List.getElem?_eq_getElem (by have := HE.out.2.2.2.1; omega)⟩
                    have hl0s : l0.length ≤ q := HE.out.2.2.2.2 l0 (List.mem_of_getElem? hl0)
                    obtain ⟨ch, fh⟩ := HE.out.1.cellH (n := x) (x := mkS l0) (by simp [hl0])
                    have hss := mkS_size l0
                    have Hx := Lib.hid (And.intro hxu (And.intro hl0 (And.intro hss hl0s)))
                    have hsb : (mkS l0).size ≤ 288 := by omega
                    clear hu hxN hxu hl0 hss hl0s
                    generalize hsm : mkS l0 = s0 at *
                    have Hsm := Lib.hid hsm
                    clear hsm
                    have hn4' : n' ≤ 400 := by have := Hn'.out; have := Hd.out.2.2.2.2; omega
                    have hsum : IntKind.i64.wrap ((s0.size : Int) + (n' : Int)) = (s0.size : Int) + (n' : Int) := IntWalk.i64_in _ (by omega)
                    have hd00 : decide ((0 : Int) ≤ (x : Int)) = true := by simp
                    by_cases hfit : (s0.size : Int) + (n' : Int) ≤ (q : Int)
                    · have hd : decide ((s0.size : Int) + (n' : Int) ≤ (q : Int)) = true := by simpa using hfit
                      go_wp2_with fail
                      go_quiet (fail)
                      go_wp2_with fail
                      refine ((HE.out.1.same ((Frm.refl _ wr).drewN nq)).put (K := fun k => k < w.heap.size) (bs := l) Hx.out.1 Hx.out.2.1 (Hd.out.2.2.2.1.keptTo fun k hk => ⟨HE.out.1.frm.block k hk id, hk⟩) (fun k hk => Nat.lt_of_lt_of_le hk HE.out.1.frm.size) (by have := Hx.out.2.2.1; have := Hn'.out; omega)).mono ?_
                      rintro e w3 ⟨rfl, h3⟩
                      have c23 := h3.frm.cell Hd.out.2.2.1 id
                      obtain ⟨ch3, fh3⟩ := h3.cellH (n := x) (x := s0) (by simp [Hx.out.2.1, Hsm.out])
                      have hcv : (convert 32 9 (.slice A' n' c')).run Try.prog w3.drew = .ok (.string ⟨l.toArray⟩) w3.drew := run_conv (P := Try.prog) (dst := 9) Try.underlying32 Try.underlying5 Try.underlying9 (w := w3.drew) (K := fun k => k < w.heap.size) (Hd.out.2.2.2.1.keptTo fun k hk => ⟨h3.frm.block k hk id, hk⟩)
                      have H3 := Lib.hid h3
                      have Hfit := Lib.hid hfit
                      clear h3 ch fh c0 c1 c2 hfit
                      go_upto_region 18 with fail
                      have hcat : ¬ (9223372036854775807 < s0.size + l.length) := by have := Hn'.out; omega
                      go_region
                      all_goals
                        go_wp2_with fail
                        go_meet
                        case rel => exact Lib.hid ⟨fr, us, dt.set x (l0 ++ l), by
                          have h5 := (H3.out.setH x (s0 ++ ⟨l.toArray⟩)).same ((Frm.refl _ _).drewN 1)
                          rw [List.map_set, mkS_append, Hsm.out]
                          exact h5, HE.out.2.1, fun i hi => by
                            rw [List.getElem?_set_ne (by rintro rfl; have := Hx.out.1; rw [this] at hi; cases hi)]
                            exact HE.out.2.2.1 i hi, by simpa using HE.out.2.2.2.1, small_set HE.out.2.2.2.2 (by have := Hx.out.2.2.1; have := Hn'.out; have := Hfit.out; simp; omega)⟩
                    · have hd : decide ((s0.size : Int) + (n' : Int) ≤ (q : Int)) = false := by simpa using hfit
                      go_wp2_with fail
                      go_quiet (fail)
                      go_wp2_with fail
                      refine (put_full HE.out.1.choose b m q x fr us dt l0 A' n' c' _ (HE.out.1.choose_spec.1.drewN nq) Hx.out.1 Hx.out.2.1 (by have := Hx.out.2.2.1; omega) hn4).mono ?_
                      rintro e w3 ⟨rfl, k2, rfl⟩
                      go_wp2_with fail
                      go_meet
                      case rel => exact Lib.hid ⟨_, _, _, HE.out.1.same ((Frm.refl _ wr).drewN (nq + k2)), HE.out.2⟩
            case rest =>
              clear HE c0 c1 c2
              obtain ⟨fr2, us2, dt2, hE, hI, hC, hdl, hsz⟩ := hcut.out
              have HE := Lib.hid (And.intro hE (And.intro hI (And.intro hC (And.intro hdl hsz))))
              clear hE hI hC hdl hsz hcut
              go_wp2_with fail
              go_loopw [17, 18] (fun lv i wq => ∃ j : Nat, j ≤ m ∧ i = .int .i64 j ∧ lv = .int .i64 ((us2.take j).count true : Nat) ∧ Hid (Frm (fun _ => False) wc wq)) (fun _ i _ => m - (intOf i).toNat)
              case atStart => exact ⟨0, Nat.zero_le _, rfl, by simp, Lib.hid (Frm.refl _ _)⟩
              case round =>
                obtain ⟨j, hj, rfl, rfl, hF⟩ := hrel
                by_cases hjm : j < m
                · have hul : us2.length = m := HE.out.2.1.1
                  have hdlen : dt2.length = m := HE.out.2.2.2.1
                  obtain ⟨x, hx⟩ : ∃ x, us2[j]? = some x := ⟨_, List.getElem?_eq_getElem (by omega)⟩
                  obtain ⟨lj, hlj⟩ : ∃ lj, dt2[j]? = some lj := ⟨_, List.getElem?_eq_getElem (by omega)⟩
                  have hEr := HE.out.1.same hF.out
                  have cu := (hEr.cellU hx).1
                  have ch := (hEr.cellH (n := j) (x := mkS lj) (by simp [hlj])).1
                  have hby := bytesOf_at HE.out.2.2.1 hlj hx
                  have hct : (us2.take (j + 1)).count true = (us2.take j).count true + (if x then 1 else 0) := by
                    obtain ⟨p1, p2⟩ := List.getElem?_eq_some_iff.1 hx
                    rw [List.take_succ_eq_append_getElem p1, List.count_append, p2]
                    cases x <;> simp
                  have hcl : (us2.take j).count true ≤ j := Nat.le_trans (List.count_le_length ..) (by simp; omega)
                  have Hx := Lib.hid (And.intro hEr (And.intro hby hct))
                  clear hEr hby hct hx hlj hul hdlen
                  generalize hcn : (us2.take j).count true = cn at *
                  have Hcn := Lib.hid hcn
                  clear hcn
                  generalize hsj : mkS lj = sj at *
                  have Hsj := Lib.hid hsj
                  clear hsj
                  cases x
                  all_goals
                    go_wp2_with fail
                    go_region_held (fun w' => w'.cell? ⟨gH, j, none⟩ = some (.string sj)) (first | exact ch | exact ch3)
                      ((go_at_call 22; refine ((Hx.out.1.pw.same ((Frm.refl _ wr).drewN 1)).dataAll (j : Int)).mono ?_; rintro e w3 ⟨v3, rfl, hv3, hF3⟩; have ch3 := hF3.cell (a := ⟨gH, j, none⟩) (by exact ch) id; rw [Hx.out.2.1] at hv3; have hcv := run_conv (P := Try.prog) (dst := 9) Try.underlying32 Try.underlying5 Try.underlying9 (OSl.of_own (K := fun _ => True) hv3 (fun _ _ => trivial)).sl; rw [show (⟨lj.toArray⟩ : ByteArray) = sj from Hsj.out] at hcv))
                    all_goals
                      go_wp2_with fail
                      go_roundw
                      case rel => exact ⟨j + 1, by omega, by go_num, by have h1 := Hx.out.2.2; have h2 := Hcn.out; simp only [Bool.false_eq_true, if_false, if_true] at h1; congr 1; omega, Lib.hid (hF.out.trans (((Frm.refl (fun _ => False) wr).drewN 1).trans hF3 fun _ h => h.elim) fun _ h => h.elim)⟩
                      case measure => simp [intOf]; omega
                · obtain rfl : j = m := by omega
                  have hul : us2.length = j := HE.out.2.1.1
                  have htk : us2.take j = us2 := List.take_of_length_le (by omega)
                  rw [htk]
                  have hlc := liveTo_count us2 j (by omega)
                  rw [htk] at hlc
                  have hcnt := HE.out.2.1.2.1
                  have hEr := Lib.hid (HE.out.1.same hF.out)
                  have Hlc := Lib.hid (And.intro hlc hul)
                  clear htk hlc hul
                  have hfl : fr2.length ≤ 16 := by omega
                  have hsub : IntKind.i64.wrap ((j : Int) - (us2.count true : Int)) = (j : Int) - (us2.count true : Int) := IntWalk.i64_in _ (by omega)
                  have hne : ((fr2.length : Int) != (j : Int) - (us2.count true : Int)) = false := by simp; omega
                  generalize hcn : us2.count true = cn at *
                  have Hcn := Lib.hid hcn
                  generalize hfn : fr2.length = fn at *
                  have Hfn := Lib.hid hfn
                  clear hcn hfn hcnt
                  go_wp2_with fail
                  refine (hEr.out.pw.live).mono ?_
                  rintro e w3 ⟨v3, rfl, hv3, hF3⟩
                  rw [Hlc.out.1] at hv3
                  obtain ⟨A3, c3, rfl, -, -⟩ := own_form hv3
                  have hE3 := Lib.hid (hEr.out.same hF3)
                  clear hv3 hF3
                  go_wp2_with fail
                  refine (hE3.out.pw.free Hfn.out).mono ?_
                  rintro e w' ⟨rfl, rfl⟩
                  go_wp2_with fail
                  go_roundw
                  case rel => exact ⟨k + 1, by omega, by go_num, Lib.hid ⟨_, _, _, hE3.out, HE.out.2⟩⟩
                  case measure => simp [intOf]; omega
        · obtain rfl : k = n := by omega
          obtain ⟨fr, us, dt, hE, _⟩ := hT.out
          have hfr := Lib.hid hE.frm
          clear hT hE
          go_wp2_with fail
          refine (wakes_any wr).mono ?_
          rintro e w5 ⟨rfl, hF5⟩
          go_wp2_with fail
          go_ret
          exact ⟨rfl, hfr.out.trans hF5 (fun _ h => h.elim)⟩
    | false =>
      rw [hm] at hmay
      have Hmay := Lib.hid hmay
      clear hmay hm
      go_enter Try.func4, Try.ntmps4
      go_wp2_with fail
      refine H.out.2.mono ?_
      rintro e w' ⟨rfl, rfl⟩
      go_wp2_with fail
      refine (Hmay.out w).mono ?_
      rintro e w' ⟨rfl, rfl⟩
      go_wp2_with fail
      refine (wakes_any w).mono ?_
      rintro e w' ⟨rfl, hF⟩
      go_wp2_with fail
      go_ret
      exact ⟨rfl, hF⟩
theorem dummy : True := trivial
end Go.Proofs.Ytkmammeaidfaaaa
