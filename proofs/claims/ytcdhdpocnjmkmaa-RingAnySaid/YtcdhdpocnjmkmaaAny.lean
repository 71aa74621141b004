/- The walk of teasellaw22.RingAny. -/
import Derived.Test.YtcdhdpocnjmkmaaWk
import Derived.Test.YtcdhdpocnjmkmaaLaw
import Derived.BigRegion
import Derived.Deep.DeepCutAuto
import Derived.Deep.CutBlock
namespace Go.Proofs.Ytcdhdpocnjmkmaa
open Go.RowKit Go.Shelf
def nv (j : Nat) : Value := .int .i64 j
/-- The row of numbers: its block g0 holds ps from its head on. -/
def Row (w wr : World) (g0 m : Nat) (ps : List Nat) : Prop := ∃ cur, Blk wr g0 3 cur ∧ w.heap.size ≤ g0 ∧ ps.length = m ∧ ps.Perm (List.range m) ∧ ∀ j (h : j < ps.length), cur[j]? = some (nv ps[j])
theorem Row.kept {w wr wr' : World} {g0 m : Nat} {ps : List Nat} (h : Row w wr g0 m ps) (hf : wr'.heap[g0]? = wr.heap[g0]?) : Row w wr' g0 m ps := by
  obtain ⟨cur, h1, rest⟩ := h
  exact ⟨cur, hf.trans h1, rest⟩
theorem Row.swap {w wr : World} {g0 m p q : Nat} {ps : List Nat} (h : Row w wr g0 m ps) (hp : p < ps.length) (hq : q < ps.length) :
    Row w ((wr.setCell ⟨g0, p, none⟩ (nv ps[q])).setCell ⟨g0, q, none⟩ (nv ps[p])) g0 m ((ps.set p ps[q]).set q ps[p]) := by
  obtain ⟨cur, h1, h2, h3, h4, h5⟩ := h
  have l1 : p < cur.size := (Array.getElem?_eq_some_iff.1 (h5 p hp)).1
  have l2 : q < cur.size := (Array.getElem?_eq_some_iff.1 (h5 q hq)).1
  refine ⟨_, (h1.set_ _ _).set_ _ _, h2, by simpa using h3, (List.set_set_perm hp hq).trans h4, fun j hj => ?_⟩
  simp only [List.length_set] at hj
  rw [Array.getElem?_setIfInBounds, Array.getElem?_setIfInBounds]
  simp only [List.getElem_set, Array.size_setIfInBounds]
  by_cases hjq : q = j
  · subst hjq; simp [l2]
  · simp only [if_neg hjq]
    by_cases hjp : p = j
    · subst hjp; simp [l1]
    · simp only [if_neg hjp]; exact h5 j hj
theorem nums_put {m next i : Nat} {win : Nat → Option ByteArray} (x : ByteArray) (hw : win i = none) : ∀ k, (RS.numsTo next (RS.putW win i x) k).length = (RS.numsTo next win k).length + if i < k then 1 else 0
  | 0 => by simp [RS.numsTo]
  | k + 1 => by
    have ih := nums_put (m := m) (next := next) x hw k
    by_cases hik : k = i
    · subst hik
      rw [RS.numsTo_yes (by simp [RS.putW]), RS.numsTo_no (win := win) (by rw [hw]; rfl), List.length_append, ih, if_neg (by omega), if_pos (by omega)]; rfl
    · have he : RS.putW win i x k = win k := by simp [RS.putW, hik]
      cases hs : (win k).isSome with
      | true => rw [RS.numsTo_yes (by rw [he]; exact hs), RS.numsTo_yes hs, List.length_append, List.length_append, ih]; split <;> split <;> simp <;> omega
      | false => rw [RS.numsTo_no (by rw [he]; exact hs), RS.numsTo_no hs, ih]; split <;> split <;> omega
/-- The first i of ps are in the ring, each with its name. -/
def PutRel (w : World) (s : ByteArray) (ps : List Nat) (m b g g0 i : Nat) (wr : World) : Prop :=
  ∃ win, RS.RAt wr b g m 0 win ∧ Row w wr g0 m ps ∧ (∀ j, j < m → win j = if j ∈ ps.take i then some (s.extract j (j + 1)) else none) ∧ (RS.numsTo 0 win m).length = i ∧ Frm (fun q => q = b ∨ q = g) w wr
/-- The first i are taken. -/
def TakeRel (w : World) (s : ByteArray) (m b g i : Nat) (wr : World) : Prop :=
  ∃ win, RS.RAt wr b g m i win ∧ (∀ j, j < m → win j = if i + j < m then some (s.extract (i + j) (i + j + 1)) else none) ∧ Frm (fun q => q = b ∨ q = g) w wr
theorem PutRel.all {w wr : World} {s : ByteArray} {ps : List Nat} {m b g g0 : Nat} (h : PutRel w s ps m b g g0 m wr) : TakeRel w s m b g 0 wr := by
  obtain ⟨win, h1, ⟨cur, _, _, h3, h4, _⟩, h5, _, hF⟩ := h
  refine ⟨win, h1, fun j hj => ?_, hF⟩
  rw [h5 j hj, List.take_of_length_le (by omega), Nat.zero_add, if_pos hj, if_pos]
  exact h4.mem_iff.2 (List.mem_range.2 hj)
def sNames : ByteArray := ⟨#[97, 98, 99, 100, 101, 102, 103, 104, 105, 106, 107, 108, 109, 110, 111, 112, 113]⟩
set_option maxRecDepth 100000 in
set_option maxHeartbeats 4000000 in
theorem any_any (room : Int) (v1 : Value) (qs : List Int) (hqs : ∀ n ∈ qs, (Lit.int .i64 n).wf = true) (w : World) (h : Sl w (fun k => k < w.heap.size) v1 (qs.map (Value.int .i64))) :
    Calls Try.prog 5 #[.int .i64 room, v1] w fun e w' => e = .returned (.bool true) ∧ Frm (fun _ => False) w w' := by
  obtain ⟨A, n, c, rfl, hn, hc, hm, hx⟩ := h
  rw [List.length_map] at hn
  have Ho := Lib.hid (And.intro hn (And.intro hx hqs))
  have hmay := fun W => may_any room W
  have Hmay := Lib.hid hmay
  clear hmay hn hx hqs
  obtain ⟨iI, hiI, hz0, hz1, hz2⟩ := info_parts infoI
  go_enter Try.func5, Try.ntmps5
  by_cases h40 : (40 : Int) < (n : Int)
  · go_wp2_with fail
    refine (wakes_any w).mono ?_
    rintro e w' ⟨rfl, hF⟩
    go_wp2_with fail
    go_ret
    exact ⟨rfl, hF⟩
  · by_cases hr : 1 ≤ room ∧ room ≤ 16
    · obtain ⟨m, rfl⟩ := Int.eq_ofNat_of_zero_le (show 0 ≤ room by omega)
      have hmay := Hmay.out w
      rw [show decide (1 ≤ (m : Int) ∧ (m : Int) ≤ 16) = true from by simpa using hr] at hmay
      have hm1 : 1 ≤ m ∧ m ≤ 16 := by omega
      clear hr
      go_wp2_with fail
      refine hmay.mono ?_
      rintro e w' ⟨rfl, rfl⟩
      clear hmay Hmay
      go_wp2_with fail
      refine (RS.new_ok m w hm1.1 hm1.2).mono ?_
      rintro e w1 ⟨rfl, h1, hF⟩
      have H1 := Lib.hid (And.intro h1 hF)
      clear h1 hF
      obtain ⟨hm1, hm2⟩ := hm1
      generalize hb : w.heap.size + 1 = b at *
      generalize hg : w.heap.size = g at *
      have HB := Lib.hid (And.intro hb hg)
      clear hb hg
      go_upto_region 6 with fail
      go_cut [7] (fun t wc => wc = w1 ∧ ∃ s : ByteArray, s.size = 17 ∧ t = .string s)
      case first =>
        go_wp2_with fail
        go_meet
        case rel => exact ⟨rfl, sNames, rfl, rfl⟩
      case rest =>
        obtain ⟨rfl, s, hs, rfl⟩ := hcut
        go_wp2_with fail
        go_loopw [8, 9] (fun t i wr => ∃ k : Nat, k ≤ m ∧ i = .int .i64 k ∧ wr.ownsRow wc.heap.size 3 1 t k ((List.range k).map nv) ∧ Frm (fun _ => False) wc wr) (fun _ i _ => m - (intOf i).toNat)
        case atStart => exact ⟨0, Nat.zero_le _, rfl, World.ownsRow_nil _ _ _ _, Frm.refl _ _⟩
        case round =>
          obtain ⟨k, hk, rfl, hown, hF⟩ := hrel
          by_cases hlt : k < m
          · have hz := hF.size
            have hts : (List.range (k + 1)).map nv = (List.range k).map nv ++ [.int .i64 k] := by rw [List.range_succ, List.map_append]; rfl
            have Ht := Lib.hid hts
            clear hts
            go_wp2_with (at_builtin; refine wpList_append_sl (by rfl) _ _ 40 (by rfl) wc.heap.size 3 iI (.int .i64 0) 8 Try.underlying40 hiI hz0 hz1 hz2 (by rfl) _ k _ (by rfl) (hown.alloc _) (fun q => q = wr.heap.size) _ [.int .i64 k] (by rfl) (Sl.blk1 wr _ _) (by simp [Value.oneCell']) (by unfold maxLen; simp; omega) (by simp; omega) (by simp; omega) ?_; intro A1 N1 c1 w1 HN hNc1 hc1 hown1 hg1 hat1)
            go_roundw
            case rel => exact ⟨k + 1, by omega, by go_num, by have := HN.out; simp only [List.length_singleton] at this; subst this; rw [Ht.out]; exact hown1, (hF.alloc _).grown hg1 fun q hq => .inr (hown.lt q hq).1⟩
            case measure => simp [intOf]; omega
          · obtain rfl : k = m := by omega
            rcases hown.2 with ⟨_, h0⟩ | ⟨g0, c0, cur, rfl, hbg, hcur, hkc, hcm0, hsz, htk⟩
            · omega
            have hrow0 : Row wc wr g0 k (List.range k) := ⟨cur, hcur, hbg, by simp, List.Perm.refl _, fun j hj => by
              have h3 : (cur.toList.take (k * 1))[j]? = some (nv (List.range k)[j]) := by rw [htk]; simp at hj; simp [hj]
              rw [List.getElem?_take] at h3
              split at h3
              · rw [Array.getElem?_toList] at h3; exact h3
              · cases h3⟩
            have hg0 : g0 < wr.heap.size := lt_heap hcur
            have HF := Lib.hid hF
            unfold maxLen at hcm0
            clear hown hcur hsz htk hF
            go_wp2_with fail
            generalize hwr : wr = w2 at *
            clear hwr
            go_loopw [10] (fun i wr => ∃ (k' : Nat) (ps : List Nat), k' ≤ n ∧ i = .int .i64 k' ∧ Row wc wr g0 k ps ∧ Frm (fun _ => False) wc wr) (fun i _ => n - (intOf i).toNat)
            case atStart => exact ⟨0, _, Nat.zero_le _, rfl, hrow0, HF.out⟩
            case round =>
              clear hrow0
              obtain ⟨i, ps, hi, rfl, hrow, hF⟩ := hrel
              by_cases hin : i < n
              · obtain ⟨ga, oa, rfl, hga, hcs⟩ := Ho.out.2.1.resolve_left (by omega)
                have hiq : i < qs.length := by have := Ho.out.1; omega
                have hcx : w.cell? ⟨ga, oa + i, none⟩ = some (.int .i64 qs[i]) := by rw [hcs i (by simpa using hiq)]; simp
                have hxw := i64_range (Ho.out.2.2 qs[i] (List.getElem_mem hiq))
                have hcx1 : wr.cell? ⟨ga, oa + i, none⟩ = some (.int .i64 qs[i]) := hF.cell (H1.out.2.cell hcx id) id
                clear hcs hcx
                generalize qs[i] = x at *
                obtain ⟨hx1, hx2⟩ := hxw
                have hrl : (0 : Int) ≤ Int.tmod x k + k ∧ Int.tmod x k + k ≤ 32 := by
                  have h1 := Int.tmod_lt_of_pos x (show (0 : Int) < k by omega)
                  have h2 := Int.lt_tmod_of_pos x (show (0 : Int) < k by omega)
                  omega
                have hmz : ((k : Int) == 0) = false := by simp; omega
                have Hr := Lib.hid hrow
                have HF2 := Lib.hid hF
                clear hrow hF
                go_upto_region 15 with fail
                go_cut [11, 12] (fun a b2 wd => ∃ nq p q : Nat, wd = wr.drewN nq ∧ p < k ∧ q < k ∧ a = .int .i64 p ∧ b2 = .int .i64 q)
                case first =>
                  have H1' : IntKind.i64.wrap (Int.tmod x k + k) = Int.tmod x k + k := IntWalk.i64_in _ (by omega)
                  go_wp2_with fail
                  go_quiet (fail)
                  go_wp2_with fail
                  go_meet
                  case rel =>
                    have h3 := Int.emod_nonneg (Int.tmod x k + k) (show (k : Int) ≠ 0 by omega)
                    have h4 := Int.emod_lt_of_pos (Int.tmod x k + k) (show (0 : Int) < k by omega)
                    exact ⟨nq, i % k, ((Int.tmod x k + k) % k).toNat, rfl, Nat.mod_lt _ (by omega), by omega, by simp, by rw [Int.toNat_of_nonneg h3]⟩
                case rest =>
                  obtain ⟨nq, p, q, rfl, hp, hq, rfl, rfl⟩ := hcut
                  have hpl : p < ps.length := by obtain ⟨_, _, _, h, _⟩ := Hr.out; omega
                  have hql : q < ps.length := by obtain ⟨_, _, _, h, _⟩ := Hr.out; omega
                  have hcc : wr.cell? ⟨g0, p, none⟩ = some (nv ps[p]) ∧ wr.cell? ⟨g0, q, none⟩ = some (nv ps[q]) ∧ wr.frozen? ⟨g0, p, none⟩ = false ∧ wr.frozen? ⟨g0, q, none⟩ = false ∧ wc.heap.size ≤ g0 := by
                    obtain ⟨cur, r1, r2, r3, r4, r5⟩ := Hr.out
                    exact ⟨(r1.cell p).trans (r5 p hpl), (r1.cell q).trans (r5 q hql), r1.frozen p, r1.frozen q, r2⟩
                  obtain ⟨cp, cq, fp, fq, hgw⟩ := hcc
                  have hsw := Hr.out.swap hpl hql
                  have Hsw := Lib.hid (And.intro hsw hgw)
                  clear hsw hgw
                  unfold nv at cp cq
                  generalize ps[p] = y1 at *
                  generalize ps[q] = y2 at *
                  by_cases hpq : p = q
                  · subst hpq
                    have hyy : (y1 : Int) = y2 := by rw [cp] at cq; injection cq with h; injection h
                    have hyy' : y1 = y2 := by omega
                    subst hyy'
                    clear hyy
                    go_wp2_with fail
                    go_region
                    all_goals
                      go_wp2_with fail
                      go_roundw
                      case rel => exact ⟨i + 1, _, by omega, by go_num, Hsw.out.1.kept rfl, ((HF2.out.drewN (nq + 1)).setCell ⟨g0, p, none⟩ (.inr Hsw.out.2) _).setCell ⟨g0, p, none⟩ (.inr Hsw.out.2) _⟩
                      case measure => simp [intOf]; omega
                  · have hpq' : q ≠ p := fun e => hpq e.symm
                    go_wp2_with fail
                    go_region
                    all_goals
                      go_wp2_with fail
                      go_roundw
                      case rel => exact ⟨i + 1, _, by omega, by go_num, Hsw.out.1.kept rfl, ((HF2.out.drewN (nq + 1)).setCell ⟨g0, p, none⟩ (.inr Hsw.out.2) _).setCell ⟨g0, q, none⟩ (.inr Hsw.out.2) _⟩
                      case measure => simp [intOf]; omega
              · obtain rfl : i = n := by omega
                have hrow1 := hrow
                have hput0 : PutRel wc s ps k b g g0 0 wr := by
                  obtain ⟨h1, _⟩ := H1.out
                  refine ⟨fun _ => none, h1.kept (hF.block _ h1.lt.1 id) (hF.block _ h1.lt.2 id), hrow, fun j _ => by simp, ?_, hF.mono (fun _ h => h.elim)⟩
                  have : ∀ q, RS.numsTo 0 (fun _ => none) q = [] := fun q => by
                    induction q with
                    | zero => rfl
                    | succ q ih => rw [RS.numsTo_no rfl, ih]
                  rw [this]; rfl
                have hlie : b ≠ g0 ∧ g ≠ g0 ∧ w.heap.size ≤ b ∧ w.heap.size ≤ g := by
                  obtain ⟨h1, _⟩ := H1.out
                  obtain ⟨_, _, r2, _⟩ := hrow
                  have := h1.lt; have := HB.out
                  omega
                have hnd : ps.Nodup := by obtain ⟨_, _, _, _, r4, _⟩ := hrow; exact r4.nodup_iff.2 List.nodup_range
                have hpl : ps.length = k := by obtain ⟨_, _, _, r3, _⟩ := hrow; exact r3
                have Hlie := Lib.hid (And.intro hlie (And.intro hnd hpl))
                clear hrow hrow1 hF hlie hnd hpl HF
                go_wp2_with fail
                go_loopw [13] (fun i wr => ∃ j : Nat, j ≤ k ∧ i = .int .i64 j ∧ PutRel wc s ps k b g g0 j wr) (fun i _ => k - (intOf i).toNat)
                case atStart => exact ⟨0, Nat.zero_le _, rfl, hput0⟩
                case round =>
                  clear hput0
                  obtain ⟨j, hj, rfl, hrel⟩ := hrel
                  by_cases hjk : j < k
                  · obtain ⟨win, h, hrow, hwin, hnl, hF⟩ := hrel
                    have hjl : j < ps.length := by have := Hlie.out.2.2; omega
                    have hcj : wr.cell? ⟨g0, j, none⟩ = some (.int .i64 ps[j]) := by obtain ⟨cur, r1, _, _, _, r5⟩ := hrow; exact (r1.cell j).trans (r5 j hjl)
                    have hpk : ps[j] < k := by obtain ⟨_, _, _, _, r4, _⟩ := hrow; exact List.mem_range.1 (r4.mem_iff.1 (List.getElem_mem hjl))
                    have hwn : win ps[j] = none := by
                      rw [hwin _ hpk, if_neg]
                      intro hmem
                      obtain ⟨a, ha, he⟩ := List.getElem_of_mem hmem
                      rw [List.length_take] at ha
                      rw [List.getElem_take] at he
                      exact (List.pairwise_iff_getElem.1 Hlie.out.2.1) a j (by omega) hjl (by omega) he
                    have hnext : ∀ q, q < k → RS.putW win ps[j] (s.extract ps[j] (ps[j] + 1)) q = if q ∈ ps.take (j + 1) then some (s.extract q (q + 1)) else none := fun q hq => by
                      rw [List.take_succ_eq_append_getElem hjl]
                      by_cases hqj : q = ps[j]
                      · rw [if_pos (List.mem_append.2 (.inr (by rw [hqj]; exact List.mem_singleton.2 rfl))), hqj]; simp [RS.putW]
                      · have e1 : RS.putW win ps[j] (s.extract ps[j] (ps[j] + 1)) q = win q := by unfold RS.putW; rw [if_neg hqj]
                        have e2 : q ∈ ps.take j ++ [ps[j]] ↔ q ∈ ps.take j := by rw [List.mem_append, List.mem_singleton]; exact ⟨fun h => h.resolve_right hqj, .inl⟩
                        rw [e1, hwin q hq]; simp only [e2]
                    have hcnt : (RS.numsTo 0 (RS.putW win ps[j] (s.extract ps[j] (ps[j] + 1))) k).length = j + 1 := by
                      rw [nums_put (m := k) _ hwn, hnl, if_pos hpk]
                    have hA : RS.Admit k 0 (k : Int) = false := by unfold RS.Admit; simp
                    have Hx := Lib.hid (And.intro hrow (And.intro hnext (And.intro hcnt (And.intro hF hwn))))
                    clear hrow hwin hnl hF hnext hcnt hwn
                    generalize ps[j] = y at *
                    go_wp2_with fail
                    refine (RS.admits_eq b g k 0 win k wr h (by omega) hA).mono ?_
                    rintro e w' ⟨rfl, q1, rfl⟩
                    clear hA hcj
                    go_wp2_with fail
                    refine (RS.put_ok' b g k 0 win y y (s.extract y (y + 1)) _ (h.drewN q1) (by simp) hpk Hx.out.2.2.2.2).mono ?_
                    rintro e w3 ⟨rfl, h3, hF3⟩
                    clear h
                    go_wp2_with fail
                    refine (RS.put_full' b g k 0 _ y y ⟨#[122]⟩ (s.extract y (y + 1)) w3 h3 (by simp) hpk (by simp [RS.putW])).mono ?_
                    rintro e w' ⟨rfl, q2, rfl⟩
                    go_wp2_with fail
                    refine (RS.nums_any b g k 0 _ _ (h3.drewN q2)).mono ?_
                    rintro e w4 ⟨v, rfl, hv, hF4⟩
                    obtain ⟨A1, n1, c1, rfl, hn1, _⟩ := hv
                    rw [List.length_map, Hx.out.2.2.1] at hn1
                    have hd : ((n1 : Int) != (j : Int) + 1) = false := by simp; omega
                    have hn16 : n1 ≤ 17 := by omega
                    have hrelN : Hid (PutRel wc s ps k b g g0 (j + 1) w4) := by
                      obtain ⟨hrow, hnext, hcnt, hF, _⟩ := Hx.out
                      have hl := Hlie.out.1
                      have h3' := h3.drewN q2
                      have r1 : Row wc w3 g0 k ps := hrow.kept (hF3.block g0 (by obtain ⟨_, r, _⟩ := hrow; exact r.lt) (by rintro (h | h); exact hl.1 h.symm; exact hl.2.1 h.symm))
                      have r2 : Row wc w4 g0 k ps := (r1.kept (wr' := w3.drewN q2) rfl).kept (hF4.block g0 (by obtain ⟨_, r, _⟩ := r1; exact r.lt) id)
                      refine ⟨_, h3'.kept (hF4.block _ h3'.lt.1 id) (hF4.block _ h3'.lt.2 id), r2, hnext, hcnt, (((hF.drewN q1).trans hF3 (fun _ h => .inl h)).drewN q2).trans hF4 (fun _ h => h.elim)⟩
                    clear hF3 hF4 h3 hn1
                    go_wp2_with fail
                    go_roundw
                    case rel => exact ⟨j + 1, by omega, by go_num, hrelN.out⟩
                    case measure => simp [intOf]; omega
                  · obtain rfl : j = k := by omega
                    have htk := hrel.all
                    clear hrel
                    go_wp2_with fail
                    go_loopw [15] (fun i wr => ∃ q : Nat, q ≤ j ∧ i = .int .i64 q ∧ TakeRel wc s j b g q wr) (fun i _ => j - (intOf i).toNat)
                    case atStart => exact ⟨0, Nat.zero_le _, rfl, htk⟩
                    case round =>
                      clear htk
                      obtain ⟨q, hq, rfl, win, h, hwin, hF⟩ := hrel
                      by_cases hqj : q < j
                      · have hw0 : win 0 = some (s.extract q (q + 1)) := by rw [hwin 0 (by omega), if_pos (by omega)]; rfl
                        have hwN : ∀ i, i < j → RS.takeW j win i = if q + 1 + i < j then some (s.extract (q + 1 + i) (q + 1 + i + 1)) else none := fun i hi => by
                          unfold RS.takeW
                          by_cases h1 : i + 1 < j
                          · rw [if_pos h1, hwin (i + 1) h1, show q + (i + 1) = q + 1 + i from by omega]
                          · rw [if_neg h1, if_neg (by omega)]
                        have hA1 : RS.Admit j (q + 1) ((j : Int) + (q : Int)) = true := by unfold RS.Admit; simp; omega
                        have hA2 : RS.Admit j (q + 1) ((j : Int) + (q : Int) + 1) = false := by unfold RS.Admit; simp; omega
                        have Hx := Lib.hid (And.intro hF (And.intro hwN (And.intro hA1 (And.intro hA2 hw0))))
                        clear hF hwN hA1 hA2 hw0 hwin
                        go_wp2_with fail
                        refine (RS.take_ok b g j q win (s.extract q (q + 1)) wr h Hx.out.2.2.2.2 (by omega)).mono ?_
                        rintro e w3 ⟨rfl, h3, hF3⟩
                        have HF3 := Lib.hid hF3
                        clear hF3 h
                        unfold RS.ev
                        go_wp2_with fail
                        refine (RS.admits_eq b g j (q + 1) _ ((j : Int) + (q : Int)) w3 h3 (by omega) Hx.out.2.2.1).mono ?_
                        rintro e w' ⟨rfl, q1, rfl⟩
                        go_wp2_with fail
                        refine (RS.admits_eq b g j (q + 1) _ ((j : Int) + (q : Int) + 1) (w3.drewN q1) (h3.drewN q1) (by omega) Hx.out.2.2.2.1).mono ?_
                        rintro e w' ⟨rfl, q2, rfl⟩
                        have H3 := Lib.hid h3
                        clear h3
                        go_wp2_with fail
                        go_roundw
                        case rel => exact ⟨q + 1, by omega, by go_num, _, H3.out.kept rfl rfl, Hx.out.2.1, (Hx.out.1.trans HF3.out (fun _ h => .inl h)).drewN _⟩
                        case measure => simp [intOf]; omega
                      · obtain rfl : q = j := by omega
                        have hw0 : win 0 = none := by rw [hwin 0 (by omega), if_neg (by omega)]
                        have Hx := Lib.hid (And.intro hF hw0)
                        clear hF hw0 hwin
                        go_wp2_with fail
                        refine (RS.take_no b g q q win wr h Hx.out.2).mono ?_
                        rintro e w' ⟨rfl, q1, rfl⟩
                        go_wp2_with fail
                        refine (RS.next_any b g q q win _ (h.drewN q1)).mono ?_
                        rintro e w' ⟨rfl, rfl⟩
                        have hF2 := Hx.out.1.drewN q1
                        have HF2 := Lib.hid ((H1.out.2.trans hF2 (fun x hx => .inr (by have := Hlie.out.1; rcases hx with h | h <;> omega))))
                        clear hF2 h
                        go_wp2_with fail
                        refine (wakes_any _).mono ?_
                        rintro e w5 ⟨rfl, hF5⟩
                        go_wp2_with fail
                        go_ret
                        exact ⟨rfl, HF2.out.trans hF5 (fun _ h => h.elim)⟩
    · have hmay := Hmay.out w
      rw [show decide (1 ≤ room ∧ room ≤ 16) = false from by simpa using hr] at hmay
      clear Hmay hr
      go_wp2_with fail
      refine hmay.mono ?_
      rintro e w' ⟨rfl, rfl⟩
      clear hmay
      go_wp2_with fail
      refine (wakes_any w).mono ?_
      rintro e w' ⟨rfl, hF⟩
      go_wp2_with fail
      go_ret
      exact ⟨rfl, hF⟩
end Go.Proofs.Ytcdhdpocnjmkmaa
