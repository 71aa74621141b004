/- The walk of teasellaw19.BlockChunks. -/
import Derived.Test.YtecpbnkkgdppoaaBr
import Derived.Test.YtecpbnkkgdppoaaWk
import Derived.Test.YtecpbnkkgdppoaaGj
namespace Go.Proofs.Ytecpbnkkgdppoaa
open Go.RowKit
theorem cst0 {w : World} {b S L F : Nat} (h : CSt w (b + 1) b S L F 0 (.slice none 0 0) []) : CSt w (b + 1) b S L F (([] : List UInt8).length / S) (.slice none 0 0) (heldN S L []) := by
  have e1 : heldN S L [] = [] := by simp [heldN]
  have e2 : ([] : List UInt8).length / S = 0 := by simp
  rw [e1, e2]; exact h
theorem news_len (S L F : Nat) (u : List UInt8) : (newsN S L F [] u).length = u.length / S := by simp [newsN]
theorem ChAt.len {wn wr : World} {nb b S L F N : Nat} {v : Value} {u : List UInt8} (h : ChAt wn wr nb b S L F v N u) : N = u.length / S := by
  obtain ⟨ys, vc, h1, h2, -⟩ := h
  rw [h1, ← news_len S L F u, ← h2, List.length_map]
theorem ChAt.cut {wn wr : World} {nb b S L F N : Nat} {v : Value} {u : List UInt8} (h : ChAt wn wr nb b S L F v N u) : CutAt wr (b + 1) b S L F u := by
  obtain ⟨_, vc, -, -, -, h, -⟩ := h
  exact ⟨vc, h⟩
theorem ChAt.frm {wn wr : World} {nb b S L F N : Nat} {v : Value} {u : List UInt8} (h : ChAt wn wr nb b S L F v N u) : Frm (fun q => q = b) wn wr := h.choose_spec.choose_spec.2.2.2.2.2
theorem ChAt.keptF {wn wr wr' : World} {nb b S L F N : Nat} {v : Value} {u : List UInt8} (h : ChAt wn wr nb b S L F v N u) (hF : Frm (fun _ => False) wr wr') : ChAt wn wr' nb b S L F v N u := by
  obtain ⟨ys, vc, h1, h2, h3, h4, h5, h6⟩ := h
  exact ⟨ys, vc, h1, h2, h3.step hF (fun _ h => h.elim) fun q h => .inl h, h4.keptF hF, h5, h6.trans hF fun _ h => h.elim⟩
/-- A guarded operation that is wanted goes as one without a guard. -/
theorem wpList_unguard {P : Program} {ops : Array Oper} {rest : List Oper} {o : Oper} {a : Act} {w : World} {Q : Exit → Act → World → Prop} (hw : Region.wanted o (yielded ops a.tmps) = true) (h : wpList P ops Q ({ o with guard := none } :: rest) a w) : wpList P ops Q (o :: rest) a w := by
  unfold wpList at h ⊢
  rw [if_pos hw]
  rw [if_pos (by simp [Region.wanted])] at h
  exact h
/-- What a round's tests ask. -/
theorem chunk_law (S L u x : Nat) (hS : 1 ≤ S) (hL : L ≤ 65536) (hu : u + x ≤ 3000) : ∃ Q : Nat, Q = (u + x) / S ∧ Q ≤ 3000 ∧ Q * S ≤ u + x ∧
    Int.tdiv ((u + x : Nat) : Int) (S : Int) = (Q : Int) ∧ Int.tmod ((u + x : Nat) : Int) (S : Int) = (((u + x) - Q * S : Nat) : Int) ∧
    IntKind.i64.wrap ((u : Int) + (x : Int)) = ((u + x : Nat) : Int) ∧ IntKind.i64.wrap ((Q : Int) * (S : Int)) = (Q : Int) * (S : Int) ∧ IntKind.i64.wrap ((L : Int) - 1) = (L : Int) - 1 ∧
    (1 ≤ L → (((Q : Int) * (S : Int) < (L : Int) - 1 ∧ ((warmN S L Q : Nat) : Int) = (Q : Int) * (S : Int)) ∨ (¬ (Q : Int) * (S : Int) < (L : Int) - 1 ∧ ((warmN S L Q : Nat) : Int) = (L : Int) - 1))) := by
  obtain ⟨h1, -⟩ := div_low (u + x) S hS
  have h2 := Nat.div_le_self (u + x) S
  have h3 : (u + x) % S = (u + x) - (u + x) / S * S := by
    have := Nat.div_add_mod (u + x) S
    rw [Nat.mul_comm] at this
    omega
  refine ⟨_, rfl, by omega, h1, rfl, ?_, ?_, ?_, IntWalk.i64_in _ (by omega), fun hl => ?_⟩
  · rw [← h3]; rfl
  · rw [show (u : Int) + (x : Int) = ((u + x : Nat) : Int) from by omega]; exact IntWalk.i64_in _ (by omega)
  · rw [show (((u + x) / S : Nat) : Int) * (S : Int) = (((u + x) / S * S : Nat) : Int) from by rw [Int.natCast_mul]]; exact IntWalk.i64_in _ (by omega)
  · rw [show (((u + x) / S : Nat) : Int) * (S : Int) = (((u + x) / S * S : Nat) : Int) from by rw [Int.natCast_mul]]
    unfold warmN
    generalize (u + x) / S * S = M
    omega
set_option maxRecDepth 100000 in
set_option maxHeartbeats 8000000 in
theorem chunks_any (s l f : Int) (A : Option Addr) (n c : Nat) (vs : List Value) (Ls : List (List UInt8)) (w : World) (h : Sl w (fun k => k < w.heap.size) (.slice A n c) vs) (he : Each w (fun k => k < w.heap.size) vs Ls) :
    Calls Try.prog 5 #[.int .i64 s, .int .i64 l, .int .i64 f, .slice A n c] w fun e w' => e = .returned (.bool true) ∧ Frm (fun _ => False) w w' := by
  have Hm := Lib.hid (fun w => may_any s l f w)
  have Hg := Lib.hid (great_any (.slice A n c) _ _ vs Ls w h he)
  cases hm : mayB s l f with
  | false =>
    rw [hm] at Hm
    clear h he
    go_enter Try.func5, Try.ntmps5
    go_wp2_with fail
    refine (Hm.out w).mono ?_
    rintro e w' ⟨rfl, rfl⟩
    go_wp2_with fail
    refine (wakes_any w).mono ?_
    rintro e w' ⟨rfl, hF⟩
    go_wp2_with fail
    go_ret
    exact ⟨rfl, hF⟩
  | true =>
    rw [hm] at Hm
    obtain ⟨S, L, F, rfl, rfl, rfl, hC⟩ := mayB_cut hm
    have hn : n = Ls.length := by
      obtain ⟨A', n', c', e1, h2, -⟩ := h
      cases e1
      rw [h2, he.1]
    have hcm : c ≤ 9223372036854775807 ∧ n ≤ c := by
      obtain ⟨A', n', c', e1, h2, h3, h4, -⟩ := h
      cases e1
      exact ⟨h4, h3⟩
    have hJ := fun ht => join_any (.slice A n c) _ _ vs Ls w h he (fun q hq => hq) (fun q hq => hq) ht
    have H := Lib.hid (And.intro h (And.intro he (And.intro hC (And.intro hn hJ))))
    clear h he hC hm hJ hn
    go_enter Try.func5, Try.ntmps5
    go_wp2_with fail
    refine (Hm.out w).mono ?_
    rintro e w' ⟨rfl, rfl⟩
    go_wp2_with fail
    refine Hg.out.mono ?_
    rintro e w' ⟨g, rfl, rfl, hg⟩
    have HG := Lib.hid hg
    clear hg Hg Hm
    cases g with
    | true =>
      go_wp2_with fail
      refine (wakes_any w).mono ?_
      rintro e w' ⟨rfl, hF⟩
      go_wp2_with fail
      go_ret
      exact ⟨rfl, hF⟩
    | false =>
      replace HG : Hid (Ls.length ≤ 80 ∧ tot Ls ≤ 3000) := Lib.hid (HG.out rfl)
      go_wp2_with fail
      refine (H.out.2.2.2.2 (by have := HG.out.2; omega)).mono ?_
      rintro e w1 ⟨v1, rfl, ho1, hF1⟩
      obtain ⟨A1, n1, c1, rfl, -⟩ := id ho1
      have H1 := Lib.hid (And.intro ho1 hF1)
      clear ho1 hF1
      go_wp2_with fail
      refine (of_eq S L F Ls.flatten _ A1 n1 c1 w1 H.out.2.2.1 (H1.out.1.sl.mono fun q hq => hq.lt) (by rw [tot_flat]; have := HG.out.2; omega) rfl).mono ?_
      rintro e w2 ⟨A2, c2, all, rfl, hall, hat, hF2⟩
      have H2 := Lib.hid (And.intro hall (And.intro hat (H1.out.2.trans hF2 fun _ h => h.elim)))
      clear hall hat hF2
      go_wp2_with fail
      refine (new_eq S L F w2 H.out.2.2.1).mono ?_
      rintro e w3 ⟨b, rfl, hb, hc3, hF3⟩
      go_wp2_with fail
      refine (new_eq S L F w3 H.out.2.2.1).mono ?_
      rintro e w4 ⟨bo, rfl, hbo, hc4, hF4⟩
      have hbl : b < w3.heap.size := hc3.lt.1
      have hbol : bo < w4.heap.size := hc4.lt.1
      have H4 := Lib.hid (And.intro (hc3.keptF hF4) (And.intro hc4 (And.intro hb (And.intro hbo (And.intro (hF3.trans hF4 fun _ h => h.elim) hbol)))))
      have hbb : b < bo := by omega
      have hSS : S ≤ 65536 ∧ 1 ≤ S := ⟨by have := H.out.2.2.1.s2; omega, H.out.2.2.1.s1⟩
      have hLL : L ≤ 65536 ∧ 1 ≤ L := ⟨by have := H.out.2.2.1.l2; omega, H.out.2.2.1.l1⟩
      clear hb hbo hc3 hc4 hF3 hF4 hbl hbol
      obtain ⟨Y, hY⟩ : ∃ Y, Y = all.length := ⟨_, rfl⟩
      have HY := Lib.hid hY
      rw [← hY]
      clear hY
      go_wp2_with fail
      go_loopw [16, 17, 18] (fun a u i wr => ∃ (k N U : Nat) (Av : Option Addr) (cv : Nat), k ≤ n ∧ i = .int .i64 k ∧ u = .int .i64 U ∧ a = .slice Av N cv ∧ Hid (U = (Ls.take k).flatten.length ∧ ChAt w4 wr w4.heap.size b S L F (.slice Av N cv) N (Ls.take k).flatten)) (fun _ _ i _ => n - (intOf i).toNat)
      case atStart =>
        refine ⟨0, 0, 0, none, 0, Nat.zero_le _, rfl, rfl, rfl, Lib.hid ⟨rfl, [], .slice none 0 0, rfl, ?_, BR.nil _ _ _, cst0 H4.out.1, (fun q h => by cases h), Frm.refl _ _⟩⟩
        simp [newsN]
      case round =>
        obtain ⟨k, N, U, Av, cv, hk, rfl, rfl, rfl, hT⟩ := hrel
        by_cases hlt : k < n
        · obtain ⟨g0, o0, rfl, hg0, hcs⟩ : ∃ g0 o0, A = some ⟨g0, o0, none⟩ ∧ g0 < w.heap.size ∧ ∀ i (h : i < vs.length), w.cell? ⟨g0, o0 + i, none⟩ = some vs[i] := by
            obtain ⟨A', n', c', e1, h2, h3, h4, h5⟩ := H.out.1
            cases e1
            exact h5.resolve_left (by omega)
          obtain ⟨x, hx⟩ : ∃ x, Ls[k]? = some x := ⟨_, List.getElem?_eq_getElem (by have := H.out.2.2.2.1; omega)⟩
          have hkv : k < vs.length := by have := H.out.2.1.1; have := H.out.2.2.2.1; omega
          have hsx : Sl w (fun q => q < w.heap.size) vs[k] (bv x) := H.out.2.1.2 k _ x (List.getElem?_eq_getElem hkv) hx
          have hc0 := hcs k hkv
          generalize vs[k] = vk at *
          obtain ⟨Ak, mk, ck, rfl, hmk, hck, hcm2, -⟩ := id hsx
          rw [bv_length] at hmk
          have hu : (Ls.take (k + 1)).flatten = (Ls.take k).flatten ++ x := by rw [List.take_add_one, hx]; simp
          have hul : ((Ls.take k).flatten ++ x).length ≤ 3000 := by rw [← hu, tot_flat]; have := tot_take_le Ls (k + 1); have := HG.out.2; omega
          have hFr : Frm (fun _ => False) w wr := (H2.out.2.2.trans H4.out.2.2.2.2.1 fun _ h => h.elim).trans hT.out.2.frm fun q hq => .inr (by have := H2.out.2.2.size; have := H4.out.2.2.1; omega)
          have hFw := hFr
          have hcw := hc0
          replace hc0 := hFr.cell hc0 id
          have hz : w2.heap.size ≤ w4.heap.size := H4.out.2.2.2.2.1.size
          have hfm := feed_more (A := Ak) (m := mk) (c := ck) (x := x) H.out.2.2.1 hT.out.2 (by have := H4.out.2.2.2.2.2; omega) rfl (hsx.keptTo fun q hq => ⟨hFr.block q hq id, by have := H2.out.2.2.size; have := H4.out.2.2.1; omega, by have := H2.out.2.2.size; omega⟩) (by omega)
          obtain ⟨V, hV⟩ : ∃ V, V = U + mk := ⟨_, rfl⟩
          obtain ⟨Q, q1, q2, q3, q4, q5, q6, q7, q8, q9⟩ := chunk_law S L U mk hSS.2 hLL.1 (by have := hT.out.1; rw [List.length_append] at hul; omega)
          have q9 := q9 hLL.2
          rw [← hV] at q1 q3 q4 q5 q6
          obtain ⟨o, ho⟩ : ∃ o, o = V - Q * S := ⟨_, rfl⟩
          obtain ⟨Wm, hWm⟩ : ∃ Wm, Wm = warmN S L Q := ⟨_, rfl⟩
          rw [← ho] at q5
          rw [← hWm] at q9
          have hVl : V = ((Ls.take k).flatten ++ x).length := by rw [List.length_append, hV, hmk, hT.out.1]
          have HF := Lib.hid (And.intro hfm (And.intro hFw (And.intro hu (And.intro hVl (And.intro q1 (And.intro ho (And.intro hWm (And.intro hul hsx))))))))
          have hQ3 := Lib.hid q3
          have hcw := Lib.hid hcw
          clear hfm hFw hFr hsx hx hcs hg0 hu hul hVl hV q1 q3 ho hWm hmk hz hkv
          go_wp2_with fail
          refine HF.out.1.mono ?_
          rintro e w5 ⟨Af, Nf, cf, rfl, ys, zs, vc, hNy, hNz, hyz, hB1, hB2, hCS, hV5, hF5⟩
          have HM := Lib.hid (And.intro hNy (And.intro hNz (And.intro hyz (And.intro hB1 (And.intro hB2 (And.intro hCS (And.intro hV5 hF5)))))))
          clear hNy hNz hyz hB1 hB2 hCS hV5 hF5
          have hlen : ys.length + zs.length ≤ 3000 := by
            have h1 := congrArg List.length HM.out.2.2.1
            rw [List.length_map, List.length_append, news_len] at h1
            have h2 := Nat.div_le_self ((Ls.take k).flatten ++ x).length S
            have h3 := HF.out.2.2.2.2.2.2.2.1
            omega
          have hnb5 : w4.heap.size ≤ w5.heap.size := HM.out.2.2.2.2.2.2.2.size
          have HL := Lib.hid (And.intro hlen hnb5)
          clear hlen hnb5
          go_wp2_with (at_builtin; go_loud (refine br_append (by rfl) _ _ (by rfl) w4.heap.size (fun q => vc.ownBlock = some q) (.slice Av N cv) (.slice Af Nf cf) ys zs (by rfl) (by rfl) HM.out.2.2.2.1 HM.out.2.2.2.2.1 (by have := HL.out.1; omega) (fun q hq => (HM.out.2.2.2.2.2.1.lt.2 q hq).2.1) HL.out.2 ?_); go_loud (intro A6 N6 c6 w6 hh; have hCh := FdMid.app hh.out.1 HM.out.2.2.1 hh.out.2.1 HM.out.2.2.2.1 HM.out.2.2.2.2.2.1 HM.out.2.2.2.2.2.2.1 HM.out.2.2.2.2.2.2.2 hh.out.2.2 (by have := H4.out.2.2.1; have := H4.out.2.2.2.2.2; omega) rfl; have hc6 := ((H2.out.2.2.trans H4.out.2.2.2.2.1 fun _ h => h.elim).trans hCh.frm fun q hq => .inr (by have := H2.out.2.2.size; have := H4.out.2.2.1; omega)).cell hcw.out id; have HC := Lib.hid (And.intro hCh (And.intro hCh.cut hCh.len)); clear hCh hh HM))
          obtain rfl : N6 = Q := by rw [HC.out.2.2, ← HF.out.2.2.2.1, HF.out.2.2.2.2.1]
          clear HL
          go_wp2_with fail
          refine (pending_eq (b + 1) b S L F _ _ H.out.2.2.1 HC.out.2.1 (by have := HF.out.2.2.2.2.2.2.2.1; omega) o Wm (by rw [← HF.out.2.2.2.1, ← HF.out.2.2.2.2.1]; exact HF.out.2.2.2.2.2.1.symm) (by rw [← HF.out.2.2.2.1, ← HF.out.2.2.2.2.1]; exact HF.out.2.2.2.2.2.2.1.symm)).mono ?_
          rintro e w7 ⟨rfl, hF7⟩
          have HC7 := Lib.hid (HC.out.1.keptF hF7)
          clear hF7 hc6
          have hS0 : ¬ S = 0 := by omega
          rcases q9 with ⟨m1, m2⟩ | ⟨m1, m2⟩
          · go_wp2_with fail
            go_roundw
            case rel => exact ⟨k + 1, N6, V, A6, c6, by omega, by go_num, rfl, rfl, Lib.hid ⟨by rw [HF.out.2.2.1]; exact HF.out.2.2.2.1, by rw [HF.out.2.2.1]; exact HC7.out⟩⟩
            case measure => simp [intOf]; omega
          · go_wp2_with fail
            go_roundw
            case rel => exact ⟨k + 1, N6, V, A6, c6, by omega, by go_num, rfl, rfl, Lib.hid ⟨by rw [HF.out.2.2.1]; exact HF.out.2.2.2.1, by rw [HF.out.2.2.1]; exact HC7.out⟩⟩
            case measure => simp [intOf]; omega
        · obtain rfl : k = n := by omega
          have htk : Ls.take k = Ls := List.take_of_length_le (by have := H.out.2.2.2.1; omega)
          obtain ⟨hU, hCh⟩ := hT.out
          rw [htk] at hCh
          clear hT hU htk
          obtain ⟨ys, vc, hNy, hys, hB, hCS, hV, hF⟩ := hCh
          have ht9 : Ls.flatten.length ≤ 3000 := by rw [tot_flat]; exact HG.out.2
          have hcl := close_any (b + 1) b S L F Ls.flatten vc wr H.out.2.2.1 hCS (by omega)
          have hbn : b < w4.heap.size := by have := H4.out.2.2.2.2.2; omega
          have hyl : ys.length ≤ 3000 := by
            have h1 := congrArg List.length hys
            rw [List.length_map, news_len] at h1
            have h2 := Nat.div_le_self Ls.flatten.length S
            omega
          have hF2 : Frm (fun _ => False) w2 wr := H4.out.2.2.2.2.1.trans hF fun q hq => .inr (by have := H4.out.2.2.1; omega)
          have HE := Lib.hid (And.intro hNy (And.intro hys (And.intro hB (And.intro hF (And.intro hcl (And.intro ht9 (And.intro hbn (And.intro hyl hF2))))))))
          clear hNy hys hB hF hcl ht9 hCS hV hbn hyl hF2
          go_wp2_with fail
          refine HE.out.2.2.2.2.1.mono ?_
          rintro e w5 ⟨v5, zs, rfl, hz5, ho5, hg5, hsh, hF5⟩
          have hsz : w4.heap.size ≤ wr.heap.size := HE.out.2.2.2.1.size
          have hB5 : BR w5 w4.heap.size (fun _ => False) (.slice Av N cv) ys := HE.out.2.2.1.step hF5 (fun q hq => .inl (by have := HE.out.2.2.2.2.2.2.1; omega)) (fun q h => h.elim)
          have hZ5 : BR w5 w4.heap.size (fun _ => False) v5 zs := ⟨World.ownsRow.mono ho5 hsz, fun y hy => ⟨World.ownsRow.mono (hg5 y hy) hsz, fun q _ => id⟩, fun q _ => id⟩
          obtain ⟨A5, c5, rfl⟩ := hZ5.form
          have hzl : zs.length ≤ 1 := by
            have h1 := congrArg List.length hz5
            rw [List.length_map] at h1
            rw [h1]
            unfold lastN
            split <;> simp
          obtain ⟨Nz, hNz⟩ : ∃ Nz, Nz = zs.length := ⟨_, rfl⟩
          rw [← hNz] at hZ5 ⊢
          have HZ := Lib.hid (And.intro hB5 (And.intro hZ5 (And.intro hz5 (And.intro hzl (And.intro (Nat.le_trans hsz hF5.size) (And.intro (HE.out.2.2.2.2.2.2.2.2.trans hF5 fun q hq => .inr (by have := H4.out.2.2.1; omega)) (HE.out.2.2.2.1.trans hF5 fun q hq => .inl hq)))))))
          clear hB5 hZ5 hz5 hzl hNz ho5 hg5 hsh hsz hF5
          go_wp2_with (at_builtin; go_loud (refine br_append (by rfl) _ _ (by rfl) w4.heap.size (fun _ => False) (.slice Av N cv) (.slice A5 Nz c5) ys zs (by rfl) (by rfl) HZ.out.1 HZ.out.2.1 (by have := HZ.out.2.2.2.1; have := HE.out.2.2.2.2.2.2.2.1; omega) (fun q hq => hq.elim) HZ.out.2.2.2.2.1 ?_); go_loud (intro A6 N6 c6 w6 hh))
          have hvl := World.ownsRow.lt HZ.out.1.1
          have hF46 : Frm (fun q => q = b) w4 w6 := HZ.out.2.2.2.2.2.2.trans hh.out.2.2 fun q hq => .inr (hvl q hq).1
          have hF26 : Frm (fun _ => False) w2 w6 := HZ.out.2.2.2.2.2.1.trans hh.out.2.2 fun q hq => .inr (Nat.le_trans H4.out.2.2.2.2.1.size (hvl q hq).1)
          have hFw6 : Frm (fun _ => False) w w6 := H2.out.2.2.trans hF26 fun _ h => h.elim
          have hco : CSt w6 (bo + 1) bo S L F (([] : List UInt8).length / S) (.slice none 0 0) (heldN S L []) := (cst0 H4.out.2.1).kept hF46 (fun e => by omega) fun q hq => by cases hq
          have hbow : w.heap.size ≤ bo := by have := H2.out.2.2.size; have := H4.out.2.2.1; omega
          have hfd := feed_any (bo + 1) bo S L F [] (.slice none 0 0) (A := A) (m := k) (c := c) vs Ls (fun q => q < w.heap.size) w6 H.out.2.2.1 hco (H.out.1.keptTo fun q hq => ⟨hFw6.block q hq id, hq⟩) (H.out.2.1.kept fun q hq => ⟨hFw6.block q hq id, hq⟩) (fun q hq => ⟨Nat.lt_of_lt_of_le hq hFw6.size, by
            rintro (h | h)
            · omega
            · cases h⟩) (by rw [List.nil_append]; have := HE.out.2.2.2.2.2.1; omega)
          rw [List.nil_append] at hfd
          have hlc : (ys ++ zs).map (·.c) = blocksN S L F Ls.flatten := by rw [List.map_append, HE.out.2.1, HZ.out.2.2.1, news_all _ _ _ _ hSS.2]
          have HY6 := Lib.hid (And.intro hh.out.2.1 (And.intro hF26 (And.intro hfd (And.intro hlc (And.intro hbow (And.intro hFw6 hF46.size))))))
          clear hvl hF46 hF26 hFw6 hco hbow hfd hlc hh HZ
          go_wp2_with fail
          refine HY6.out.2.2.1.mono ?_
          rintro e w7 ⟨v7, ms, rfl, hm7, ho7, hg7, ⟨v8, hc7, -⟩, hF7⟩
          have hF7' : Frm (fun q => q = bo) w6 w7 := hF7.mono fun q hq => hq.elim .inl fun h => by cases h
          have hF27 : Frm (fun _ => False) w2 w7 := HY6.out.2.1.trans hF7' fun q hq => .inr (by have := H4.out.2.2.2.1; have := H4.out.2.2.1; omega)
          have hM7 : BR w7 w6.heap.size (fun _ => False) v7 ms := ⟨ho7, fun y hy => ⟨(hg7 y hy).1, fun q _ => id⟩, fun q _ => id⟩
          have hL7 : BR w7 w4.heap.size (fun _ => False) (.slice A6 N6 c6) (ys ++ zs) := HY6.out.1.step hF7' (fun q hq => .inl (by have := H4.out.2.2.2.2.2; omega)) (fun q h => h.elim)
          obtain ⟨A7, c7, rfl⟩ := hM7.form
          have hml : ms.length ≤ 3000 := by
            have h1 := congrArg List.length hm7
            rw [List.length_map, news_len] at h1
            have h2 := Nat.div_le_self Ls.flatten.length S
            have := HE.out.2.2.2.2.2.1
            omega
          obtain ⟨Nm, hNm⟩ : ∃ Nm, Nm = ms.length := ⟨_, rfl⟩
          rw [← hNm] at hM7 ⊢
          have hall7 : BsAt w7 (fun q => q < w7.heap.size) A2 Y c2 all := by
            have h := H2.out.2.1
            rw [← HY.out] at h
            exact h.keptTo fun q hq => ⟨hF27.block q hq.2 id, Nat.lt_of_lt_of_le hq.2 hF27.size⟩
          have hA7 := all_true (fun q => q < w7.heap.size) A6 A2 N6 c6 Y c2 (ys ++ zs) all w7 (hL7.bs.keptTo fun q hq => ⟨rfl, hq.2⟩) hall7 (fun q h => h) (HY6.out.2.2.2.1.trans H2.out.1.symm)
          have H7 := Lib.hid (And.intro hA7 (And.intro hM7 (And.intro hm7 (And.intro hc7 (And.intro hF27 (And.intro hml (And.intro hall7 hF7'.size)))))))
          clear hA7 hM7 hm7 hc7 hF27 hml hall7 hF7 hF7' ho7 hg7 hL7 hNm
          go_wp2_with fail
          refine H7.out.1.mono ?_
          rintro e w8 ⟨rfl, hF8⟩
          have hcl8 := close_any (bo + 1) bo S L F Ls.flatten v8 w8 H.out.2.2.1 (H7.out.2.2.2.1.keptF hF8) (by have := HE.out.2.2.2.2.2.1; omega)
          have H8 := Lib.hid (And.intro hcl8 hF8)
          clear hcl8 hF8
          go_wp2_with fail
          refine H8.out.1.mono ?_
          rintro e w9 ⟨v9, qs, rfl, hq9, ho9, hg9, -, hF9⟩
          have hsz : w6.heap.size ≤ w8.heap.size := Nat.le_trans H7.out.2.2.2.2.2.2.2 H8.out.2.size
          have hbo6 : bo < w6.heap.size := by have := H4.out.2.2.2.2.2; have := HY6.out.2.2.2.2.2.2; omega
          have hM9 : BR w9 w6.heap.size (fun _ => False) (.slice A7 Nm c7) ms := (H7.out.2.1.step (X' := fun _ => False) H8.out.2 (fun q hq => hq.elim) (fun q h => h.elim)).step hF9 (fun q hq => .inl (by omega)) (fun q h => h.elim)
          have hQ9 : BR w9 w6.heap.size (fun _ => False) v9 qs := ⟨World.ownsRow.mono ho9 hsz, fun y hy => ⟨World.ownsRow.mono (hg9 y hy) hsz, fun q _ => id⟩, fun q _ => id⟩
          obtain ⟨A9, c9, rfl⟩ := hQ9.form
          have hql : qs.length ≤ 1 := by
            have h1 := congrArg List.length hq9
            rw [List.length_map] at h1
            rw [h1]
            unfold lastN
            split <;> simp
          obtain ⟨Nq, hNq⟩ : ∃ Nq, Nq = qs.length := ⟨_, rfl⟩
          rw [← hNq] at hQ9 ⊢
          have hF29 : Frm (fun _ => False) w2 w9 := (H7.out.2.2.2.2.1.trans H8.out.2 fun _ h => h.elim).trans hF9 fun q hq => .inr (by have := H4.out.2.2.2.1; have := H4.out.2.2.1; omega)
          have hmc : (ms ++ qs).map (·.c) = blocksN S L F Ls.flatten := by rw [List.map_append, H7.out.2.2.1, hq9, news_all _ _ _ _ hSS.2]
          have H9 := Lib.hid (And.intro hM9 (And.intro hQ9 (And.intro hql (And.intro (Nat.le_trans hsz hF9.size) (And.intro hF29 hmc)))))
          clear hM9 hQ9 hql hNq hF29 hmc hsz hF9 ho9 hg9 hq9 hbo6
          go_wp2_with (at_builtin; go_loud (refine wpList_unguard (by rfl) ?_; refine br_append (by rfl) _ _ (by rfl) w6.heap.size (fun _ => False) (.slice A7 Nm c7) (.slice A9 Nq c9) ms qs (by rfl) (by rfl) H9.out.1 H9.out.2.1 (by have := H9.out.2.2.1; have := H7.out.2.2.2.2.2.1; omega) (fun q hq => hq.elim) H9.out.2.2.2.1 ?_); go_loud (intro A0 N0 c0 w10 hk))
          have hvl := World.ownsRow.lt H9.out.1.1
          have hF20 : Frm (fun _ => False) w2 w10 := H9.out.2.2.2.2.1.trans hk.out.2.2 fun q hq => .inr (Nat.le_trans HY6.out.2.1.size (hvl q hq).1)
          have hall0 : BsAt w10 (fun q => q < w10.heap.size) A2 Y c2 all := by
            have h := H2.out.2.1
            rw [← HY.out] at h
            exact h.keptTo fun q hq => ⟨hF20.block q hq.2 id, Nat.lt_of_lt_of_le hq.2 hF20.size⟩
          have hA0 := all_true (fun q => q < w10.heap.size) A0 A2 N0 c0 Y c2 (ms ++ qs) all w10 (hk.out.2.1.bs.keptTo fun q hq => ⟨rfl, hq.2⟩) hall0 (fun q h => h) (H9.out.2.2.2.2.2.trans H2.out.1.symm)
          have H0 := Lib.hid (And.intro hA0 hF20)
          clear hvl hF20 hall0 hA0 hk H9
          go_wp2_with fail
          refine H0.out.1.mono ?_
          rintro e w11 ⟨rfl, hF11⟩
          have H11 := Lib.hid hF11
          clear hF11
          go_wp2_with fail
          refine (wakes_any w11).mono ?_
          rintro e w12 ⟨rfl, hF12⟩
          have H12 := Lib.hid hF12
          clear hF12
          go_wp2_with fail
          go_ret
          exact ⟨rfl, ((H2.out.2.2.trans H0.out.2 fun _ h => h.elim).trans H11.out fun _ h => h.elim).trans H12.out fun _ h => h.elim⟩
end Go.Proofs.Ytecpbnkkgdppoaa
