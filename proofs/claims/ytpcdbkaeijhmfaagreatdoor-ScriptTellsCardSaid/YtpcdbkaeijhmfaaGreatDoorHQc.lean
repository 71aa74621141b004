/- The document's script: answers. -/
import Derived.Test.YtpcdbkaeijhmfaaGreatDoorHQb
import Derived.Test.YtpcdbkaeijhmfaaGreatDoorGA
namespace Go.Proofs.YtpcdbkaeijhmfaaGreatDoor
set_option maxRecDepth 100000
set_option linter.unusedVariables false
set_option linter.unusedSimpArgs false
open Go.RowKit
attribute [local go_sem] Oper.semAt_some
/-- What the append leaves. -/
def P9 (B m W : Nat) (xs : List Value) (v5 v : Value) (w : World) : Prop := ∃ A6 c6, v = .slice A6 (m + 1) c6 ∧ w.ownsRow B 4 1 (.slice A6 (m + 1) c6) (m + 1) xs ∧ (v.ownBlock = v5.ownBlock ∨ ∀ q, v.ownBlock = some q → W ≤ q)
theorem P9.kept {B m W : Nat} {xs : List Value} {v5 v : Value} {w w' : World} (h : P9 B m W xs v5 v w) (hF : Frm (fun _ => False) w w') : P9 B m W xs v5 v w' := by
  obtain ⟨A6, c6, e, h1, h2⟩ := h
  exact ⟨A6, c6, e, hF.own h1 fun _ _ => id, h2⟩
/-- The region's relation: till the append has come nothing has changed. -/
def AG (K : Nat → Prop) (W0 : World) (B m : Nat) (xs : List Value) (v5 : Value) (L : Nat → Bool) (f : Nat → Value) (w : World) : Prop := Frm K W0 w ∧ (L 9 = false → Frm (fun _ => False) W0 w) ∧ (L 9 = true → P9 B m W0.heap.size xs v5 (f 9) w)
theorem AG.keep {K : Nat → Prop} {W0 w w' : World} {B m : Nat} {xs : List Value} {v5 : Value} {L : Nat → Bool} {f : Nat → Value} (h : AG K W0 B m xs v5 L f w) {i : Nat} (hi : i ≠ 9) (v : Value) (hF : Frm (fun _ => False) w w') : AG K W0 B m xs v5 (setL L i) (upd f i v) w' :=
  ⟨h.1.trans' (hF.mono fun _ h => h.elim), fun h9 => (h.2.1 (by rw [setL_ne L (Ne.symm hi)] at h9; exact h9)).trans' hF, fun h9 => by rw [upd_ne f v (Ne.symm hi)]; exact (h.2.2 (by rw [setL_ne L (Ne.symm hi)] at h9; exact h9)).kept hF⟩
theorem push_answer {w w3 : World} {B : Nat} {st : St} {wv rv av pv v' : Value} {y : Bool} (hL : Lsts w B st wv rv av pv) (hF : Frm (fun q => av.ownBlock = some q) w w3) (ho : w3.ownsRow B 4 1 v' (st.answers.length + 1) (bvs st.answers ++ [.bool y])) : Lsts w3 B { st with answers := st.answers ++ [y] } wv rv v' pv := by
  have hna : ∀ q cs, Blk w q 5 cs → ¬ av.ownBlock = some q := fun q cs hc hk => own_blk_ne hL.answers hc (by decide) hk
  have hw3 := hL.words.kept hF (fun q hq hk => by obtain ⟨vs, k1, -⟩ := hL.words; exact own_apart k1 hL.answers (by decide) hk hq) hna
  have hr3 := hL.reads.kept hF (fun q hq hk => by obtain ⟨vs, k1, -⟩ := hL.reads; exact own_apart k1 hL.answers (by decide) hk hq) hna
  have hp3 := hF.own hL.picks fun q hq hk => own_apart hL.picks hL.answers (by decide) hk hq
  exact ⟨hw3, hr3, by simpa [bvs] using ho, hp3, hL.apart⟩
set_option maxHeartbeats 8000000 in
theorem answersR_any (B : Nat) (st : St) (wv rv av pv : Value) (K : Nat → Prop) (A : Option Addr) (n c : Nat) (ws : List By) (w : World) (hL : Lsts w B st wv rv av pv) (hs : SAt w K A n c ws) (hK : ∀ q, K q → q < w.heap.size) (hK4 : ∀ q, K q → ¬ Own4 wv rv av pv q) (hB : B ≤ w.heap.size) (hm : st.answers.length + ws.length ≤ 1000000) :
    Calls Tryz.prog 50 #[.agg (stCells st wv rv av pv), .slice A n c] w (SayPost B (if ws = [] then none else answB st ws) wv rv av pv w) := by
  obtain ⟨i0, hi, hz0, hz1, hz2⟩ := info_parts infoBo
  obtain ⟨o, ho⟩ : ∃ o, o = if ws = [] then none else answB st ws := ⟨_, rfl⟩
  rw [← ho]
  obtain ⟨hn, hnc, hcm⟩ := hs.len
  have hn9 : n ≤ 1000000 := by omega
  have HM := Lib.hid (And.intro hB (And.intro hm (And.intro hK4 (And.intro ho hn))))
  clear hB hm hK4 ho
  have hL0 := hL.oneC
  obtain ⟨C, hC⟩ : ∃ C, C = stCells st wv rv av pv := ⟨_, rfl⟩
  rw [← hC] at hL0 ⊢
  have HC := Lib.hid (And.intro hC (And.intro hL0.2 hL0.1))
  have HB0 := Lib.hid (show Blk ((w.alloc (.cells C 33)).alloc (.cells zeroC 33)) w.heap.size 33 C ∧ Blk ((w.alloc (.cells C 33)).alloc (.cells zeroC 33)) (w.heap.size + 1) 33 zeroC ∧ Frm (fun _ => False) w ((w.alloc (.cells C 33)).alloc (.cells zeroC 33)) from
    ⟨(Blk.new w 33 C).alloc _, by have h := Blk.new (w.alloc (.cells C 33)) 33 zeroC; rw [World.size_alloc] at h; exact h, ((Frm.refl _ w).alloc _).alloc _⟩)
  have H := Lib.hid (And.intro hL (And.intro hs hK))
  clear hL hC hL0
  clear hs hK hn
  go_enter Tryz.func50, Tryz.ntmps50
  go_upto_region 1 with fail
  rw [show (#[.bool false, .slice none 0 0, .int .i64 0, .int .i64 0, .int .i64 0, .int .i64 0, .int .i64 0, .int .i64 0, .int .i64 0, .bool false, .slice none 0 0, .slice none 0 0, .slice none 0 0, .int .u8 0, .int .u32 0, .int .i64 0, .int .i64 0, .int .i64 0] : Array Value) = zeroC from rfl]
  obtain ⟨b, hb⟩ : ∃ b, b = w.heap.size := ⟨_, rfl⟩
  have HB := HB0
  rw [← hb] at HB ⊢
  clear HB0
  generalize (w.alloc (.cells C 33)).alloc (.cells zeroC 33) = w1 at *
  have Hb := Lib.hid hb
  clear hb
  go_wp2_with fail
  go_loopw [6] (fun t wr => ∃ k : Nat, k ≤ n ∧ t = .int .i64 k ∧ Hid (∃ s1 av1, answB st ws = answB s1 (ws.drop k) ∧ Blk wr b 33 (stCells s1 wv rv av1 pv) ∧ Blk wr (b + 1) 33 zeroC ∧ Lsts wr B s1 wv rv av1 pv ∧ Frm (Own4 wv rv av pv) w wr ∧ s1.answers.length ≤ st.answers.length + k ∧ ∀ q, av1.ownBlock = some q → av.ownBlock = some q ∨ w.heap.size ≤ q)) (fun t _ => n - (intOf t).toNat)
  case atStart => exact ⟨0, Nat.zero_le _, rfl, Lib.hid ⟨st, av, by simp, HC.out.1 ▸ HB.out.1, HB.out.2.1, H.out.1.keptF HB.out.2.2, HB.out.2.2.mono fun _ h => h.elim, by omega, fun q h => .inl h⟩⟩
  case round =>
    obtain ⟨k, hk, rfl, hT⟩ := hrel
    obtain ⟨s1, av1, hws, hbb, hbr, hl1, hfr, hsl, hav⟩ := hT.out
    clear hT
    by_cases hlt : k < n
    · obtain ⟨x, g, o1, hx, hxl, rfl, hKg, hc0⟩ := H.out.2.1.at_ k hlt
      have hng := HM.out.2.2.1 g hKg
      have c1 := hfr.cell hc0 hng
      have hs := answB_step s1 ws k x hx
      obtain ⟨A5, c5, rfl, -, -⟩ := own_form hl1.answers
      obtain ⟨m, hm⟩ : ∃ m, m = s1.answers.length := ⟨_, rfl⟩
      rw [← hm] at hl1 hbb hav
      have g0 := str_ne x [121, 101, 115]
      have g1 := str_ne x [110, 111]
      have h0 : ((ba x).toList != [121, 101, 115]) = !decide (x = [121, 101, 115]) := by rw [← g0]; rfl
      have h1 : ((ba x).toList != [110, 111]) = !decide (x = [110, 111]) := by rw [← g1]; rfl
      have hown := hl1.answers
      rw [← hm] at hown
      have hKa : ¬ (Value.slice A5 m c5).ownBlock = some g := fun h => by
        rcases hav g h with h2 | h2
        · exact hng (.inr (.inr (.inl h2)))
        · have := H.out.2.2 g hKg; omega
      have HR := Lib.hid (And.intro hws (And.intro hbb (And.intro hbr (And.intro hl1 (And.intro hfr (And.intro hsl (And.intro hav (And.intro hs (And.intro hm (And.intro hown hKa))))))))))
      have hm9 : m ≤ 1000000 := by have := HM.out.2.1; have := HM.out.2.2.2.2; omega
      clear hws hbb hbr hl1 hfr hsl hav hs hm hown hKa hx hKg hc0 hng
      by_cases hyes : x = [121, 101, 115] ∨ x = [110, 111]
      · obtain ⟨y, hy⟩ : ∃ y, y = decide (x = [121, 101, 115]) := ⟨_, rfl⟩
        have Hy := Lib.hid (show answB s1 (ws.drop k) = answB { s1 with answers := s1.answers ++ [y] } (ws.drop (k + 1)) by
          rw [HR.out.2.2.2.2.2.2.2.1, hy]
          rcases hyes with rfl | rfl
          · rw [if_pos (show ([121, 101, 115] : By) = bs "yes" by decide), decide_eq_true rfl]
          · rw [if_neg (show ¬ ([110, 111] : By) = bs "yes" by decide), if_pos (show ([110, 111] : By) = bs "no" by decide), decide_eq_false (by decide)])
        rw [← hy] at g0
        have Hye := Lib.hid (And.intro hyes hy)
        have HS := Lib.hid (And.intro h0 h1)
        clear h0 h1 g1 hyes hy g0
        have Hg0 := Lib.hid (show ((ba x).toList == [121, 101, 115]) = y by rw [str_ne, ← Hye.out.2])
        go_upto_region 4 with fail
        go_cut [24] (fun t wc => wc = wr ∧ t = .bool false)
        case first =>
          have g0 := str_ne x [121, 101, 115]
          have g1 := str_ne x [110, 111]
          rcases Hye.out.1 with h2 | h2
          · rw [decide_eq_true h2] at g0
            clear g1 h2
            generalize ba x = S at *
            go_wp2_with fail
            go_meet
            case rel => exact ⟨rfl, rfl⟩
          · rw [decide_eq_false (by rw [h2]; decide)] at g0
            rw [decide_eq_true h2] at g1
            clear h2
            generalize ba x = S at *
            go_wp2_with fail
            go_meet
            case rel => exact ⟨rfl, rfl⟩
        case rest =>
          obtain ⟨hwc, rfl⟩ := hcut
          obtain rfl := hwc.symm
          go_upto_region 6 with fail
          refine plan_begin (by kernel_rfl) 13 (by kernel_rfl) ?_
          obtain ⟨W0, hW0⟩ : ∃ W, W = wr.drew := ⟨_, rfl⟩
          have hb0 : Blk W0 b 33 (stCells s1 wv rv (.slice A5 m c5) pv) := hW0 ▸ HR.out.2.1.drew
          have HB0 := Lib.hid (show Blk W0 b 33 (stCells s1 wv rv (.slice A5 m c5) pv) ∧ Blk W0 (b + 1) 33 zeroC ∧ Lsts W0 B s1 wv rv (.slice A5 m c5) pv ∧ Frm (Own4 wv rv av pv) w W0 from hW0 ▸ ⟨HR.out.2.1.drew, HR.out.2.2.1.drew, HR.out.2.2.2.1.keptF (Frm.refl _ wr).drew, HR.out.2.2.2.2.1.drew⟩)
          have hown0 : W0.ownsRow B 4 1 (.slice A5 m c5) m (bvs s1.answers) := by have := HB0.out.2.2.1.answers; rw [← HR.out.2.2.2.2.2.2.2.2.1] at this; exact this
          obtain ⟨S, hS⟩ : ∃ S, S = ba x := ⟨_, rfl⟩
          have HA := Lib.hid (show W0.cell? ⟨b, 11, none⟩ = some (.slice A5 m c5) ∧ (¬ (Value.slice A5 m c5).ownBlock = some b) ∧ k < n ∧ W0.cell? ⟨g, o1 + k, none⟩ = some (.string S) ∧ (¬ (Value.slice A5 m c5).ownBlock = some g) ∧ (S.toList == [121, 101, 115]) = y ∧ W0.ownsRow B 4 1 (.slice A5 m c5) m (bvs s1.answers) ∧ m ≤ 1000000 ∧ B ≤ W0.heap.size from
            ⟨by rw [hb0.cell]; rfl, own_blk_ne hown0 hb0 (by decide), hlt, by rw [hS]; exact hW0 ▸ c1, HR.out.2.2.2.2.2.2.2.2.2.2, by rw [hS]; exact Hg0.out, hown0, hm9, Nat.le_trans HM.out.1 HB0.out.2.2.2.size⟩)
          rw [← hW0]
          clear hW0 hb0 hown0 c1 hS HS
          refine plan_fxg [0, 1, 2, 3, 4, 5, 6, 7, 8, 9, 10, 11] (fun (j : Nat) (v : Value) (w : World) => (match j with | 0 => v = .pointer (some ⟨b, 2, none⟩) | 1 => v = .pointer (some ⟨b, 11, none⟩) | 2 => v = .slice A5 m c5 | 3 => v = .slice (some ⟨g, o1, none⟩) n c | 4 => v = .int .i64 (k : Nat) | 5 => v = .pointer (some ⟨g, o1 + k, none⟩) | 6 => v = .string S | 7 => v = .bool y | 8 => ∃ g8, v = .slice (some ⟨g8, 0, none⟩) 1 1 ∧ W0.heap.size ≤ g8 ∧ w.cell? ⟨g8, 0, none⟩ = some (.bool y) | 9 => True | 10 => v = .pointer (some ⟨b, 2, none⟩) | 11 => v = .pointer (some ⟨b, 11, none⟩) | _ => True : Prop)) (AG (fun q => (Value.slice A5 m c5).ownBlock = some q) W0 B m (bvs s1.answers ++ [.bool y]) (.slice A5 m c5)) (fun w w' => Frm (fun q => (Value.slice A5 m c5).ownBlock = some q) w w') #[true, true, true, true, true, true, true, true, true, true, true, true, false] 1 (by kernel_rfl) (by kernel_rfl) (by kernel_rfl) (by kernel_rfl) (by kernel_rfl) (by kernel_rfl) (by kernel_rfl) (by kernel_rfl) (fun f => ⟨Frm.refl _ _, fun _ => Frm.refl _ _, fun h => absurd h ?hl0⟩) ?hV ?steps ?fin
          case hl0 => show ¬ ((upTo 13 0).getD 9 false = true); rw [upTo_at]; simp
          case hV =>
            intro j v w1 w2 h hF
            match j, h with
            | 0, h => exact h
            | 1, h => exact h
            | 2, h => exact h
            | 3, h => exact h
            | 4, h => exact h
            | 5, h => exact h
            | 6, h => exact h
            | 7, h => exact h
            | 8, ⟨g8, e, hg, hc⟩ => exact ⟨g8, e, hg, hF.cell hc (fun hk => by have := (HA.out.2.2.2.2.2.2.1.lt g8 hk).2; omega)⟩
            | 9, h => exact h
            | 10, h => exact h
            | 11, h => exact h
            | _ + 12, _ => trivial
          case steps =>
            refine steps_cons 0 rfl ?_ ?_
            · intro f L w1 A ρ hρ hG hL hLd hd hu hA K hK
              have e1 : ρ (.tmp 2) = .pointer (some ⟨b, 0, none⟩) := (hA 2).trans (by kernel_rfl)
              refine fx_val hρ rfl (v := .pointer (some ⟨b, 2, none⟩)) (w' := w1) (by simp [execOp, go_sem, e1]) (hK _ _ rfl (Frm.refl _ _) (hG.keep (by decide) _ (Frm.refl _ _)))
            refine steps_cons 1 rfl ?_ ?_
            · intro f L w1 A ρ hρ hG hL hLd hd hu hA K hK
              have e1 : ρ (.tmp 26) = .pointer (some ⟨b, 2, none⟩) := (hA 26).trans ((show (puts _ f _ _).eval (.tmp 26) = f 0 from by kernel_rfl).trans (hd 0 (by kernel_rfl)))
              refine fx_val hρ rfl (v := .pointer (some ⟨b, 11, none⟩)) (w' := w1) (by simp [execOp, go_sem, e1]) (hK _ _ rfl (Frm.refl _ _) (hG.keep (by decide) _ (Frm.refl _ _)))
            refine steps_cons 2 rfl ?_ ?_
            · intro f L w1 A ρ hρ hG hL hLd hd hu hA K hK
              have e1 : ρ (.tmp 27) = .pointer (some ⟨b, 11, none⟩) := (hA 27).trans ((show (puts _ f _ _).eval (.tmp 27) = f 1 from by kernel_rfl).trans (hd 1 (by kernel_rfl)))
              have c1 : w1.cell? ⟨b, 11, none⟩ = some (.slice A5 m c5) := hG.1.cell HA.out.1 HA.out.2.1
              refine fx_val hρ rfl (v := .slice A5 m c5) (w' := w1) (by simp [execOp, go_sem, e1, c1]) (hK _ _ rfl (Frm.refl _ _) (hG.keep (by decide) _ (Frm.refl _ _)))
            refine steps_cons 3 rfl ?_ ?_
            · intro f L w1 A ρ hρ hG hL hLd hd hu hA K hK
              have e1 : ρ (.tmp 1) = .slice (some ⟨g, o1, none⟩) n c := (hA 1).trans (by kernel_rfl)
              refine fx_val hρ rfl (v := .slice (some ⟨g, o1, none⟩) n c) (w' := w1) (by simp [execOp, go_sem, e1]) (hK _ _ rfl (Frm.refl _ _) (hG.keep (by decide) _ (Frm.refl _ _)))
            refine steps_cons 4 rfl ?_ ?_
            · intro f L w1 A ρ hρ hG hL hLd hd hu hA K hK
              have e1 : ρ (.tmp 6) = .int .i64 (k : Nat) := (hA 6).trans (by kernel_rfl)
              refine fx_val hρ rfl (v := .int .i64 (k : Nat)) (w' := w1) (by simp [execOp, go_sem, e1]) (hK _ _ rfl (Frm.refl _ _) (hG.keep (by decide) _ (Frm.refl _ _)))
            refine steps_cons 5 rfl ?_ ?_
            · intro f L w1 A ρ hρ hG hL hLd hd hu hA K hK
              have e0 : ρ (.tmp 29) = .slice (some ⟨g, o1, none⟩) n c := (hA 29).trans ((show (puts _ f _ _).eval (.tmp 29) = f 3 from by kernel_rfl).trans (hd 3 (by kernel_rfl)))
              have e2 : ρ (.tmp 30) = .int .i64 (k : Nat) := (hA 30).trans ((show (puts _ f _ _).eval (.tmp 30) = f 4 from by kernel_rfl).trans (hd 4 (by kernel_rfl)))
              have hk := HA.out.2.2.1
              refine fx_val hρ rfl (v := .pointer (some ⟨g, o1 + k, none⟩)) (w' := w1) (by simp [execOp, go_sem, e0, e2, Addr.add]; rw [if_pos (by omega)]; split <;> simp_all) (hK _ _ rfl (Frm.refl _ _) (hG.keep (by decide) _ (Frm.refl _ _)))
            refine steps_cons 6 rfl ?_ ?_
            · intro f L w1 A ρ hρ hG hL hLd hd hu hA K hK
              have e1 : ρ (.tmp 31) = .pointer (some ⟨g, o1 + k, none⟩) := (hA 31).trans ((show (puts _ f _ _).eval (.tmp 31) = f 5 from by kernel_rfl).trans (hd 5 (by kernel_rfl)))
              have c1 : w1.cell? ⟨g, o1 + k, none⟩ = some (.string S) := hG.1.cell HA.out.2.2.2.1 HA.out.2.2.2.2.1
              refine fx_val hρ rfl (v := .string S) (w' := w1) (by simp [execOp, go_sem, e1, c1]) (hK _ _ rfl (Frm.refl _ _) (hG.keep (by decide) _ (Frm.refl _ _)))
            refine steps_cons 7 rfl ?_ ?_
            · intro f L w1 A ρ hρ hG hL hLd hd hu hA K hK
              have e1 : ρ (.tmp 32) = .string S := (hA 32).trans ((show (puts _ f _ _).eval (.tmp 32) = f 6 from by kernel_rfl).trans (hd 6 (by kernel_rfl)))
              have c1 : (S.toList == [121, 101, 115]) = y := HA.out.2.2.2.2.2.1
              refine fx_val hρ rfl (v := .bool y) (w' := w1) (by simp [execOp, go_sem, e1, c1, hρ.c]) (hK _ _ rfl (Frm.refl _ _) (hG.keep (by decide) _ (Frm.refl _ _)))
            refine steps_cons 8 rfl ?_ ?_
            · intro f L w1 A ρ hρ hG hL hLd hd hu hA K hK
              have e1 : ρ (.tmp 33) = .bool y := (hA 33).trans ((show (puts _ f _ _).eval (.tmp 33) = f 7 from by kernel_rfl).trans (hd 7 (by kernel_rfl)))
              refine fx_val hρ rfl (v := .slice (some ⟨w1.heap.size, 0, none⟩) 1 1) (w' := w1.alloc (.cells #[.bool y] 4)) (by simp [execOp, go_sem, e1]) (hK _ _ ⟨_, rfl, hG.1.size, (Blk.new w1 4 #[.bool y]).cell 0⟩ ((Frm.refl _ _).alloc _) (hG.keep (by decide) _ ((Frm.refl _ _).alloc _)))
            refine steps_cons 9 rfl ?_ ?_
            · intro f L w1 A ρ hρ hG hL hLd hd hu hA K hK
              have e1 : ρ (.tmp 28) = .slice A5 m c5 := (hA 28).trans ((show (puts _ f _ _).eval (.tmp 28) = f 2 from by kernel_rfl).trans (hd 2 (by kernel_rfl)))
              obtain ⟨g8, e8, hg8, hc8⟩ := hd 8 (by kernel_rfl)
              have e0 : ρ (.tmp 34) = f 8 := (hA 34).trans (show (puts _ f _ _).eval (.tmp 34) = f 8 from by kernel_rfl)
              rw [e8] at e0
              have hW := hG.2.1 hL
              refine wpList_append_sl (by rfl) (.tmp 28) (.tmp 34) 25 (by rfl) B 4 i0 (.bool false) 1 Tryz.underlying25 hi hz0 hz1 hz2 (by rfl) (.slice A5 m c5) m (bvs s1.answers) (by rw [hρ.ev]; exact e1) (hW.own HA.out.2.2.2.2.2.2.1 fun _ _ => id) (fun _ => True) _ [.bool y] (by rw [hρ.ev]; exact e0) (sl_one hc8) (by intro u hu; rw [List.mem_singleton.1 hu]; rfl) (by have := HA.out.2.2.2.2.2.2.2.1; unfold maxLen; simp; omega) (by have := HA.out.2.2.2.2.2.2.2.1; simp; omega) (Nat.le_trans HA.out.2.2.2.2.2.2.2.2 hW.size) ?_
              intro A6 N6 c6 w6 HN hNc hc6 hown hg hat
              obtain rfl : N6 = m + 1 := by simpa using HN.out
              have hS6 : Frm (fun q => (Value.slice A5 m c5).ownBlock = some q) w1 w6 := (Frm.refl (fun q => (Value.slice A5 m c5).ownBlock = some q) w1).grown hg fun q hq => .inl hq
              refine hK _ _ trivial hS6 ⟨hG.1.trans' hS6, fun (h : setL L 9 9 = false) => ?_, fun _ => ?_⟩
              · rw [setL_same] at h; cases h
              · rw [upd_same]
                refine ⟨A6, c6, rfl, hown, hat.imp id fun h q hq => ?_⟩
                rw [h] at hq
                cases hq
                exact hW.size
            refine steps_cons 10 rfl ?_ ?_
            · intro f L w1 A ρ hρ hG hL hLd hd hu hA K hK
              have e1 : ρ (.tmp 2) = .pointer (some ⟨b, 0, none⟩) := (hA 2).trans (by kernel_rfl)
              refine fx_val hρ rfl (v := .pointer (some ⟨b, 2, none⟩)) (w' := w1) (by simp [execOp, go_sem, e1]) (hK _ _ rfl (Frm.refl _ _) (hG.keep (by decide) _ (Frm.refl _ _)))
            refine steps_cons 11 rfl ?_ ?_
            · intro f L w1 A ρ hρ hG hL hLd hd hu hA K hK
              have e1 : ρ (.tmp 36) = .pointer (some ⟨b, 2, none⟩) := (hA 36).trans ((show (puts _ f _ _).eval (.tmp 36) = f 10 from by kernel_rfl).trans (hd 10 (by kernel_rfl)))
              refine fx_val hρ rfl (v := .pointer (some ⟨b, 11, none⟩)) (w' := w1) (by simp [execOp, go_sem, e1]) (hK _ _ rfl (Frm.refl _ _) (hG.keep (by decide) _ (Frm.refl _ _)))
            exact steps_nil
          case fin =>
            intro f L w3 hG hLL hV
            obtain ⟨A6, c6, h9, hown, hat⟩ := hG.2.2 (hLL 9 rfl)
            have h11 : f 11 = .pointer (some ⟨b, 11, none⟩) := hV 11 rfl
            have hF6 := hG.1
            simp only [puts, dstOf, List.getElem?_cons_succ, List.getElem?_cons_zero, Option.bind_some, Act.put, List.setIfInBounds_toArray, List.set_cons_succ, List.set_cons_zero, h9, h11]
            have hb6 := HB0.out.1.kept hF6 HA.out.2.1
            have hr6 := HB0.out.2.1.kept hF6 (own_blk_ne HA.out.2.2.2.2.2.2.1 HB0.out.2.1 (by decide))
            have hc6' : w3.cell? ⟨b, 11, none⟩ = some (.slice A5 m c5) := by rw [hb6.cell]; rfl
            have hz6 := hb6.frozen 11
            have H6 := Lib.hid (And.intro hown (And.intro hF6 (And.intro hat (And.intro hb6 (And.intro hr6 h9)))))
            clear hown hF6 hat hb6 hr6 hG hV hLL h9 h11
            refine plan_one 12 (by kernel_rfl) rfl ?_
            intro K2 hK2
            go_wp2_with fail
            refine plan_done (by kernel_rfl) ?_
            go_wp2_with fail
            go_roundw
            case rel =>
              obtain ⟨hown, hF6, hat, hb6, hr6, h9⟩ := H6.out
              have hbw := Hb.out
              have hm1 := HR.out.2.2.2.2.2.2.2.2.1
              have hpush := push_answer (y := y) HB0.out.2.2.1 hF6 (by rw [← hm1]; exact hown)
              refine ⟨k + 1, by omega, by go_num, Lib.hid ⟨{ s1 with answers := s1.answers ++ [y] }, .slice A6 (m + 1) c6, by rw [HR.out.1, Hy.out], hb6.set_ 11 _, hr6.far (p := ⟨b, 11, none⟩) (by show b + 1 ≠ b; omega) _, hpush.setC hb6, ?_, by have := HR.out.2.2.2.2.2.1; simp; omega, fun q hq => ?_⟩⟩
              · refine (HB0.out.2.2.2.trans hF6 fun q hq => ?_).setCell ⟨b, 11, none⟩ (.inr (by show w.heap.size ≤ b; omega)) _
                rcases HR.out.2.2.2.2.2.2.1 q hq with h | h
                · exact .inl (.inr (.inr (.inl h)))
                · exact .inr h
              · rw [h9] at hat
                rcases hat with h | h
                · exact HR.out.2.2.2.2.2.2.1 q (h ▸ hq)
                · exact .inr (Nat.le_trans HB0.out.2.2.2.size (h q hq))
            case measure => simp [intOf]; omega
      · have Ho := Lib.hid (show o = none by
          rw [HM.out.2.2.2.1, if_neg (fun e => by have := HM.out.2.2.2.2; rw [e] at this; simp at this; omega), HR.out.1, HR.out.2.2.2.2.2.2.2.1, if_neg (fun e => hyes (.inl (e.trans (by decide)))), if_neg (fun e => hyes (.inr (e.trans (by decide))))])
        rw [decide_eq_false (fun e => hyes (.inl e))] at g0
        rw [decide_eq_false (fun e => hyes (.inr e))] at g1
        obtain ⟨C1, hC1⟩ : ∃ C1, C1 = stCells s1 wv rv (.slice A5 m c5) pv := ⟨_, rfl⟩
        have HC1 := Lib.hid (And.intro (show Blk wr b 33 C1 by rw [hC1]; exact HR.out.2.1) (show C1.size = 18 ∧ C1.all (·.oneCell') = true by rw [hC1]; exact ⟨rfl, HR.out.2.2.2.1.one⟩))
        clear hyes h0 h1 hC1
        generalize ba x = S at *
        go_wp2_with (first | (refine wpList_loadT (by rfl) 33 (.tmp 2) (by rfl) b (by rfl) C1 _ _ HC1.out.1 Tryz.underlying33 (by rfl) (by rw [HC1.out.2.1]; exact st_info) ?_) | (refine wpList_store_rowT rfl 33 (.tmp 4) (.tmp 25) rfl rfl (b + 1) C1 rfl rfl _ _ HR.out.2.2.1 (by rw [HC1.out.2.1]; exact st_info) (by rw [HC1.out.2.1]; rfl) HC1.out.2.2 ?_))
        refine bodyPost_ret (say_ret rfl rfl (Blk.setRow HR.out.2.2.1 _) HC1.out.2.1 rfl) rfl ?_
        exact SayPost.no Ho.out HC1.out.2.1 HC1.out.2.2 (frm_set HR.out.2.2.2.2.1 (by have := Hb.out; omega))
    · obtain rfl : n = k := by omega
      rw [show ws.drop n = [] from List.drop_of_length_le (by have := HM.out.2.2.2.2; omega)] at hws
      obtain ⟨C1, hC1⟩ : ∃ C1, C1 = stCells s1 wv rv av1 pv := ⟨_, rfl⟩
      rw [← hC1] at hbb
      have HR := Lib.hid (And.intro hws (And.intro hbb (And.intro hbr (And.intro hl1 (And.intro hfr (And.intro hC1 (show C1.size = 18 ∧ C1.all (·.oneCell') = true by rw [hC1]; exact ⟨rfl, hl1.one⟩)))))))
      clear hws hbb hbr hl1 hfr hsl hav hC1
      obtain ⟨q, hq⟩ : ∃ q, q = decide (0 < n) := ⟨_, rfl⟩
      have Hq := Lib.hid hq
      have hq1 : decide ((n : Int) > 0) = q := by rw [hq, decide_eq_decide]; omega
      have hq2 : decide (0 < n) = q := hq.symm
      clear hq
      go_wp2_with (first | (refine wpList_loadT (by rfl) 33 (.tmp 2) (by rfl) b (by rfl) C1 _ _ HR.out.2.1 Tryz.underlying33 (by rfl) (by rw [HR.out.2.2.2.2.2.2.1]; exact st_info) ?_) | (refine wpList_store_rowT rfl 33 (.tmp 4) (.tmp 38) rfl rfl (b + 1) C1 rfl rfl _ _ HR.out.2.2.1 (by rw [HR.out.2.2.2.2.2.2.1]; exact st_info) (by rw [HR.out.2.2.2.2.2.2.1]; rfl) HR.out.2.2.2.2.2.2.2 ?_))
      refine bodyPost_ret (say_ret (y := q) rfl rfl (Blk.setRow HR.out.2.2.1 _) HR.out.2.2.2.2.2.2.1 (by first | rfl | (rw [← hq2]; rfl) | (rw [← hq1]; rfl))) rfl ?_
      have hmm := HM.out.2.2.2
      have hbw := Hb.out
      cases q with
      | false =>
        have hn0 : n = 0 := by have := of_decide_eq_false Hq.out.symm; omega
        exact SayPost.no (by rw [hmm.1, if_pos (List.eq_nil_of_length_eq_zero (by omega))]) HR.out.2.2.2.2.2.2.1 HR.out.2.2.2.2.2.2.2 (frm_set HR.out.2.2.2.2.1 (by omega))
      | true =>
        have hn0 : 0 < n := of_decide_eq_true Hq.out.symm
        rw [HR.out.2.2.2.2.2.1]
        exact SayPost.yes (st' := s1) (by rw [hmm.1, if_neg (fun e => by rw [e] at hmm; simp at hmm; omega), HR.out.1]; rfl) (frm_set HR.out.2.2.2.2.1 (by omega)) (HR.out.2.2.2.1.setStory HR.out.2.2.1)
end Go.Proofs.YtpcdbkaeijhmfaaGreatDoor
