/- The walk of ScriptBack. -/
import Derived.Test.YtpcdbkaeijhmfaaDoorAw
import Derived.Test.YtpcdbkaeijhmfaaDoorBk
import Derived.Test.YtpcdbkaeijhmfaaDoorGs
import Derived.Test.YtpcdbkaeijhmfaaDoorFx
import Derived.Test.YtpcdbkaeijhmfaaDoorTwo
namespace Go.Proofs.YtpcdbkaeijhmfaaDoor
set_option maxRecDepth 100000
set_option linter.unusedVariables false
set_option linter.unusedSimpArgs false
open Go.RowKit
attribute [local go_sem] Oper.semAt_some
theorem cap_each (l : List By) (h : capS l ≤ 3000) : ∀ x ∈ l, x.length ≤ 3000 := by
  induction l with
  | nil => intro x hx; cases hx
  | cons y r ih =>
    have e : capS (y :: r) = min y.length 9000 + capS r := by simp [capS]
    rw [e] at h
    intro x hx
    rcases List.mem_cons.1 hx with rfl | hx
    · omega
    · exact ih (by omega) x hx
theorem exec_slice {P : Program} {o : Oper} {ty : TypeId} {x : Operand} {lo hi mx : Option Operand} (ht : P.underlying ty = some .string) (ho : o.op = .slice ty x lo hi mx) {ρ : Operand → Value} {w w' : World} {v : Value} (h : (Instr.slice ty (ρ x) (lo.map ρ) (hi.map ρ) (mx.map ρ)).run P w = .ok v w') : (execOp ρ o).run P w = .ok (.value v) w' := by
  unfold execOp
  simp only [ho, Sem.run_bind, run_sliceAt_string (h := ht), h, Result.andThen_ok, Sem.run_pure]
/-- A story that is not too great may be printed. -/
theorem okay_of (st : St) (hc : st.conf.length = 7) (hk : st.kind ≤ 255) (hs : st.seed ≤ 4294967295) (hg : greatS st = false) : Okay st := by
  unfold greatS greatN at hg
  rw [Bool.or_eq_false_iff, Bool.or_eq_false_iff, Bool.or_eq_false_iff, Bool.or_eq_false_iff] at hg
  obtain ⟨⟨⟨⟨h1, h2⟩, h3⟩, h4⟩, h5⟩ := hg
  have h1 := of_decide_eq_false h1
  have h2 := of_decide_eq_false h2
  have h3 := of_decide_eq_false h3
  have h4 := of_decide_eq_false h4
  have h5 := of_decide_eq_false h5
  rw [List.take_of_length_le (by omega), List.take_of_length_le (by omega)] at h1
  exact ⟨hc, ⟨by omega, fun x hx => by have := cap_each st.words (by omega) x hx; omega⟩, ⟨by omega, fun x hx => by have := cap_each st.reads (by omega) x hx; omega⟩, by omega, by omega, hs, hk⟩
theorem own_new (w : World) (cs : Array Value) (hc : cs.size ≤ 1000) : (w.alloc (.cells cs 9)).ownsRow 0 9 1 (.slice (some ⟨w.heap.size, 0, none⟩) cs.size cs.size) cs.size cs.toList :=
  ⟨by simp, .inr ⟨w.heap.size, cs.size, cs, rfl, Nat.zero_le _, Blk.new w 9 cs, Nat.le_refl _, by unfold maxLen; omega, by simp, by rw [Nat.mul_one, ← Array.length_toList, List.take_length]⟩⟩
/-- A step that leaves all but stories' blocks from B on. -/
def StS (B : Nat) (w w' : World) : Prop := Frm (fun q => B ≤ q ∧ ∃ cs, Blk w q 33 cs) w w' ∧ ∀ q cs, Blk w q 33 cs → cs.size = 18 → ∃ cs', Blk w' q 33 cs' ∧ cs'.size = 18
theorem StS.of {B : Nat} {w w' : World} (h : Frm (fun _ => False) w w') : StS B w w' := ⟨h.mono fun _ hk => hk.elim, fun q cs hb hs => ⟨cs, hb.kept h id, hs⟩⟩
theorem StS.ans {B b : Nat} {st : St} {C : Array Value} {w w' : World} (hS : StS B w w') (h : Ans b st C w) : Ans b st C w' := by
  obtain ⟨wv, rv, av, pv, e, h⟩ := h
  have hF := hS.1
  have hne : ∀ {t : TypeId} {v : Value} {n s : Nat} {xs : List Value}, w.ownsRow b t s v n xs → t ≠ 33 → ∀ q, v.ownBlock = some q → ¬ (B ≤ q ∧ ∃ cs, Blk w q 33 cs) := fun ho hn q hq hk => by
    obtain ⟨-, cs, hb⟩ := hk
    exact own_blk_ne ho hb hn hq
  have hbt : ∀ q cs, Blk w q 5 cs → ¬ (B ≤ q ∧ ∃ cs, Blk w q 33 cs) := fun q cs hc hk => by
    obtain ⟨-, cs', hb⟩ := hk
    unfold Blk at hc hb
    rw [hb] at hc
    injection hc with hc
    injection hc with _ hc
    exact absurd hc (by decide)
  have ht : ∀ {v : Value} {L : List By}, TxR w b v L → TxR w' b v L := fun hx => hx.kept hF (fun q hq => by obtain ⟨vs, h3, -⟩ := hx; exact hne h3 (by decide) q hq) hbt
  exact ⟨wv, rv, av, pv, e, ht h.words, ht h.reads, hF.own h.answers (hne h.answers (by decide)), hF.own h.picks (hne h.picks (by decide)), h.apart⟩
theorem StS.own {B b n : Nat} {v : Value} {xs : List Value} {w w' : World} (hS : StS B w w') (h : w.ownsRow b 9 1 v n xs) : w'.ownsRow b 9 1 v n xs :=
  hS.1.own h fun q hq hk => by
    obtain ⟨-, cs, hb⟩ := hk
    exact own_blk_ne h hb (by decide) hq
/-- The region's relation: the store has come just behind what it stores, and where. -/
structure BG (w2 : World) (L : Nat → Bool) (f : Nat → Value) (w : World) : Prop where
  fr : Frm (fun _ => False) w2 w
  l9 : L 13 = true → L 9 = true ∧ L 12 = true
  put : L 13 = true → ∃ g C, f 12 = .pointer (some ⟨g, 0, none⟩) ∧ f 9 = .agg C ∧ Blk w g 33 C
theorem BG.keep {w2 w w' : World} {L : Nat → Bool} {f : Nat → Value} (h : BG w2 L f w) {i : Nat} (hi : i ≠ 13) (hL : L i = false) (v : Value) (hF : Frm (fun _ => False) w w') : BG w2 (setL L i) (upd f i v) w' := by
  have e13 : setL L i 13 = L 13 := setL_ne L (Ne.symm hi)
  have key : L 13 = true → 9 ≠ i ∧ 12 ≠ i := fun h13 => ⟨fun e => (by subst e; rw [(h.l9 h13).1] at hL; cases hL), fun e => (by subst e; rw [(h.l9 h13).2] at hL; cases hL)⟩
  refine ⟨h.fr.trans' hF, fun h13 => ?_, fun h13 => ?_⟩
  · rw [e13] at h13
    rw [setL_ne L (key h13).1, setL_ne L (key h13).2]
    exact h.l9 h13
  · rw [e13] at h13
    rw [upd_ne f v (key h13).1, upd_ne f v (key h13).2]
    obtain ⟨g, C, e1, e2, hb⟩ := h.put h13
    exact ⟨g, C, e1, e2, hb.kept hF id⟩
theorem BG.lay {w2 w : World} {L : Nat → Bool} {f : Nat → Value} (h : BG w2 L f w) (h9 : L 9 = true) (h12 : L 12 = true) {g : Nat} {C cs : Array Value} (e12 : f 12 = .pointer (some ⟨g, 0, none⟩)) (e9 : f 9 = .agg C) (hg : w2.heap.size ≤ g) (hb : Blk w g 33 cs) (v : Value) : BG w2 (setL L 13) (upd f 13 v) (w.setRow g C) := by
  refine ⟨h.fr.trans (K' := fun q => q = g) ((Frm.refl (fun q => q = g) w).setRow (.inl rfl) _) fun q hq => .inr (by omega), fun _ => ?_, fun _ => ?_⟩
  · rw [setL_ne L (by omega), setL_ne L (by omega)]; exact ⟨h9, h12⟩
  · rw [upd_ne f v (by omega), upd_ne f v (by omega)]
    exact ⟨g, C, e12, e9, hb.setRow _⟩
theorem StS.lay {B g : Nat} {w : World} {C cs : Array Value} (hg : B ≤ g) (hb : Blk w g 33 cs) (hC : C.size = 18) : StS B w (w.setRow g C) := by
  have hF : Frm (fun q => q = g) w (w.setRow g C) := (Frm.refl (fun q => q = g) w).setRow (.inl rfl) _
  refine ⟨hF.mono fun q hq => .inl (by subst hq; exact ⟨hg, cs, hb⟩), fun q cs' hb' hs => ?_⟩
  by_cases e : q = g
  · subst e; exact ⟨C, hb.setRow _, hC⟩
  · exact ⟨cs', hb'.kept hF e, hs⟩
set_option maxHeartbeats 16000000 in
theorem back_law (st : St) (wv rv av pv : Value) (at_ : Int) (w : World) (hL : LsR w (InW w) st wv rv av pv) (hc : st.conf.length = 7) (hk : st.kind ≤ 255) (hs : st.seed ≤ 4294967295) (ha : -9223372036854775808 ≤ at_ ∧ at_ ≤ 9223372036854775807) (hg : Gl w) :
    Calls Tryd.prog 3 #[.agg (stCells st wv rv av pv), .int .i64 at_] w fun e w' => e = .returned (.bool true) ∧ Frm (fun _ => False) w w' := by
  obtain ⟨C, hC⟩ : ∃ C, C = stCells st wv rv av pv := ⟨_, rfl⟩
  rw [← hC]
  have hi : (Tryd.prog.info? 33).map (·.size) = some C.size := by rw [hC]; exact st_info
  have hB := Blk.new w 33 C
  have hF0 : Frm (fun _ => False) w (w.alloc (.cells C 33)) := (Frm.refl _ w).alloc _
  obtain ⟨g0, hg0⟩ : ∃ g, g = w.heap.size := ⟨_, rfl⟩
  rw [← hg0] at hB
  have HG0 := Lib.hid hg0
  have HC := Lib.hid hC
  have HI := Lib.hid hi
  have H := Lib.hid (And.intro hL (And.intro hc (And.intro hk (And.intro hs (And.intro ha hg)))))
  clear hL hc hk hs ha hg hi hC hg0
  go_enter Tryd.func3, Tryd.ntmps3
  go_upto_region 1 with fail
  rw [← HG0.out]
  generalize w.alloc (.cells C 33) = w0 at *
  have HB := Lib.hid hB
  have HF0 := Lib.hid hF0
  clear hB hF0
  go_wp2_with (refine wpList_loadT (by rfl) 33 (.tmp 2) (by rfl) g0 (by rfl) C _ _ HB.out Tryd.underlying33 (by rfl) HI.out ?_)
  rw [HC.out]
  refine (greatS_any st wv rv av pv w0 (H.out.1.kept HF0.out)).mono ?_
  rintro e w1 ⟨rfl, hF1⟩
  have HF1 := Lib.hid (HF0.out.trans' hF1)
  have HB1 := Lib.hid (HB.out.kept hF1 id)
  clear hF1
  cases hgt : greatS st with
  | true =>
    have hw := wakes_any w1 (H.out.2.2.2.2.2.frm HF1.out)
    go_wp2_with fail
    refine hw.mono ?_
    rintro e w2 ⟨rfl, hF2⟩
    have HF2 := Lib.hid (HF1.out.trans' hF2)
    clear hw hF2
    go_wp2_with fail
    go_ret
    exact ⟨rfl, HF2.out⟩
  | false =>
    have HO := Lib.hid (okay_of st H.out.2.1 H.out.2.2.1 H.out.2.2.2.1 hgt)
    clear hgt
    go_wp2_with (refine wpList_loadT (by rfl) 33 (.tmp 2) (by rfl) g0 (by rfl) C _ _ HB1.out Tryd.underlying33 (by rfl) HI.out ?_)
    rw [HC.out]
    refine (print_any st wv rv av pv w1 (H.out.1.kept HF1.out) HO.out (H.out.2.2.2.2.2.frm HF1.out)).mono ?_
    rintro e w2 ⟨hF2, hP⟩
    have HF2 := Lib.hid (HF1.out.trans' hF2)
    have HB2 := Lib.hid (HB1.out.kept hF2 id)
    clear hF2
    cases hpr : printB st with
    | none =>
      rw [hpr] at hP
      have hP' : e = .returned (.tuple #[.string { data := #[] }, .int .i64 2]) := hP
      subst hP'
      have hw := wakes_any w2 (H.out.2.2.2.2.2.frm HF2.out)
      clear hP hpr
      go_wp2_with fail
      refine hw.mono ?_
      rintro e w3 ⟨rfl, hF3⟩
      have HF3 := Lib.hid (HF2.out.trans' hF3)
      clear hw hF3
      go_wp2_with fail
      go_ret
      exact ⟨rfl, HF3.out⟩
    | some t =>
      rw [hpr] at hP
      have hP' : e = .returned (.tuple #[.string (ba t), .int .i64 0]) := hP
      subst hP'
      have HPP := Lib.hid (And.intro (parse_print st HO.out t hpr).1 (And.intro (parse_print st HO.out t hpr).2 hpr))
      clear hP hpr
      obtain ⟨n, hn⟩ : ∃ n, n = t.length := ⟨_, rfl⟩
      have hsz : (ba t).size = n := by rw [hn]; rfl
      have hn9 : n ≤ 65536 := by have := HPP.out.2.1; omega
      have Hn := Lib.hid hn
      clear hn
      go_upto_region 6 with fail
      go_cut [1] (fun tv wc => wc = w2 ∧ ∃ m : Nat, tv = .int .i64 m ∧ m ≤ n)
      case first =>
        go_wp2_with fail
        go_meet
        case rel => exact ⟨rfl, (min (max at_ 0) n).toNat, by congr 1; omega, by omega⟩
      case rest =>
        obtain ⟨hwc, m, rfl, hm⟩ := hcut
        obtain rfl := hwc.symm
        have HM := Lib.hid (show m ≤ t.length by rw [← Hn.out]; exact hm)
        have HTL := Lib.hid (show ([t.take m, [], t.drop m] : List By).flatten.length ≤ 140737488355328 by have := HPP.out.2.1; simp; omega)
        have HG := Lib.hid (And.intro HF2.out (H.out.2.2.2.2.2.frm HF2.out))
        clear hm hsz
        go_upto_region 7 with fail
        refine plan_begin (by kernel_rfl) 16 (by kernel_rfl) ?_
        refine plan_fxg [0, 1, 2, 3, 4, 5, 6, 7, 8, 9, 10, 11, 12, 13, 14, 15] (fun (j : Nat) (v : Value) (w : World) => (match j with | 0 => v = .string (ba t) | 1 => v = .int .i64 m | 2 => v = .string (ba (t.take m)) | 3 => v = .string (ba t) | 4 => v = .int .i64 m | 5 => v = .string (ba (t.drop m)) | 6 => ∃ A, v = .slice A 3 3 ∧ w.ownsRow 0 9 1 v 3 (svb [t.take m, [], t.drop m]) | 7 => ∃ C, v = .tuple #[.agg C, .int .i64 0, .int .i64 0] ∧ Ans 0 st C w | 8 => ∃ C, v = .tuple #[.agg C, .int .i64 0, .int .i64 0] ∧ Ans 0 st C w | 9 => ∃ C, v = .agg C ∧ Ans 0 st C w | 10 => v = .int .i64 0 | 11 => v = .int .i64 0 | 12 => ∃ g, v = .pointer (some ⟨g, 0, none⟩) ∧ w2.heap.size ≤ g ∧ ∃ cs, Blk w g 33 cs ∧ cs.size = 18 | 13 => True | 14 => v = .int .i64 0 | 15 => v = .int .i64 0 | _ => True : Prop)) (BG w2) (StS w2.heap.size) #[true, true, true, true, true, true, true, true, true, true, true, true, true, true, true, true] 0 (by kernel_rfl) (by kernel_rfl) (by kernel_rfl) (by kernel_rfl) (by kernel_rfl) (by kernel_rfl) (by kernel_rfl) (by kernel_rfl) (fun f => ⟨(Frm.refl _ _).drew, fun h => absurd h ?hl0, fun h => absurd h ?hl1⟩) ?hV ?steps ?fin
        case hl0 => rw [upTo_at]; simp
        case hl1 => rw [upTo_at]; simp
        case hV =>
          intro j v w1 w2 h hF
          match j, h with
          | 0, h => exact h
          | 1, h => exact h
          | 2, h => exact h
          | 3, h => exact h
          | 4, h => exact h
          | 5, h => exact h
          | 6, ⟨A, e, hs⟩ => exact ⟨A, e, hF.own hs⟩
          | 7, ⟨C, e, hs⟩ => exact ⟨C, e, hF.ans hs⟩
          | 8, ⟨C, e, hs⟩ => exact ⟨C, e, hF.ans hs⟩
          | 9, ⟨C, e, hs⟩ => exact ⟨C, e, hF.ans hs⟩
          | 10, h => exact h
          | 11, h => exact h
          | 12, ⟨g, e, h1, cs, h2, h3⟩ => exact (hF.2 g cs h2 h3).elim fun cs2 h4 => ⟨g, e, h1, cs2, h4⟩
          | 13, h => exact h
          | 14, h => exact h
          | 15, h => exact h
          | _ + 16, _ => trivial
        case steps =>
          refine steps_cons 0 rfl ?_ ?_
          · intro f L w1 A ρ hρ hG hL hLd hd hu hA K hK
            have e1 : ρ (.tmp 5) = .string (ba t) := (hA 5).trans (by kernel_rfl)
            refine fx_val hρ rfl (v := .string (ba t)) (w' := w1) (by simp [execOp, go_sem, e1]) (hK _ _ rfl (StS.of (Frm.refl _ _)) (hG.keep (by decide) hL _ (Frm.refl _ _)))
          refine steps_cons 1 rfl ?_ ?_
          · intro f L w1 A ρ hρ hG hL hLd hd hu hA K hK
            have e1 : ρ (.tmp 1) = .int .i64 m := (hA 1).trans (by kernel_rfl)
            refine fx_val hρ rfl (v := .int .i64 m) (w' := w1) (by simp [execOp, go_sem, e1]) (hK _ _ rfl (StS.of (Frm.refl _ _)) (hG.keep (by decide) hL _ (Frm.refl _ _)))
          refine steps_cons 2 rfl ?_ ?_
          · intro f L w1 A ρ hρ hG hL hLd hd hu hA K hK
            have e1 : ρ (.tmp 37) = .string (ba t) := (hA 37).trans ((show (puts _ f _ _).eval (.tmp 37) = f 0 from by kernel_rfl).trans (hd 0 (by kernel_rfl)))
            have e2 : ρ (.tmp 38) = .int .i64 m := (hA 38).trans ((show (puts _ f _ _).eval (.tmp 38) = f 1 from by kernel_rfl).trans (hd 1 (by kernel_rfl)))
            have c1 := run_to (P := Tryd.prog) Tryd.underlying9 t m HM.out w1
            refine fx_val hρ rfl (v := .string (ba (t.take m))) (w' := w1) (exec_slice Tryd.underlying9 rfl (by simp only [Option.map_some, Option.map_none, e1, e2]; exact c1)) (hK _ _ rfl (StS.of (Frm.refl _ _)) (hG.keep (by decide) hL _ (Frm.refl _ _)))
          refine steps_cons 3 rfl ?_ ?_
          · intro f L w1 A ρ hρ hG hL hLd hd hu hA K hK
            have e1 : ρ (.tmp 5) = .string (ba t) := (hA 5).trans (by kernel_rfl)
            refine fx_val hρ rfl (v := .string (ba t)) (w' := w1) (by simp [execOp, go_sem, e1]) (hK _ _ rfl (StS.of (Frm.refl _ _)) (hG.keep (by decide) hL _ (Frm.refl _ _)))
          refine steps_cons 4 rfl ?_ ?_
          · intro f L w1 A ρ hρ hG hL hLd hd hu hA K hK
            have e1 : ρ (.tmp 1) = .int .i64 m := (hA 1).trans (by kernel_rfl)
            refine fx_val hρ rfl (v := .int .i64 m) (w' := w1) (by simp [execOp, go_sem, e1]) (hK _ _ rfl (StS.of (Frm.refl _ _)) (hG.keep (by decide) hL _ (Frm.refl _ _)))
          refine steps_cons 5 rfl ?_ ?_
          · intro f L w1 A ρ hρ hG hL hLd hd hu hA K hK
            have e1 : ρ (.tmp 40) = .string (ba t) := (hA 40).trans ((show (puts _ f _ _).eval (.tmp 40) = f 3 from by kernel_rfl).trans (hd 3 (by kernel_rfl)))
            have e2 : ρ (.tmp 41) = .int .i64 m := (hA 41).trans ((show (puts _ f _ _).eval (.tmp 41) = f 4 from by kernel_rfl).trans (hd 4 (by kernel_rfl)))
            have c1 := run_from (P := Tryd.prog) Tryd.underlying9 t m HM.out w1
            refine fx_val hρ rfl (v := .string (ba (t.drop m))) (w' := w1) (exec_slice Tryd.underlying9 rfl (by simp only [Option.map_some, Option.map_none, e1, e2]; exact c1)) (hK _ _ rfl (StS.of (Frm.refl _ _)) (hG.keep (by decide) hL _ (Frm.refl _ _)))
          refine steps_cons 6 rfl ?_ ?_
          · intro f L w1 A ρ hρ hG hL hLd hd hu hA K hK
            have e1 : ρ (.tmp 39) = .string (ba (t.take m)) := (hA 39).trans ((show (puts _ f _ _).eval (.tmp 39) = f 2 from by kernel_rfl).trans (hd 2 (by kernel_rfl)))
            have e2 : ρ (.tmp 42) = .string (ba (t.drop m)) := (hA 42).trans ((show (puts _ f _ _).eval (.tmp 42) = f 5 from by kernel_rfl).trans (hd 5 (by kernel_rfl)))
            refine fx_val hρ rfl (v := .slice (some ⟨w1.heap.size, 0, none⟩) 3 3) (w' := w1.alloc (.cells #[.string (ba (t.take m)), .string { data := #[] }, .string (ba (t.drop m))] 9)) (by simp [execOp, go_sem, e1, e2, hρ.c]) (hK _ _ ⟨_, rfl, ?_⟩ (StS.of ((Frm.refl _ _).alloc _)) (hG.keep (by decide) hL _ ((Frm.refl _ _).alloc _)))
            exact own_new w1 #[.string (ba (t.take m)), .string { data := #[] }, .string (ba (t.drop m))] (by simp)
          refine steps_cons 7 rfl ?_ ?_
          · intro f L w1 A ρ hρ hG hL hLd hd hu hA K hK
            obtain ⟨A, e1, hs⟩ := hd 6 (by kernel_rfl)
            have e0 : ρ (.tmp 43) = f 6 := (hA 43).trans (show (puts _ f _ _).eval (.tmp 43) = f 6 from by kernel_rfl)
            rw [e1] at e0 hs
            have hj := parseL_any [t.take m, [], t.drop m] A 3 3 w1 (Sl.of_own hs fun _ _ h => h) (by simp) HTL.out (HG.out.2.frm hG.fr)
            rw [show ([t.take m, [], t.drop m] : List By).flatten = t by simp] at hj
            refine fx_call hρ rfl _ _ _ rfl (by simp [e0]) (Tryd.call10 _ _) hj ?_
            rintro e w3 hP
            obtain ⟨C, rfl, hA, hF⟩ := parse_ok HPP.out.1 hP
            exact ⟨_, rfl, hK _ _ ⟨C, rfl, hA⟩ (StS.of hF) (hG.keep (by decide) hL _ hF)⟩
          refine steps_cons 8 rfl ?_ ?_
          · intro f L w1 A ρ hρ hG hL hLd hd hu hA K hK
            obtain ⟨C, e1, hs⟩ := hd 7 (by kernel_rfl)
            have e0 : ρ (.tmp 44) = f 7 := (hA 44).trans (show (puts _ f _ _).eval (.tmp 44) = f 7 from by kernel_rfl)
            rw [e1] at e0
            refine fx_val hρ rfl (v := .tuple #[.agg C, .int .i64 0, .int .i64 0]) (w' := w1) (by simp [execOp, go_sem, e0]) (hK _ _ ⟨C, rfl, hs⟩ (StS.of (Frm.refl _ _)) (hG.keep (by decide) hL _ (Frm.refl _ _)))
          refine steps_cons 9 rfl ?_ ?_
          · intro f L w1 A ρ hρ hG hL hLd hd hu hA K hK
            obtain ⟨C, e1, hs⟩ := hd 8 (by kernel_rfl)
            have e0 : ρ (.tmp 36) = f 8 := (hA 36).trans (show (puts _ f _ _).eval (.tmp 36) = f 8 from by kernel_rfl)
            rw [e1] at e0
            refine fx_val hρ rfl (v := .agg C) (w' := w1) (by simp [execOp, go_sem, e0]) (hK _ _ ⟨C, rfl, hs⟩ (StS.of (Frm.refl _ _)) (hG.keep (by decide) hL _ (Frm.refl _ _)))
          refine steps_cons 10 rfl ?_ ?_
          · intro f L w1 A ρ hρ hG hL hLd hd hu hA K hK
            obtain ⟨C, e1, hs⟩ := hd 8 (by kernel_rfl)
            have e0 : ρ (.tmp 36) = f 8 := (hA 36).trans (show (puts _ f _ _).eval (.tmp 36) = f 8 from by kernel_rfl)
            rw [e1] at e0
            refine fx_val hρ rfl (v := .int .i64 0) (w' := w1) (by simp [execOp, go_sem, e0]) (hK _ _ rfl (StS.of (Frm.refl _ _)) (hG.keep (by decide) hL _ (Frm.refl _ _)))
          refine steps_cons 11 rfl ?_ ?_
          · intro f L w1 A ρ hρ hG hL hLd hd hu hA K hK
            obtain ⟨C, e1, hs⟩ := hd 8 (by kernel_rfl)
            have e0 : ρ (.tmp 36) = f 8 := (hA 36).trans (show (puts _ f _ _).eval (.tmp 36) = f 8 from by kernel_rfl)
            rw [e1] at e0
            refine fx_val hρ rfl (v := .int .i64 0) (w' := w1) (by simp [execOp, go_sem, e0]) (hK _ _ rfl (StS.of (Frm.refl _ _)) (hG.keep (by decide) hL _ (Frm.refl _ _)))
          refine steps_cons 12 rfl ?_ ?_
          · intro f L w1 A ρ hρ hG hL hLd hd hu hA K hK
            refine fx_val hρ rfl (v := .pointer (some ⟨w1.heap.size, 0, none⟩)) (w' := w1.alloc (.cells zeroC 33)) (by simp [execOp, go_sem, zeroC, stCells, zeroSt]) (hK _ _ ⟨_, rfl, hG.fr.size, _, Blk.new w1 33 zeroC, rfl⟩ (StS.of ((Frm.refl _ _).alloc _)) (hG.keep (by decide) hL _ ((Frm.refl _ _).alloc _)))
          refine steps_cons 13 rfl ?_ ?_
          · intro f L w1 A ρ hρ hG hL hLd hd hu hA K hK
            obtain ⟨C, e1, hs⟩ := hd 9 (by kernel_rfl)
            have e0 : ρ (.tmp 45) = f 9 := (hA 45).trans (show (puts _ f _ _).eval (.tmp 45) = f 9 from by kernel_rfl)
            rw [e1] at e0
            obtain ⟨g, e2, hg, cs, hb, hcs⟩ := hd 12 (by kernel_rfl)
            have e3 : ρ (.tmp 7) = f 12 := (hA 7).trans (show (puts _ f _ _).eval (.tmp 7) = f 12 from by kernel_rfl)
            rw [e2] at e3
            refine fx_skp hρ rfl (w' := w1.setRow g C) (exec_store rfl e3 e0 (by simp only [Instr.storeAt, Instr.sureAddr, Sem.run_bind, Sem.run_pure, Result.andThen_ok, run_storeVar_row w1 g 33 33 cs C hb (by rw [hs.size]; exact st_info) (by rw [hs.size]; exact hcs) hs.one])) (hK _ _ trivial (StS.lay hg hb hs.size) (hG.lay (hLd 9 (by kernel_rfl)) (hLd 12 (by kernel_rfl)) e2 e1 hg hb _))
          refine steps_cons 14 rfl ?_ ?_
          · intro f L w1 A ρ hρ hG hL hLd hd hu hA K hK
            have e1 : ρ (.tmp 46) = .int .i64 0 := (hA 46).trans ((show (puts _ f _ _).eval (.tmp 46) = f 10 from by kernel_rfl).trans (hd 10 (by kernel_rfl)))
            refine fx_val hρ rfl (v := .int .i64 0) (w' := w1) (by simp [execOp, go_sem, e1]) (hK _ _ rfl (StS.of (Frm.refl _ _)) (hG.keep (by decide) hL _ (Frm.refl _ _)))
          refine steps_cons 15 rfl ?_ ?_
          · intro f L w1 A ρ hρ hG hL hLd hd hu hA K hK
            have e1 : ρ (.tmp 47) = .int .i64 0 := (hA 47).trans ((show (puts _ f _ _).eval (.tmp 47) = f 11 from by kernel_rfl).trans (hd 11 (by kernel_rfl)))
            refine fx_val hρ rfl (v := .int .i64 0) (w' := w1) (by simp [execOp, go_sem, e1]) (hK _ _ rfl (StS.of (Frm.refl _ _)) (hG.keep (by decide) hL _ (Frm.refl _ _)))
          exact steps_nil
        case fin =>
          intro f L w3 hG hL hV
          have h14 : f 14 = .int .i64 0 := hV 14 rfl
          have h15 : f 15 = .int .i64 0 := hV 15 rfl
          obtain ⟨g1, C2, h12, h9, hb⟩ := hG.put (hL 13 rfl)
          obtain ⟨C3, h9', hA⟩ : ∃ C, f 9 = .agg C ∧ Ans 0 st C w3 := hV 9 rfl
          rw [h9] at h9'
          injection h9' with h9'
          subst h9'
          simp only [puts, dstOf, List.getElem?_cons_succ, List.getElem?_cons_zero, Option.bind_some, Act.put, List.setIfInBounds_toArray, List.set_cons_succ, List.set_cons_zero, h9, h12, h14, h15]
          have HF4 := Lib.hid hG.fr
          have HB4 := Lib.hid hb
          have HA4 := Lib.hid hA
          have hi2 : (Tryd.prog.info? 33).map (·.size) = some C2.size := by rw [HA4.out.size]; exact st_info
          clear hV hG h9 h12 h14 h15 hA hb hL
          refine plan_done (by kernel_rfl) ?_
          have HI2 := Lib.hid hi2
          obtain ⟨wv2, rv2, av2, pv2, hC2, hL2⟩ := HA4.out.read
          have HC2 := Lib.hid (And.intro hC2 hL2)
          clear hi2 hC2 hL2
          go_wp2_with (refine wpList_loadT (by rfl) 33 (.tmp 7) (by rfl) g1 (by rfl) C2 _ _ HB4.out Tryd.underlying33 (by rfl) HI2.out ?_)
          rw [HC2.out.1]
          refine (print_any st wv2 rv2 av2 pv2 w3 HC2.out.2 HO.out (HG.out.2.frm HF4.out)).mono ?_
          rintro e w5 ⟨hF5, hP⟩
          rw [HPP.out.2.2] at hP
          have hP' : e = .returned (.tuple #[.string (ba t), .int .i64 0]) := hP
          subst hP'
          have HF5 := Lib.hid (HF4.out.trans' hF5)
          have HB5 := Lib.hid (And.intro (HB4.out.kept hF5 id) ((HB2.out.kept HF4.out id).kept hF5 id))
          have HL5 := Lib.hid (And.intro (HC2.out.2.kept hF5) (H.out.1.kept (HF2.out.trans' HF5.out)))
          clear hP hF5
          have hle : decide ((n : Int) ≤ 65536) = true := decide_eq_true (by omega)
          have hsz : (ba t).size = n := by rw [Hn.out]; rfl
          go_wp2_with (first | (refine wpList_loadT (by rfl) 33 (.tmp 7) (by rfl) g1 (by rfl) C2 _ _ HB5.out.1 Tryd.underlying33 (by rfl) HI2.out ?_) | (refine wpList_loadT (by rfl) 33 (.tmp 2) (by rfl) g0 (by rfl) C _ _ HB5.out.2 Tryd.underlying33 (by rfl) HI.out ?_))
          rw [HC2.out.1, HC.out]
          refine (same_any st st wv2 rv2 av2 pv2 wv rv av pv w5 HL5.out.1 HL5.out.2 H.out.2.1 H.out.2.1).mono ?_
          rintro e w6 ⟨rfl, hF6⟩
          rw [decide_eq_true rfl]
          have HF6 := Lib.hid (HF2.out.trans' (HF5.out.trans' hF6))
          clear hF6
          have hw := wakes_any w6 (H.out.2.2.2.2.2.frm HF6.out)
          go_wp2_with fail
          refine hw.mono ?_
          rintro e w7 ⟨rfl, hF7⟩
          have HF7 := Lib.hid (HF6.out.trans' hF7)
          clear hw hF7
          go_wp2_with fail
          go_ret
          exact ⟨rfl, HF7.out⟩
end Go.Proofs.YtpcdbkaeijhmfaaDoor
