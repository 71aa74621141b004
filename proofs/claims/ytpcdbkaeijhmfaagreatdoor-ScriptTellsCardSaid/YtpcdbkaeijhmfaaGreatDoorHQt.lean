/- The document's script: text. -/
import Derived.Deep.DeepCutAuto
import Derived.Test.YtpcdbkaeijhmfaaGreatDoorGC
import Derived.Test.YtpcdbkaeijhmfaaGreatDoorGA
import Derived.Test.YtpcdbkaeijhmfaaGreatDoorHPc
namespace Go.Proofs.YtpcdbkaeijhmfaaGreatDoor
set_option maxRecDepth 100000
set_option linter.unusedVariables false
set_option linter.unusedSimpArgs false
open Go.RowKit
attribute [local go_sem] Oper.semAt_some
theorem sl_one {w : World} {g : Nat} {v : Value} (hc : w.cell? ⟨g, 0, none⟩ = some v) : Sl w (fun _ => True) (.slice (some ⟨g, 0, none⟩) 1 1) [v] := by
  refine ⟨_, 1, 1, rfl, rfl, Nat.le_refl _, by omega, .inr ⟨g, 0, rfl, trivial, fun i h => ?_⟩⟩
  obtain rfl : i = 0 := by simpa using h
  exact hc
theorem u8_in (n : Int) (h0 : 0 ≤ n) (h : n < 256) : IntKind.u8.wrap n = n := by
  simp [IntKind.wrap, IntKind.bits, IntKind.signed]
  omega
theorem exec_index {P : Program} {o : Oper} {ty : TypeId} {x i : Operand} (ho : o.op = .index ty x i) {ρ : Operand → Value} {w w' : World} {v : Value} (h : (Instr.index ty (ρ x) (ρ i)).run P w = .ok v w') : (execOp ρ o).run P w = .ok (.value v) w' := by
  unfold execOp
  simp only [ho, Sem.run_bind, h, Result.andThen_ok, Sem.run_pure]
theorem txt_short (l : By) (h : l.length < 2) : txtB l = none := by
  match l, h with
  | [], _ => rfl
  | [c], _ => unfold txtB; simp
/-- A word of two bytes or more. -/
theorem txt_split (l : By) (n : Nat) (hn : l.length = n + 1) (h1 : 1 ≤ n) : txtB l = if l[0]? = some 34 ∧ l[n]? = some 34 then unqB ((l.take n).drop 1) else none := by
  cases l with
  | nil => simp at hn
  | cons c r =>
    have hr : r.length = n := by simpa using hn
    have e1 : r.getLast? = (c :: r)[n]? := by
      obtain ⟨k, rfl⟩ : ∃ k, n = k + 1 := ⟨n - 1, by omega⟩
      rw [List.getElem?_cons_succ, List.getLast?_eq_getElem?, hr]
      rfl
    have e2 : ((c :: r).take n).drop 1 = r.dropLast := by
      obtain ⟨k, rfl⟩ : ∃ k, n = k + 1 := ⟨n - 1, by omega⟩
      rw [List.take_succ_cons, List.drop_succ_cons, List.drop_zero, List.dropLast_eq_take, hr]
      rfl
    unfold txtB
    simp only
    rw [← e1, e2]
    simp
theorem body_at (l : By) (n jj : Nat) (hj : 1 ≤ jj) (hjn : jj < n) : ((l.take n).drop 1)[jj - 1]? = l[jj]? := by
  rw [List.getElem?_drop, show 1 + (jj - 1) = jj by omega, List.getElem?_take, if_pos hjn]
theorem UnqPost.yes {o : Option By} {w w' : World} {x : By} {v : Value} (h : o = some x) (ho : w'.ownsRow w.heap.size 5 1 v x.length (bv x)) (hF : Frm (fun _ => False) w w') : UnqPost o w (.returned (.tuple #[v, .bool true])) w' := by subst h; exact ⟨_, rfl, ho, hF⟩
set_option maxHeartbeats 8000000 in
theorem textR_any (l : By) (w : World) (hl : l.length ≤ 1000000) : Calls Tryz.prog 72 #[.string (ba l)] w (UnqPost (txtB l) w) := by
  obtain ⟨i0, hi, hz0, hz1, hz2⟩ := info_parts infoU
  obtain ⟨o, ho⟩ : ∃ o, o = txtB l := ⟨_, rfl⟩
  rw [← ho]
  by_cases hs2 : l.length < 2
  · have Ho := Lib.hid (show o = none by rw [ho]; exact txt_short l hs2)
    have hF := Lib.hid (Frm.refl (fun _ => False) w)
    have hc : l.length = 0 ∨ l.length = 1 := by omega
    rcases hc with hc | hc
    · have hsz : (ba l).size = 0 := hc
      clear ho hc hs2 hl
      generalize ba l = S at *
      go_enter Tryz.func72, Tryz.ntmps72
      go_wp2_with fail
      go_ret2
      exact UnqPost.no Ho.out hF.out
    · have hsz : (ba l).size = 1 := hc
      clear ho hc hs2 hl
      generalize ba l = S at *
      go_enter Tryz.func72, Tryz.ntmps72
      go_wp2_with fail
      go_ret2
      exact UnqPost.no Ho.out hF.out
  · obtain ⟨n, hn⟩ : ∃ n, l.length = n + 1 := ⟨l.length - 1, by omega⟩
    have hn1 : 1 ≤ n := by omega
    have hn9 : n ≤ 1000000 := by omega
    have hsz : (ba l).size = n + 1 := hn
    have hts := txt_split l n hn hn1
    obtain ⟨c0, hc0⟩ : ∃ c, l[0]? = some c := ⟨_, List.getElem?_eq_getElem (by omega)⟩
    obtain ⟨cn, hcn⟩ : ∃ c, l[n]? = some c := ⟨_, List.getElem?_eq_getElem (by omega)⟩
    have i0x : ∀ w, (Instr.index 9 (.string (ba l)) (.int .i64 0)).run Tryz.prog w = .ok (.int .u8 c0.toNat) w := run_at (P := Tryz.prog) Tryz.underlying9 l 0 c0 hc0
    have inx := run_at (P := Tryz.prog) Tryz.underlying9 l n cn hcn
    have d1 : decide ((n : Int) < 1) = false := decide_eq_false (by omega)
    have Hx := Lib.hid (And.intro (run_at (P := Tryz.prog) Tryz.underlying9 l) (And.intro hn ho))
    have hF := Lib.hid (Frm.refl (fun _ => False) w)
    rw [← ho, hc0, hcn] at hts
    have g0 : ((c0.toNat : Int) != 34) = !decide (c0 = 34) := by
      by_cases h : c0 = 34
      · subst h; rfl
      · have : c0.toNat ≠ 34 := fun e => h (UInt8.toNat_inj.1 e)
        rw [decide_eq_false h]; simp; omega
    have gn : ((cn.toNat : Int) != 34) = !decide (cn = 34) := by
      by_cases h : cn = 34
      · subst h; rfl
      · have : cn.toNat ≠ 34 := fun e => h (UInt8.toNat_inj.1 e)
        rw [decide_eq_false h]; simp; omega
    obtain ⟨f, hf⟩ : ∃ f, f = (l.take n).drop 1 := ⟨_, rfl⟩
    have hfl : f.length = n - 1 := by rw [hf]; simp; omega
    have Hf := Lib.hid (And.intro hfl (show ∀ jj, 1 ≤ jj → jj < n → f[jj - 1]? = l[jj]? from fun jj h1 h2 => by rw [hf]; exact body_at l n jj h1 h2))
    rw [← hf] at hts
    clear ho hs2 hl hn hc0 hcn hf hfl
    generalize ba l = S at *
    by_cases h0 : c0 = 34
    · rw [decide_eq_true h0] at g0
      by_cases hnn : cn = 34
      · rw [decide_eq_true hnn] at gn
        have Ho := Lib.hid (show o = unqB f by rw [hts, if_pos ⟨by rw [h0], by rw [hnn]⟩])
        clear hts h0 hnn
        simp only [Bool.not_true] at g0 gn
        go_enter Tryz.func72, Tryz.ntmps72
        go_wp2_with fail
        clear g0 gn i0x inx d1
        go_loopw [5, 6] (fun t i wr => ∃ jj : Nat, 1 ≤ jj ∧ jj ≤ n ∧ i = .int .i64 jj ∧ Hid (∃ pre : By, pre.length ≤ jj ∧ unqB f = (unqB (f.drop (jj - 1))).map (pre ++ ·) ∧ wr.ownsRow w.heap.size 5 1 t pre.length (bv pre) ∧ Frm (fun _ => False) w wr)) (fun _ i _ => n - (intOf i).toNat)
        case atStart => exact ⟨1, Nat.le_refl _, hn1, rfl, Lib.hid ⟨[], Nat.zero_le _, by simp, World.ownsRow_nil _ _ _ _, Frm.refl _ _⟩⟩
        case round =>
          obtain ⟨jj, hj1, hjn, rfl, hT⟩ := hrel
          obtain ⟨pre, hpl, hpre, ho, hFr⟩ := hT.out
          obtain ⟨A5, c5, rfl, -, -⟩ := own_form ho
          obtain ⟨m, hm⟩ : ∃ m, m = pre.length := ⟨_, rfl⟩
          rw [← hm] at ho hpl ⊢
          have hm9 : m ≤ 1000000 := by omega
          clear hT
          by_cases hlt : jj < n
          · obtain ⟨c, hc⟩ : ∃ c, l[jj]? = some c := ⟨_, List.getElem?_eq_getElem (by have := Hx.out.2.1; omega)⟩
            have hat := Hx.out.1 jj c hc
            have hfc : f[jj - 1]? = some c := by rw [Hf.out.2 jj hj1 hlt]; exact hc
            by_cases hesc : c = 92 ∧ jj + 2 < n
            · obtain ⟨rfl, hj2⟩ := hesc
              have hat : ∀ w, (Instr.index 9 (.string S) (.int .i64 (jj : Int))).run Tryz.prog w = .ok (.int .u8 92) w := hat
              obtain ⟨a, ha⟩ : ∃ a, l[jj + 1]? = some a := ⟨_, List.getElem?_eq_getElem (by have := Hx.out.2.1; omega)⟩
              obtain ⟨b, hb⟩ : ∃ b, l[jj + 2]? = some b := ⟨_, List.getElem?_eq_getElem (by have := Hx.out.2.1; omega)⟩
              have ha1 : ∀ w, (Instr.index 9 (.string S) (.int .i64 ((jj : Int) + 1))).run Tryz.prog w = .ok (.int .u8 a.toNat) w := Hx.out.1 (jj + 1) a ha
              have hb1 : ∀ w, (Instr.index 9 (.string S) (.int .i64 ((jj : Int) + 2))).run Tryz.prog w = .ok (.int .u8 b.toNat) w := Hx.out.1 (jj + 2) b hb
              have hfa : f[jj - 1 + 1]? = some a := by rw [show jj - 1 + 1 = (jj + 1) - 1 by omega, Hf.out.2 (jj + 1) (by omega) (by omega)]; exact ha
              have hfb : f[jj - 1 + 2]? = some b := by rw [show jj - 1 + 2 = (jj + 2) - 1 by omega, Hf.out.2 (jj + 2) (by omega) (by omega)]; exact hb
              have hs := unqB_esc f (jj - 1) a b hfc hfa hfb
              rw [show jj - 1 + 3 = (jj + 3) - 1 by omega] at hs
              have HA := Lib.hid (And.intro hpl (And.intro hpre (And.intro ho (And.intro hFr (And.intro hs hm)))))
              have g2 : decide ((jj : Int) + 2 ≥ (n : Int)) = false := decide_eq_false (by omega)
              clear hc ha hb hs hpre ho hFr hm hfc hfa hfb hpl
              cases hx : hexB a with
              | none =>
                have hda : digB a = -1 := by unfold digB; rw [hx]
                have Hn := Lib.hid (show o = none by rw [Ho.out, HA.out.2.1, HA.out.2.2.2.2.1, hx]; rfl)
                clear hx
                go_wp2_with fail
                refine (digit_any a _).mono ?_
                rintro e w1 ⟨rfl, rfl⟩
                rw [hda]
                go_wp2_with fail
                go_ret2
                exact UnqPost.no Hn.out HA.out.2.2.2.1
              | some x =>
                have hda : digB a = (x : Int) := by unfold digB; rw [hx]
                have hx16 := hex_lt hx
                have e1 : decide ((x : Int) < 0) = false := decide_eq_false (by omega)
                cases hy : hexB b with
                | none =>
                  have hdb : digB b = -1 := by unfold digB; rw [hy]
                  have Hn := Lib.hid (show o = none by rw [Ho.out, HA.out.2.1, HA.out.2.2.2.2.1, hx, hy]; rfl)
                  clear hx hy
                  go_wp2_with fail
                  refine (digit_any a _).mono ?_
                  rintro e w1 ⟨rfl, rfl⟩
                  rw [hda]
                  go_wp2_with fail
                  refine (digit_any b _).mono ?_
                  rintro e w1 ⟨rfl, rfl⟩
                  rw [hdb]
                  go_wp2_with fail
                  go_ret2
                  exact UnqPost.no Hn.out HA.out.2.2.2.1
                | some y =>
                  have hdb : digB b = (y : Int) := by unfold digB; rw [hy]
                  have hy16 := hex_lt hy
                  have e2 : decide ((y : Int) < 0) = false := decide_eq_false (by omega)
                  obtain ⟨Z, hZ⟩ : ∃ Z, Z = 16 * x + y := ⟨_, rfl⟩
                  have Hn := Lib.hid (show unqB f = (unqB (f.drop ((jj + 3) - 1))).map ((pre ++ [UInt8.ofNat Z]) ++ ·) by
                    rw [HA.out.2.1, HA.out.2.2.2.2.1, hx, hy, hZ]
                    cases unqB (f.drop ((jj + 3) - 1)) <;> simp)
                  have HZ := Lib.hid (show digB a = (x : Int) ∧ digB b = (y : Int) ∧ Z < 256 ∧ IntKind.i64.wrap ((jj : Int) + 1) = (jj : Int) + 1 ∧ IntKind.i64.wrap ((jj : Int) + 2) = (jj : Int) + 2 ∧ IntKind.i64.wrap (16 * (x : Int)) = 16 * (x : Int) ∧ IntKind.i64.wrap (16 * (x : Int) + (y : Int)) = (Z : Int) ∧ IntKind.u8.wrap (Z : Int) = (Z : Int) from
                    ⟨hda, hdb, by omega, IntWalk.i64_in _ (by omega), IntWalk.i64_in _ (by omega), IntWalk.i64_in _ (by omega), by rw [IntWalk.i64_in _ (by omega)]; omega, u8_in _ (by omega) (by omega)⟩)
                  have HI := Lib.hid (And.intro ha1 hb1)
                  clear hx hy hZ
                  go_wp2_with fail
                  refine (digit_any a _).mono ?_
                  rintro e w1 ⟨rfl, hw⟩
                  obtain rfl := hw.symm
                  rw [hda]
                  go_wp2_with fail
                  refine (digit_any b _).mono ?_
                  rintro e w1 ⟨rfl, hw⟩
                  obtain rfl := hw.symm
                  rw [hdb]
                  go_upto_region 12 with fail
                  clear hda hdb e1 e2 ha1 hb1 hat g2
                  refine plan_begin (by kernel_rfl) 17 (by kernel_rfl) ?_
                  refine plan_fx [0, 1, 2, 3, 4, 5, 6, 7, 8, 9, 10, 11, 12, 13, 14] (fun (j : Nat) (v : Value) (w : World) => (match j with | 0 => v = .slice A5 m c5 | 1 => v = .string S | 2 => v = .int .i64 (jj : Nat) | 3 => v = .int .i64 ((jj : Int) + 1) | 4 => v = .int .u8 (a.toNat : Int) | 5 => v = .int .i64 (x : Nat) | 6 => v = .int .i64 (16 * (x : Int)) | 7 => v = .string S | 8 => v = .int .i64 (jj : Nat) | 9 => v = .int .i64 ((jj : Int) + 2) | 10 => v = .int .u8 (b.toNat : Int) | 11 => v = .int .i64 (y : Nat) | 12 => v = .int .i64 (Z : Nat) | 13 => v = .int .u8 (Z : Nat) | 14 => ∃ g, v = .slice (some ⟨g, 0, none⟩) 1 1 ∧ w.cell? ⟨g, 0, none⟩ = some (.int .u8 (Z : Nat)) | _ => True : Prop)) (fun w => Frm (fun _ => False) wr w) (fun w w' => Frm (fun _ => False) w w') #[true, true, true, true, true, true, true, true, true, true, true, true, true, true, true, false, false] 2 (by kernel_rfl) (by kernel_rfl) (by kernel_rfl) (by kernel_rfl) (by kernel_rfl) (by kernel_rfl) (by kernel_rfl) (by kernel_rfl) ((Frm.refl _ _).drew) ?hV (fun _ _ h k => h.trans' k) ?steps ?fin
                  case hV =>
                    intro j v w1 w2 h hF
                    match j, h with
                    | 0, h => exact h
                    | 1, h => exact h
                    | 2, h => exact h
                    | 3, h => exact h
                    | 4, h => exact h
                    | 5, h => exact h
                    | 6, h => exact h
                    | 7, h => exact h
                    | 8, h => exact h
                    | 9, h => exact h
                    | 10, h => exact h
                    | 11, h => exact h
                    | 12, h => exact h
                    | 13, h => exact h
                    | 14, ⟨g, e, hc⟩ => exact ⟨g, e, hF.cell hc id⟩
                    | _ + 15, _ => trivial
                  case steps =>
                    refine steps_cons 0 rfl ?_ ?_
                    · intro f w1 A ρ hρ hG hd hu hA K hK
                      have e1 : ρ (.tmp 5) = .slice A5 m c5 := (hA 5).trans (by kernel_rfl)
                      refine fx_val hρ rfl (v := .slice A5 m c5) (w' := w1) (by simp [execOp, go_sem, e1]) (hK _ _ rfl (Frm.refl _ _))
                    refine steps_cons 1 rfl ?_ ?_
                    · intro f w1 A ρ hρ hG hd hu hA K hK
                      have e1 : ρ (.tmp 0) = .string S := (hA 0).trans (by kernel_rfl)
                      refine fx_val hρ rfl (v := .string S) (w' := w1) (by simp [execOp, go_sem, e1]) (hK _ _ rfl (Frm.refl _ _))
                    refine steps_cons 2 rfl ?_ ?_
                    · intro f w1 A ρ hρ hG hd hu hA K hK
                      have e1 : ρ (.tmp 6) = .int .i64 (jj : Nat) := (hA 6).trans (by kernel_rfl)
                      refine fx_val hρ rfl (v := .int .i64 (jj : Nat)) (w' := w1) (by simp [execOp, go_sem, e1]) (hK _ _ rfl (Frm.refl _ _))
                    refine steps_cons 3 rfl ?_ ?_
                    · intro f w1 A ρ hρ hG hd hu hA K hK
                      have e1 : ρ (.tmp 61) = .int .i64 (jj : Nat) := (hA 61).trans ((show (puts _ f _ _).eval (.tmp 61) = f 2 from by kernel_rfl).trans (hd 2 (by kernel_rfl)))
                      refine fx_val hρ rfl (v := .int .i64 ((jj : Int) + 1)) (w' := w1) (by have hw := HZ.out.2.2.2.1; simp [execOp, go_sem, e1, hρ.c, hw]) (hK _ _ rfl (Frm.refl _ _))
                    refine steps_cons 4 rfl ?_ ?_
                    · intro f w1 A ρ hρ hG hd hu hA K hK
                      have e1 : ρ (.tmp 60) = .string S := (hA 60).trans ((show (puts _ f _ _).eval (.tmp 60) = f 1 from by kernel_rfl).trans (hd 1 (by kernel_rfl)))
                      have e2 : ρ (.tmp 62) = .int .i64 ((jj : Int) + 1) := (hA 62).trans ((show (puts _ f _ _).eval (.tmp 62) = f 3 from by kernel_rfl).trans (hd 3 (by kernel_rfl)))
                      refine fx_val hρ rfl (v := .int .u8 (a.toNat : Int)) (w' := w1) (exec_index rfl (by rw [e1, e2]; exact HI.out.1 w1)) (hK _ _ rfl (Frm.refl _ _))
                    refine steps_cons 5 rfl ?_ ?_
                    · intro f w1 A ρ hρ hG hd hu hA K hK
                      have e1 : ρ (.tmp 63) = .int .u8 (a.toNat : Int) := (hA 63).trans ((show (puts _ f _ _).eval (.tmp 63) = f 4 from by kernel_rfl).trans (hd 4 (by kernel_rfl)))
                      have hj := digit_any a w1
                      rw [show digB a = ((x : Nat) : Int) from HZ.out.1] at hj
                      refine fx_call hρ rfl _ _ _ rfl (by simp [e1]) (Tryz.call88 _ _) hj ?_
                      rintro e w2 ⟨rfl, rfl⟩
                      exact ⟨_, rfl, hK _ _ rfl (Frm.refl _ _)⟩
                    refine steps_cons 6 rfl ?_ ?_
                    · intro f w1 A ρ hρ hG hd hu hA K hK
                      have e1 : ρ (.tmp 64) = .int .i64 (x : Nat) := (hA 64).trans ((show (puts _ f _ _).eval (.tmp 64) = f 5 from by kernel_rfl).trans (hd 5 (by kernel_rfl)))
                      refine fx_val hρ rfl (v := .int .i64 (16 * (x : Int))) (w' := w1) (by have hw := HZ.out.2.2.2.2.2.1; simp [execOp, go_sem, e1, hρ.c, hw]) (hK _ _ rfl (Frm.refl _ _))
                    refine steps_cons 7 rfl ?_ ?_
                    · intro f w1 A ρ hρ hG hd hu hA K hK
                      have e1 : ρ (.tmp 0) = .string S := (hA 0).trans (by kernel_rfl)
                      refine fx_val hρ rfl (v := .string S) (w' := w1) (by simp [execOp, go_sem, e1]) (hK _ _ rfl (Frm.refl _ _))
                    refine steps_cons 8 rfl ?_ ?_
                    · intro f w1 A ρ hρ hG hd hu hA K hK
                      have e1 : ρ (.tmp 6) = .int .i64 (jj : Nat) := (hA 6).trans (by kernel_rfl)
                      refine fx_val hρ rfl (v := .int .i64 (jj : Nat)) (w' := w1) (by simp [execOp, go_sem, e1]) (hK _ _ rfl (Frm.refl _ _))
                    refine steps_cons 9 rfl ?_ ?_
                    · intro f w1 A ρ hρ hG hd hu hA K hK
                      have e1 : ρ (.tmp 67) = .int .i64 (jj : Nat) := (hA 67).trans ((show (puts _ f _ _).eval (.tmp 67) = f 8 from by kernel_rfl).trans (hd 8 (by kernel_rfl)))
                      refine fx_val hρ rfl (v := .int .i64 ((jj : Int) + 2)) (w' := w1) (by have hw := HZ.out.2.2.2.2.1; simp [execOp, go_sem, e1, hρ.c, hw]) (hK _ _ rfl (Frm.refl _ _))
                    refine steps_cons 10 rfl ?_ ?_
                    · intro f w1 A ρ hρ hG hd hu hA K hK
                      have e1 : ρ (.tmp 66) = .string S := (hA 66).trans ((show (puts _ f _ _).eval (.tmp 66) = f 7 from by kernel_rfl).trans (hd 7 (by kernel_rfl)))
                      have e2 : ρ (.tmp 68) = .int .i64 ((jj : Int) + 2) := (hA 68).trans ((show (puts _ f _ _).eval (.tmp 68) = f 9 from by kernel_rfl).trans (hd 9 (by kernel_rfl)))
                      refine fx_val hρ rfl (v := .int .u8 (b.toNat : Int)) (w' := w1) (exec_index rfl (by rw [e1, e2]; exact HI.out.2 w1)) (hK _ _ rfl (Frm.refl _ _))
                    refine steps_cons 11 rfl ?_ ?_
                    · intro f w1 A ρ hρ hG hd hu hA K hK
                      have e1 : ρ (.tmp 69) = .int .u8 (b.toNat : Int) := (hA 69).trans ((show (puts _ f _ _).eval (.tmp 69) = f 10 from by kernel_rfl).trans (hd 10 (by kernel_rfl)))
                      have hj := digit_any b w1
                      rw [show digB b = ((y : Nat) : Int) from HZ.out.2.1] at hj
                      refine fx_call hρ rfl _ _ _ rfl (by simp [e1]) (Tryz.call88 _ _) hj ?_
                      rintro e w2 ⟨rfl, rfl⟩
                      exact ⟨_, rfl, hK _ _ rfl (Frm.refl _ _)⟩
                    refine steps_cons 12 rfl ?_ ?_
                    · intro f w1 A ρ hρ hG hd hu hA K hK
                      have e1 : ρ (.tmp 65) = .int .i64 (16 * (x : Int)) := (hA 65).trans ((show (puts _ f _ _).eval (.tmp 65) = f 6 from by kernel_rfl).trans (hd 6 (by kernel_rfl)))
                      have e2 : ρ (.tmp 70) = .int .i64 (y : Nat) := (hA 70).trans ((show (puts _ f _ _).eval (.tmp 70) = f 11 from by kernel_rfl).trans (hd 11 (by kernel_rfl)))
                      refine fx_val hρ rfl (v := .int .i64 (Z : Nat)) (w' := w1) (by have hw := HZ.out.2.2.2.2.2.2.1; simp [execOp, go_sem, e1, e2, hw]) (hK _ _ rfl (Frm.refl _ _))
                    refine steps_cons 13 rfl ?_ ?_
                    · intro f w1 A ρ hρ hG hd hu hA K hK
                      have e1 : ρ (.tmp 71) = .int .i64 (Z : Nat) := (hA 71).trans ((show (puts _ f _ _).eval (.tmp 71) = f 12 from by kernel_rfl).trans (hd 12 (by kernel_rfl)))
                      refine fx_val hρ rfl (v := .int .u8 (Z : Nat)) (w' := w1) (by have hw := HZ.out.2.2.2.2.2.2.2; simp [execOp, go_sem, e1, hw]) (hK _ _ rfl (Frm.refl _ _))
                    refine steps_cons 14 rfl ?_ ?_
                    · intro f w1 A ρ hρ hG hd hu hA K hK
                      have e1 : ρ (.tmp 72) = .int .u8 (Z : Nat) := (hA 72).trans ((show (puts _ f _ _).eval (.tmp 72) = f 13 from by kernel_rfl).trans (hd 13 (by kernel_rfl)))
                      refine fx_val hρ rfl (v := .slice (some ⟨w1.heap.size, 0, none⟩) 1 1) (w' := w1.alloc (.cells #[.int .u8 (Z : Nat)] 5)) (by simp [execOp, go_sem, e1]) (hK _ _ ⟨_, rfl, (Blk.new w1 5 #[.int .u8 (Z : Nat)]).cell 0⟩ ((Frm.refl _ _).alloc _))
                    exact steps_nil
                  case fin =>
                    intro f2 w3 hG hV
                    have h0 : f2 0 = .slice A5 m c5 := hV 0 rfl
                    obtain ⟨gz, h14, hcz⟩ : ∃ g, f2 14 = .slice (some ⟨g, 0, none⟩) 1 1 ∧ w3.cell? ⟨g, 0, none⟩ = some (.int .u8 (Z : Nat)) := hV 14 rfl
                    simp only [puts, dstOf, List.getElem?_cons_succ, List.getElem?_cons_zero, Option.bind_some, Act.put, List.setIfInBounds_toArray, List.set_cons_succ, List.set_cons_zero, h0, h14]
                    have HG := Lib.hid (And.intro hG hcz)
                    clear hV hG h0 h14 hcz
                    refine plan_one 15 (by kernel_rfl) rfl ?_
                    intro K hK
                    refine wpList_append_sl (by rfl) _ _ 34 (by rfl) w.heap.size 5 i0 (.int .u8 0) 1 Tryz.underlying34 hi hz0 hz1 hz2 (by rfl) (.slice A5 m c5) m _ (by rfl) (HG.out.1.own HA.out.2.2.1 fun _ _ => id) (fun _ => True) _ [.int .u8 (Z : Nat)] (by rfl) (sl_one HG.out.2) (by intro u hu; rw [List.mem_singleton.1 hu]; rfl) (by unfold maxLen; simp; omega) (by simp; omega) (Nat.le_trans HA.out.2.2.2.1.size HG.out.1.size) ?_
                    intro A6 N6 c6 w6 HN hNc hc6 hown hg hat
                    obtain rfl : N6 = m + 1 := HN.out
                    have HE := Lib.hid (And.intro hown ((HA.out.2.2.2.1.trans' HG.out.1).grown hg fun q hq => .inr (HA.out.2.2.1.lt q hq).1))
                    clear hown hg hat HN
                    go_wp2_with fail
                    refine plan_one 16 (by kernel_rfl) rfl ?_
                    intro K hK
                    go_wp2_with fail
                    refine plan_done (by kernel_rfl) ?_
                    go_wp2_with fail
                    go_roundw
                    case rel => exact ⟨jj + 3, by omega, by omega, by go_num, Lib.hid ⟨_, by rw [List.length_append]; have := HA.out.1; have := HA.out.2.2.2.2.2; simp; omega, Hn.out, by
                      have h1 := HE.out.1
                      have e : bv pre ++ [.int .u8 (Z : Nat)] = bv (pre ++ [UInt8.ofNat Z]) := by
                        have := HZ.out.2.2.1
                        simp [bv, UInt8.toNat_ofNat_of_lt' (show Z < 256 by omega)]
                      rw [e] at h1
                      simpa [HA.out.2.2.2.2.2] using h1, HE.out.2⟩⟩
                    case measure => simp [intOf]; omega
            · have hs := unqB_one f (jj - 1) c hfc (by
                by_cases h : c = 92
                · right
                  have := Hf.out.1
                  have : ¬ (jj + 2 < n) := fun h2 => hesc ⟨h, h2⟩
                  omega
                · exact .inl h)
              rw [show jj - 1 + 1 = (jj + 1) - 1 by omega] at hs
              have HA := Lib.hid (And.intro hpl (And.intro hpre (And.intro ho (And.intro hFr (And.intro hs hm)))))
              clear hs hpre ho hFr hm hfc hpl hc
              by_cases h92 : c = 92
              · have hge : ¬ (jj + 2 < n) := fun h2 => hesc ⟨h92, h2⟩
                have g2 : decide ((jj : Int) + 2 ≥ (n : Int)) = true := decide_eq_true (by omega)
                have Hn := Lib.hid (show o = none by rw [Ho.out, HA.out.2.1, HA.out.2.2.2.2.1, h92, if_neg (by decide)]; rfl)
                subst h92
                have hat : ∀ w, (Instr.index 9 (.string S) (.int .i64 (jj : Int))).run Tryz.prog w = .ok (.int .u8 92) w := hat
                clear hesc hge
                go_wp2_with fail
                go_ret2
                exact UnqPost.no Hn.out HA.out.2.2.2.1
              · have g92 : ((c.toNat : Int) == 92) = false := by
                  simp only [beq_eq_false_iff_ne, ne_eq]
                  intro h2
                  exact h92 (UInt8.toNat_inj.1 (show c.toNat = 92 by omega))
                clear hesc h92
                have hpd : plainB c = decide (32 ≤ c.toNat ∧ c.toNat ≤ 126 ∧ c.toNat ≠ 34 ∧ c.toNat ≠ 92) := rfl
                by_cases h1 : c.toNat < 32
                · have e1 : decide ((c.toNat : Int) < 32) = true := decide_eq_true (by omega)
                  have Hn := Lib.hid (show o = none by rw [Ho.out, HA.out.2.1, HA.out.2.2.2.2.1, hpd, decide_eq_false (by omega), if_neg (by decide)]; rfl)
                  clear hpd h1
                  go_wp2_with fail
                  go_ret2
                  exact UnqPost.no Hn.out HA.out.2.2.2.1
                · have e1 : decide ((c.toNat : Int) < 32) = false := decide_eq_false (by omega)
                  by_cases h2 : 126 < c.toNat
                  · have e2 : decide ((c.toNat : Int) > 126) = true := decide_eq_true (by omega)
                    have Hn := Lib.hid (show o = none by rw [Ho.out, HA.out.2.1, HA.out.2.2.2.2.1, hpd, decide_eq_false (by omega), if_neg (by decide)]; rfl)
                    clear hpd h1 h2
                    go_wp2_with fail
                    go_ret2
                    exact UnqPost.no Hn.out HA.out.2.2.2.1
                  · have e2 : decide ((c.toNat : Int) > 126) = false := decide_eq_false (by omega)
                    by_cases h3 : c.toNat = 34
                    · have e3 : ((c.toNat : Int) == 34) = true := by simp; omega
                      have Hn := Lib.hid (show o = none by rw [Ho.out, HA.out.2.1, HA.out.2.2.2.2.1, hpd, decide_eq_false (by omega), if_neg (by decide)]; rfl)
                      clear hpd h1 h2 h3
                      go_wp2_with fail
                      go_ret2
                      exact UnqPost.no Hn.out HA.out.2.2.2.1
                    · have e3 : ((c.toNat : Int) == 34) = false := by simp; omega
                      have h4 : c.toNat ≠ 92 := fun h => by rw [h] at g92; exact absurd g92 (by decide)
                      have Hn := Lib.hid (show unqB f = (unqB (f.drop ((jj + 1) - 1))).map ((pre ++ [c]) ++ ·) by
                        rw [HA.out.2.1, HA.out.2.2.2.2.1, hpd, decide_eq_true (by omega), if_pos rfl]
                        cases unqB (f.drop ((jj + 1) - 1)) <;> simp)
                      clear hpd h1 h2 h3 h4
                      go_wp2_with (at_builtin; go_loud (refine wpList_append_sl (by rfl) _ _ 34 (by rfl) w.heap.size 5 i0 (.int .u8 0) 1 Tryz.underlying34 hi hz0 hz1 hz2 (by rfl) _ m _ (by rfl) (((Frm.refl (fun _ => False) wr).alloc _).own HA.out.2.2.1 fun _ _ => id) (fun q => q = wr.heap.size) _ [.int .u8 (c.toNat : Int)] (by rfl) (Sl.blk1 wr _ _) (by intro u hu; rw [List.mem_singleton.1 hu]; rfl) (by unfold maxLen; simp; omega) (by simp; omega) (by have := HA.out.2.2.2.1.size; simp; omega) ?_); go_loud (intro A6 N6 c6 w6 HN hNc hc6 hown hg hat))
                      obtain rfl : N6 = m + 1 := HN.out
                      have HE := Lib.hid (And.intro hown (((HA.out.2.2.2.1).alloc _).grown hg fun q hq => .inr (HA.out.2.2.1.lt q hq).1))
                      clear hown hg HN
                      go_wp2_with fail
                      go_roundw
                      case rel => exact ⟨jj + 1, by omega, by omega, by go_num, Lib.hid ⟨_, by rw [List.length_append]; have := HA.out.1; have := HA.out.2.2.2.2.2; simp; omega, Hn.out, by
                        have h1 := HE.out.1
                        have e : bv pre ++ [.int .u8 (c.toNat : Int)] = bv (pre ++ [c]) := by simp [bv]
                        rw [e] at h1
                        simpa [HA.out.2.2.2.2.2] using h1, HE.out.2⟩⟩
                      case measure => simp [intOf]; omega
          · obtain rfl : n = jj := by omega
            rw [show f.drop (n - 1) = [] from List.drop_of_length_le (by have := Hf.out.1; omega)] at hpre
            have HA := Lib.hid (And.intro (show o = some pre by rw [Ho.out, hpre]; simp [unqB]) (And.intro ho (And.intro hFr hm)))
            clear hpre ho hFr hm
            go_wp2_with fail
            go_ret2
            exact UnqPost.yes HA.out.1 (by have := HA.out.2.1; rw [HA.out.2.2.2] at this ⊢; exact this) HA.out.2.2.1
      · rw [decide_eq_false hnn] at gn
        have Ho := Lib.hid (show o = none by rw [hts, if_neg]; rintro ⟨-, h⟩; exact hnn (Option.some.inj h))
        clear hts h0 hnn
        simp only [Bool.not_true, Bool.not_false] at g0 gn
        go_enter Tryz.func72, Tryz.ntmps72
        go_wp2_with fail
        go_ret2
        exact UnqPost.no Ho.out hF.out
    · rw [decide_eq_false h0] at g0
      have Ho := Lib.hid (show o = none by rw [hts, if_neg]; rintro ⟨h, -⟩; exact h0 (Option.some.inj h))
      clear hts h0 gn
      simp only [Bool.not_false] at g0
      go_enter Tryz.func72, Tryz.ntmps72
      go_wp2_with fail
      go_ret2
      exact UnqPost.no Ho.out hF.out
end Go.Proofs.YtpcdbkaeijhmfaaGreatDoor
