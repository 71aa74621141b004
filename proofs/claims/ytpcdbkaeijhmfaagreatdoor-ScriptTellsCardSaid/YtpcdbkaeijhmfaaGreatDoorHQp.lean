/- The document's script: Parse. -/
import Derived.Test.YtpcdbkaeijhmfaaGreatDoorGL
import Derived.Test.YtpcdbkaeijhmfaaGreatDoorGH
import Derived.Test.YtpcdbkaeijhmfaaGreatDoorGA
namespace Go.Proofs.YtpcdbkaeijhmfaaGreatDoor
set_option maxRecDepth 100000
set_option linter.unusedVariables false
set_option linter.unusedSimpArgs false
open Go.RowKit
attribute [local go_sem] Oper.semAt_some
theorem results_cs2 {fn : Func} {p u v : Tmp} (h : fn.results = #[.cell p 33, .tmp u, .tmp v]) {tmps : Array Value} {w : World} {g : Nat} {cs : Array Value} {x y : Value} (hp : tmps.getD p undef = .pointer (some ⟨g, 0, none⟩)) (hb : Blk w g 33 cs) (hs : cs.size = 18) (hu : tmps.getD u undef = x) (hv : tmps.getD v undef = y) :
    (results fn tmps).run Tryz.prog w = .ok (.tuple #[.agg cs, x, y]) w := by
  have hp' : tmps[p]?.getD undef = .pointer (some ⟨g, 0, none⟩) := by simpa using hp
  have hu' : tmps[u]?.getD undef = x := by simpa using hu
  have hv' : tmps[v]?.getD undef = y := by simpa using hv
  simp [results, h, hp', hu', hv', asAddr, run_loadVar_row w g 33 33 cs (0, 0) _ hb Tryz.underlying33 rfl (by rw [hs]; exact st_info)]
/-- What the document's Parse answers. -/
def ParseRPost (t : By) (w : World) (e : Ending) (w' : World) : Prop :=
  Frm (fun _ => False) w w' ∧ ∃ st C, Ans w.heap.size st C w' ∧ match parseB t with
  | .great => e = .returned (.tuple #[.agg C, .int .i64 0, .int .i64 301]) ∧ st = zeroSt
  | .line k => e = .returned (.tuple #[.agg C, .int .i64 k, .int .i64 300]) ∧ st = zeroSt
  | .ok s => e = .returned (.tuple #[.agg C, .int .i64 0, .int .i64 0]) ∧ st = s
theorem saysB_none {s : St} {l : By} (n : Nat) (r : List By) (h : sayB s l = none) : saysB s n (l :: r) = .inr n := by
  unfold saysB
  rw [h]
theorem saysB_some {s s' : St} {l : By} (n : Nat) (r : List By) (h : sayB s l = some s') : saysB s n (l :: r) = saysB s' (n + 1) r := by
  rw [saysB, h]
set_option maxHeartbeats 16000000 in
theorem parseR_any (t : By) (w : World) (ht : t.length ≤ 20000) : Calls Tryz.prog 7 #[.string (ba t)] w (ParseRPost t w) := by
  obtain ⟨nt, hnt⟩ : ∃ n, n = t.length := ⟨_, rfl⟩
  have hsz : (ba t).size = nt := by rw [hnt]; rfl
  have Hnt := Lib.hid (And.intro hnt ht)
  have HB0 := Lib.hid (show Blk (w.alloc (.cells zeroC 33)) w.heap.size 33 zeroC ∧ Frm (fun _ => False) w (w.alloc (.cells zeroC 33)) from ⟨Blk.new w 33 zeroC, (Frm.refl _ w).alloc _⟩)
  have hnt9 : nt ≤ 20000 := by omega
  clear hnt ht
  go_enter Tryz.func7, Tryz.ntmps7
  go_upto_region 1 with fail
  rw [show (#[.bool false, .slice none 0 0, .int .i64 0, .int .i64 0, .int .i64 0, .int .i64 0, .int .i64 0, .int .i64 0, .int .i64 0, .bool false, .slice none 0 0, .slice none 0 0, .slice none 0 0, .int .u8 0, .int .u32 0, .int .i64 0, .int .i64 0, .int .i64 0] : Array Value) = zeroC from rfl]
  obtain ⟨b, hb⟩ : ∃ b, b = w.heap.size := ⟨_, rfl⟩
  have HB := HB0
  rw [← hb] at HB ⊢
  clear HB0
  generalize w.alloc (.cells zeroC 33) = w1 at *
  have Hb := Lib.hid hb
  clear hb
  go_wp2_with fail
  refine (linesR_any t w1 (by have := Hnt.out.1; omega)).mono ?_
  rintro e w2 ⟨A, c, rfl, hown, hF⟩
  obtain ⟨ls, hls⟩ : ∃ ls, ls = linesB t := ⟨_, rfl⟩
  rw [← hls] at hown ⊢
  obtain ⟨n, hn⟩ : ∃ n, n = ls.length := ⟨_, rfl⟩
  rw [← hn] at hown ⊢
  have HW := Lib.hid (And.intro (HB.out.1.kept hF id) (And.intro (HB.out.2.trans' hF) (And.intro hown (And.intro hls hn))))
  clear hown hF hls hn HB
  have d1 : decide ((nt : Int) > 65536) = false := decide_eq_false (by omega)
  by_cases hbig : 1000 < n
  · have d2 : decide ((n : Int) > 1000) = true := decide_eq_true (by omega)
    have Hp := Lib.hid (show parseB t = .great by
      unfold parseB
      rw [if_pos (Or.inr (by rw [← HW.out.2.2.2.1, ← HW.out.2.2.2.2]; unfold maxLines; omega))])
    clear hbig
    go_wp2_with (first | (refine wpList_valT rfl (some 20) rfl (v := .agg zeroC) (w' := w2) (by simp [go_sem, execOp, zeroC, stCells, zeroSt]) ?_) | (refine wpList_store_rowT rfl 33 (.tmp 2) (.tmp 20) rfl rfl b zeroC rfl rfl _ _ HW.out.1 st_info rfl (stCells_one ⟨rfl, rfl, rfl, rfl⟩) ?_))
    refine bodyPost_ret (results_cs2 rfl rfl (HW.out.1.setRow _) rfl rfl rfl) rfl ?_
    have hbw := Hb.out
    refine ⟨HW.out.2.1.trans (K' := fun q => q = b) ((Frm.refl (fun q => q = b) w2).setRow (.inl rfl) _) fun q hq => .inr (by omega), zeroSt, zeroC, ans_zero _ _, ?_⟩
    rw [Hp.out]
    exact ⟨rfl, rfl⟩
  · have d2 : decide ((n : Int) > 1000) = false := decide_eq_false (by omega)
    have Hn9 := Lib.hid (show n ≤ 1000 by omega)
    have Hp0 := Lib.hid (show parseB t = match saysB newSt 1 ls with | .inl s => .ok s | .inr n => .line n from by
      unfold parseB
      rw [if_neg (by rw [← HW.out.2.2.2.1]; have h1 := Hn9.out; have h2 := HW.out.2.2.2.2; have h3 := Hnt.out.2; unfold maxLines maxText; omega), ← HW.out.2.2.2.1]
      rfl)
    clear hbig
    go_upto_region 5 with fail
    rw [show (#[.bool false, .slice none 0 0, .int .i64 0, .int .i64 0, .int .i64 0, .int .i64 0, .int .i64 0, .int .i64 0, .int .i64 0, .bool false, .slice none 0 0, .slice none 0 0, .slice none 0 0, .int .u8 0, .int .u32 0, .int .i64 0, .int .i64 0, .int .i64 0] : Array Value) = zeroC from rfl]
    have hX : Frm (fun _ => False) w2 (w2.alloc (.cells zeroC 33)) := (Frm.refl _ w2).alloc _
    have hB6 := Blk.new w2 33 zeroC
    have hsz6 : (w2.alloc (.cells zeroC 33)).heap.size = w2.heap.size + 1 := World.size_alloc ..
    obtain ⟨b6, hb6⟩ : ∃ b, b = w2.heap.size := ⟨_, rfl⟩
    rw [← hb6] at hB6 hsz6 ⊢
    generalize w2.alloc (.cells zeroC 33) = w3 at *
    have cf : w3.cell? ⟨b6, 16, none⟩ = some (.int .i64 0) := by rw [hB6.cell]; rfl
    have ff := hB6.frozen 16
    have hlt : b < w2.heap.size := HW.out.1.lt
    have Hb6 := Lib.hid (And.intro hb6 (show b < b6 by omega))
    have HX := Lib.hid (And.intro hX (And.intro hB6 hsz6))
    clear hX hB6 hsz6 hb6 hlt
    go_upto_region 6 with fail
    have hb7 := HX.out.2.1.set_ 16 (.int .i64 (-1))
    have hbw := Hb.out
    have h66 := Hb6.out
    have hr7 := (HW.out.1.kept HX.out.1 id).far (p := ⟨b6, 16, none⟩) (by show b ≠ b6; omega) (.int .i64 (-1))
    have hf7 := (HW.out.2.1.trans' HX.out.1).setCell ⟨b6, 16, none⟩ (.inr (by show w.heap.size ≤ b6; have := HW.out.2.1.size; omega)) (.int .i64 (-1))
    have hF7 : Frm (fun q => q = b6) w3 (w3.setCell ⟨b6, 16, none⟩ (.int .i64 (-1))) := (Frm.refl (fun q => q = b6) w3).setCell ⟨b6, 16, none⟩ (.inl rfl) _
    have hown7 := hF7.own (HX.out.1.own HW.out.2.2.1 fun _ _ => id) fun q hq e => by
      subst e
      exact own_blk_ne (HX.out.1.own HW.out.2.2.1 fun _ _ => id) HX.out.2.1 (by decide) hq
    obtain ⟨C0, hC0⟩ : ∃ C0, C0 = stCells newSt (.slice none 0 0) (.slice none 0 0) (.slice none 0 0) (.slice none 0 0) := ⟨_, rfl⟩
    rw [show zeroC.setIfInBounds 16 (.int .i64 (-1)) = C0 by rw [hC0]; rfl] at hb7
    have hs7 : (w3.setCell ⟨b6, 16, none⟩ (.int .i64 (-1))).heap.size = b6 + 1 := by simpa using HX.out.2.2
    generalize w3.setCell ⟨b6, 16, none⟩ (.int .i64 (-1)) = w4 at *
    have H4 := Lib.hid (show ∃ s1 C1, saysB newSt 1 ls = saysB s1 (0 + 1) (ls.drop 0) ∧ Blk w4 b6 33 C1 ∧ Blk w4 b 33 zeroC ∧ Ans (b6 + 1) s1 C1 w4 ∧ Frm (fun _ => False) w w4 ∧ w4.ownsRow w1.heap.size 9 1 (.slice A n c) n (svb ls) ∧ totS s1 ≤ ((ls.take 0).map (·.length)).sum ∧ b6 + 1 ≤ w4.heap.size from
      ⟨newSt, C0, by simp, hb7, hr7, ⟨_, _, _, _, hC0, TxR.nil w4 _, TxR.nil w4 _, World.ownsRow_nil _ _ _ _, World.ownsRow_nil _ _ _ _, fun q h => by cases h⟩, hf7, hown7, by simp [newSt, zeroSt, totS], by omega⟩)
    clear hb7 hbw h66 hr7 hf7 hF7 hown7 hC0 hs7 cf ff d1 d2
    go_wp2_with fail
    go_loopw [7] (fun i wr => ∃ k : Nat, k ≤ n ∧ i = .int .i64 k ∧ Hid (∃ s1 C1, saysB newSt 1 ls = saysB s1 (k + 1) (ls.drop k) ∧ Blk wr b6 33 C1 ∧ Blk wr b 33 zeroC ∧ Ans (b6 + 1) s1 C1 wr ∧ Frm (fun _ => False) w wr ∧ wr.ownsRow w1.heap.size 9 1 (.slice A n c) n (svb ls) ∧ totS s1 ≤ ((ls.take k).map (·.length)).sum ∧ b6 + 1 ≤ wr.heap.size)) (fun i _ => n - (intOf i).toNat)
    case atStart => exact ⟨0, Nat.zero_le _, rfl, H4⟩
    case round =>
      obtain ⟨k, hk, rfl, hT⟩ := hrel
      by_cases hlt : k < n
      · obtain ⟨s1, C1, h1, h2, h3, h4, h5, h6, h7, h8⟩ := hT.out
        clear hT
        obtain ⟨wv, rv, av, pv, hC1, hl1⟩ := h4
        have hkl : k < ls.length := by have := HW.out.2.2.2.2; omega
        obtain ⟨l, hl⟩ : ∃ l, l = ls[k] := ⟨_, rfl⟩
        have hdk : ls.drop k = l :: ls.drop (k + 1) := by rw [hl]; exact List.drop_eq_getElem_cons hkl
        have htk : ((ls.take (k + 1)).map (·.length)).sum = ((ls.take k).map (·.length)).sum + l.length := by
          rw [List.take_succ_eq_append_getElem hkl, ← hl]
          simp
        have hsum : ((ls.take (k + 1)).map (·.length)).sum ≤ 20000 := by
          have e1 := lines_sum t
          rw [← HW.out.2.2.2.1] at e1
          have e2 : (ls.map (·.length)).sum = ((ls.take (k + 1)).map (·.length)).sum + ((ls.drop (k + 1)).map (·.length)).sum := by
            rw [← List.sum_append, ← List.map_append, List.take_append_drop]
          have e3 := Hnt.out.1
          have e4 := Hnt.out.2
          omega
        obtain ⟨g, hA, hc0⟩ := own_at h6 k (by simp [svb]; omega)
        have hc1 : wr.cell? ⟨g, k, none⟩ = some (.string (ba l)) := by rw [hc0, hl]; simp [svb]
        subst hA
        clear hc0
        rw [hdk] at h1
        obtain ⟨o, ho⟩ : ∃ o, o = sayW s1 (wordsR l) := ⟨_, rfl⟩
        have hob : o = sayB s1 l := by rw [ho, say_same]; rfl
        have Ho := Lib.hid (And.intro ho (And.intro hob h1))
        have HSu := Lib.hid (And.intro hsum (And.intro htk h7))
        have HC1 := Lib.hid (show C1 = stCells s1 wv rv av pv ∧ C1.size = 18 ∧ C1.all (·.oneCell') = true from ⟨hC1, by rw [hC1]; exact ⟨rfl, hl1.one⟩⟩)
        have HR := Lib.hid (And.intro h2 (And.intro h3 (And.intro hl1 (And.intro h5 (And.intro h6 (And.intro h8 hc1))))))
        clear h1 h2 h3 h5 h6 h7 h8 hc1 hl1 hC1 hkl hl hdk htk hsum ho hob
        have Hlt := Lib.hid hlt
        have hlt' : decide ((k : Int) < n) = true := decide_eq_true (by omega)
        go_upto_region 9 with fail
        refine plan_begin (by kernel_rfl) 12 (by kernel_rfl) ?_
        obtain ⟨W, hW⟩ : ∃ W, W = wr.drew := ⟨_, rfl⟩
        have HQ := Lib.hid (show Blk W b6 33 C1 ∧ Blk W b 33 zeroC ∧ Lsts W (b6 + 1) s1 wv rv av pv ∧ Frm (fun _ => False) w W ∧ W.ownsRow w1.heap.size 9 1 (.slice (some ⟨g, 0, none⟩) n c) n (svb ls) ∧ b6 + 1 ≤ W.heap.size ∧ W.cell? ⟨g, k, none⟩ = some (.string (ba l)) from by
          have hF : Frm (fun _ => False) wr W := hW ▸ (Frm.refl _ wr).drew
          exact ⟨HR.out.1.kept hF id, HR.out.2.1.kept hF id, HR.out.2.2.1.keptF hF, HR.out.2.2.2.1.trans' hF, hF.own HR.out.2.2.2.2.1 fun _ _ => id, Nat.le_trans HR.out.2.2.2.2.2.1 hF.size, hF.cell HR.out.2.2.2.2.2.2 id⟩)
        rw [← hW]
        clear hW
        have HN4 := Lib.hid (show ¬ Own4 wv rv av pv b6 ∧ ¬ Own4 wv rv av pv b ∧ ¬ Own4 wv rv av pv g ∧ (∀ q, Own4 wv rv av pv q → q < W.heap.size) from by
          obtain ⟨cs, hcs⟩ := own_blk HQ.out.2.2.2.2.1 g rfl
          exact ⟨HQ.out.2.2.1.not4 HQ.out.1 (by decide) (by decide) (by decide), HQ.out.2.2.1.not4 HQ.out.2.1 (by decide) (by decide) (by decide), HQ.out.2.2.1.not4 hcs (by decide) (by decide) (by decide), fun q hq => own4_lt HQ.out.2.2.1 hq⟩)
        have HCq := Lib.hid (show ∀ w', Frm (fun _ => False) W w' → Calls Tryz.prog 19 #[.agg C1, .string (ba l)] w' (SayPost (b6 + 1) o wv rv av pv w') from fun w' hF => by
          have h := saysR_any (b6 + 1) s1 wv rv av pv l w' (HQ.out.2.2.1.keptF hF) (Nat.le_trans HQ.out.2.2.2.2.2.1 hF.size) (by have := HSu.out.1; have := HSu.out.2.1; have := HSu.out.2.2; omega)
          rw [← Ho.out.1, ← HC1.out.1] at h
          exact h)
        refine plan_fxg [0, 1, 2, 3, 4, 5, 6, 7, 8, 9, 10, 11] (fun (j : Nat) (v : Value) (w : World) => (match j with | 0 => v = .agg C1 | 1 => v = .slice (some ⟨g, 0, none⟩) n c | 2 => v = .int .i64 k | 3 => v = .pointer (some ⟨g, k, none⟩) | 4 => v = .string (ba l) | 5 => True | 6 => True | 7 => True | 8 => True | 9 => True | 10 => True | 11 => True | _ => True : Prop)) (PG (b6 + 1) o (Own4 wv rv av pv) W) (fun _ _ => True) #[true, true, true, true, true, true, true, true, true, true, true, true] 0 (by kernel_rfl) (by kernel_rfl) (by kernel_rfl) (by kernel_rfl) (by kernel_rfl) (by kernel_rfl) (by kernel_rfl) (by kernel_rfl) (fun f => ⟨Frm.refl _ _, fun _ => Frm.refl _ _, fun h => by rw [upTo_at] at h; simp at h, fun h => by rw [upTo_at] at h; simp at h, fun h => by rw [upTo_at] at h; simp at h, fun h => by rw [upTo_at] at h; simp at h, fun h => by rw [upTo_at] at h; simp at h, fun h => by rw [upTo_at] at h; simp at h, fun h => by rw [upTo_at] at h; simp at h, fun h => by rw [upTo_at] at h; simp at h, fun h => by rw [upTo_at] at h; simp at h, fun h => by rw [upTo_at] at h; simp at h⟩) ?hV ?steps ?fin
        case hV =>
          intro j v w1 w2 h hF
          match j, h with
          | 0, h => exact h
          | 1, h => exact h
          | 2, h => exact h
          | 3, h => exact h
          | 4, h => exact h
          | 5, h => exact h
          | 6, h => exact h
          | 7, h => exact h
          | 8, h => exact h
          | 9, h => exact h
          | 10, h => exact h
          | 11, h => exact h
          | _ + 12, _ => trivial
        case steps =>
          refine steps_cons 0 rfl ?_ ?_
          · intro f L w1 A ρ hρ hG hL hLd hd hu hA K hK
            have e1 : ρ (.tmp 6) = .pointer (some ⟨b6, 0, none⟩) := (hA 6).trans (by kernel_rfl)
            refine fx_val hρ rfl (v := .agg C1) (w' := w1) (exec_load rfl e1 (run_loadAt_row w1 b6 33 33 C1 _ (HQ.out.1.kept hG.fr HN4.out.1) Tryz.underlying33 rfl (by rw [HC1.out.2.1]; exact st_info))) (hK _ _ rfl trivial (hG.keep (by decide) _))
          refine steps_cons 1 rfl ?_ ?_
          · intro f L w1 A ρ hρ hG hL hLd hd hu hA K hK
            have e1 : ρ (.tmp 5) = .slice (some ⟨g, 0, none⟩) n c := (hA 5).trans (by kernel_rfl)
            refine fx_val hρ rfl (v := .slice (some ⟨g, 0, none⟩) n c) (w' := w1) (by simp [execOp, go_sem, e1]) (hK _ _ rfl trivial (hG.keep (by decide) _))
          refine steps_cons 2 rfl ?_ ?_
          · intro f L w1 A ρ hρ hG hL hLd hd hu hA K hK
            have e1 : ρ (.tmp 7) = .int .i64 k := (hA 7).trans (by kernel_rfl)
            refine fx_val hρ rfl (v := .int .i64 k) (w' := w1) (by simp [execOp, go_sem, e1]) (hK _ _ rfl trivial (hG.keep (by decide) _))
          refine steps_cons 3 rfl ?_ ?_
          · intro f L w1 A ρ hρ hG hL hLd hd hu hA K hK
            have e0 : ρ (.tmp 31) = .slice (some ⟨g, 0, none⟩) n c := (hA 31).trans ((show (puts _ f _ _).eval (.tmp 31) = f 1 from by kernel_rfl).trans (hd 1 (by kernel_rfl)))
            have e2 : ρ (.tmp 32) = .int .i64 k := (hA 32).trans ((show (puts _ f _ _).eval (.tmp 32) = f 2 from by kernel_rfl).trans (hd 2 (by kernel_rfl)))
            refine fx_val hρ rfl (v := .pointer (some ⟨g, k, none⟩)) (w' := w1) (by simp [execOp, go_sem, e0, e2, Addr.add]; rw [if_pos (by omega)]; split <;> simp_all) (hK _ _ rfl trivial (hG.keep (by decide) _))
          refine steps_cons 4 rfl ?_ ?_
          · intro f L w1 A ρ hρ hG hL hLd hd hu hA K hK
            have e1 : ρ (.tmp 33) = .pointer (some ⟨g, k, none⟩) := (hA 33).trans ((show (puts _ f _ _).eval (.tmp 33) = f 3 from by kernel_rfl).trans (hd 3 (by kernel_rfl)))
            have c1 := hG.fr.cell HQ.out.2.2.2.2.2.2 HN4.out.2.2.1
            refine fx_val hρ rfl (v := .string (ba l)) (w' := w1) (by simp [execOp, go_sem, e1, c1]) (hK _ _ rfl trivial (hG.keep (by decide) _))
          refine steps_cons 5 rfl ?_ ?_
          · intro f L w1 A ρ hρ hG hL hLd hd hu hA K hK
            have e1 : ρ (.tmp 30) = .agg C1 := (hA 30).trans ((show (puts _ f _ _).eval (.tmp 30) = f 0 from by kernel_rfl).trans (hd 0 (by kernel_rfl)))
            have e2 : ρ (.tmp 34) = .string (ba l) := (hA 34).trans ((show (puts _ f _ _).eval (.tmp 34) = f 4 from by kernel_rfl).trans (hd 4 (by kernel_rfl)))
            have hj := HCq.out w1 (hG.cl hL)
            refine fx_call hρ rfl _ _ _ rfl (by simp [e1, e2]) (Tryz.call19 _ _) hj ?_
            rintro e w5 ⟨C', rfl, hs', h1', hF', hy'⟩
            exact ⟨_, rfl, hK _ _ trivial trivial (hG.call hL hF' HN4.out.2.2.2 ⟨hs', h1', hy'⟩)⟩
          refine steps_cons 6 rfl ?_ ?_
          · intro f L w1 A ρ hρ hG hL hLd hd hu hA K hK
            obtain ⟨C', e5, hp⟩ := hG.r5 (hLd 5 (by kernel_rfl))
            have e0 : ρ (.tmp 35) = f 5 := (hA 35).trans (show (puts _ f _ _).eval (.tmp 35) = f 5 from by kernel_rfl)
            rw [e5] at e0
            refine fx_val hρ rfl (v := .tuple #[.agg C', .bool o.isSome]) (w' := w1) (by simp [execOp, go_sem, e0]) (hK _ _ trivial trivial (hG.mv hL (hLd 5 (by kernel_rfl)) hp))
          refine steps_cons 7 rfl ?_ ?_
          · intro f L w1 A ρ hρ hG hL hLd hd hu hA K hK
            obtain ⟨C', e5, hp⟩ := hG.r6 (hLd 6 (by kernel_rfl))
            have e0 : ρ (.tmp 29) = f 6 := (hA 29).trans (show (puts _ f _ _).eval (.tmp 29) = f 6 from by kernel_rfl)
            rw [e5] at e0
            refine fx_val hρ rfl (v := .agg C') (w' := w1) (by simp [execOp, go_sem, e0]) (hK _ _ trivial trivial (hG.ext0 hL (hLd 6 (by kernel_rfl)) hp))
          refine steps_cons 8 rfl ?_ ?_
          · intro f L w1 A ρ hρ hG hL hLd hd hu hA K hK
            obtain ⟨C', e5, hp⟩ := hG.r6 (hLd 6 (by kernel_rfl))
            have e0 : ρ (.tmp 29) = f 6 := (hA 29).trans (show (puts _ f _ _).eval (.tmp 29) = f 6 from by kernel_rfl)
            rw [e5] at e0
            refine fx_val hρ rfl (v := .bool o.isSome) (w' := w1) (by simp [execOp, go_sem, e0]) (hK _ _ trivial trivial (hG.ext1))
          refine steps_cons 9 rfl ?_ ?_
          · intro f L w1 A ρ hρ hG hL hLd hd hu hA K hK
            refine fx_val hρ rfl (v := .pointer (some ⟨w1.heap.size, 0, none⟩)) (w' := w1.alloc (.cells zeroC 33)) (by simp [execOp, go_sem, zeroC, stCells, zeroSt]) (hK _ _ trivial trivial (hG.alc hL zeroC rfl))
          refine steps_cons 10 rfl ?_ ?_
          · intro f L w1 A ρ hρ hG hL hLd hd hu hA K hK
            obtain ⟨C', e6, hp⟩ := hG.r7 (hLd 7 (by kernel_rfl))
            have e0 : ρ (.tmp 36) = f 7 := (hA 36).trans (show (puts _ f _ _).eval (.tmp 36) = f 7 from by kernel_rfl)
            rw [e6] at e0
            obtain ⟨g8, cs, e9, hg8, hcs, hbk⟩ := hG.r9 (hLd 9 (by kernel_rfl))
            have e1 : ρ (.tmp 8) = f 9 := (hA 8).trans (show (puts _ f _ _).eval (.tmp 8) = f 9 from by kernel_rfl)
            rw [e9] at e1
            refine fx_skp hρ rfl (w' := w1.setRow g8 C') (exec_store rfl e1 e0 (by simp only [Instr.storeAt, Instr.sureAddr, Sem.run_bind, Sem.run_pure, Result.andThen_ok, run_storeVar_row w1 g8 33 33 cs C' hbk (by rw [hp.1]; exact st_info) (by rw [hp.1]; exact hcs) hp.2.1])) (hK _ _ trivial trivial (hG.put (hLd 7 (by kernel_rfl)) (hLd 9 (by kernel_rfl)) e9 hg8 hbk hp _))
          refine steps_cons 11 rfl ?_ ?_
          · intro f L w1 A ρ hρ hG hL hLd hd hu hA K hK
            have e7 := hG.r8 (hLd 8 (by kernel_rfl))
            have e0 : ρ (.tmp 37) = f 8 := (hA 37).trans (show (puts _ f _ _).eval (.tmp 37) = f 8 from by kernel_rfl)
            rw [e7] at e0
            refine fx_val hρ rfl (v := .bool o.isSome) (w' := w1) (by simp [execOp, go_sem, e0]) (hK _ _ trivial trivial hG.asg)
          exact steps_nil
        case fin =>
          intro f L w5 hG hLL hV
          have h11 := hG.r11 (hLL 11 rfl)
          obtain ⟨g8, C', e9, hg8, hbk, hp⟩ := hG.r10 (hLL 10 rfl)
          simp only [puts, dstOf, List.getElem?_cons_succ, List.getElem?_cons_zero, Option.bind_some, Act.put, List.setIfInBounds_toArray, List.set_cons_succ, List.set_cons_zero, h11, e9]
          have HE := Lib.hid (And.intro hG.fr (And.intro hbk (And.intro hp hg8)))
          have HF5 := Lib.hid (show Frm (fun _ => False) w w5 from HQ.out.2.2.2.1.trans HE.out.1 fun q hq => .inr (by have h1 := own4_ge HQ.out.2.2.1 hq; have h2 := Hb6.out.1; have h3 := HW.out.2.1.size; omega))
          have HR5 := Lib.hid (And.intro (HQ.out.1.kept HE.out.1 HN4.out.1) (HQ.out.2.1.kept HE.out.1 HN4.out.2.1))
          clear hG hLL hV h11 e9 hbk hp hg8
          have HO5 := Lib.hid (HE.out.1.own HQ.out.2.2.2.2.1 fun q hq hk => by
            obtain ⟨cs, hcs⟩ := own_blk HQ.out.2.2.2.2.1 q hq
            exact HQ.out.2.2.1.not4 hcs (by decide) (by decide) (by decide) hk)
          refine plan_done (by kernel_rfl) ?_
          have hn9 := Hn9.out
          have hw64 : wrap64 ((k : Int) + 1) = (k : Int) + 1 := by unfold wrap64; omega
          cases hoo : o with
          | none =>
            have Hp1 := Lib.hid (show parseB t = .line (k + 1) by
              rw [Hp0.out, Ho.out.2.2, saysB_none _ _ (by rw [← Ho.out.2.1, hoo])])
            clear hoo
            go_wp2_with (first | (refine wpList_valT rfl (some 40) rfl (v := .agg zeroC) (w' := w5) (by simp [go_sem, execOp, zeroC, stCells, zeroSt]) ?_) | (refine wpList_store_rowT rfl 33 (.tmp 2) (.tmp 40) rfl rfl b zeroC rfl rfl _ _ HR5.out.2 st_info rfl (stCells_one ⟨rfl, rfl, rfl, rfl⟩) ?_))
            refine bodyPost_ret (results_cs2 rfl rfl (HR5.out.2.setRow _) rfl rfl rfl) rfl ?_
            have hbw := Hb.out
            refine ⟨HF5.out.trans (K' := fun q => q = b) ((Frm.refl (fun q => q = b) w5).setRow (.inl rfl) _) fun q hq => .inr (by omega), zeroSt, zeroC, ans_zero _ _, ?_⟩
            rw [Hp1.out]
            exact ⟨by first | rfl | (simp [hw64]; done), rfl⟩
          | some st' =>
            have HS1 := Lib.hid (show saysB newSt 1 ls = saysB st' (k + 1 + 1) (ls.drop (k + 1)) ∧ totS st' ≤ totS s1 + l.length from by
              exact ⟨by rw [Ho.out.2.2, saysB_some _ _ (by rw [← Ho.out.2.1, hoo])], sayB_tot s1 st' l (by rw [← Ho.out.2.1, hoo])⟩)
            obtain ⟨a1, a2, a3, a4, hCe, hl'⟩ := HE.out.2.2.1.2.2 st' hoo
            have HL' := Lib.hid (And.intro hCe hl')
            clear hoo hCe hl'
            have hb68 : b6 ≠ b := by have := Hb6.out.2; omega
            go_wp2_with (first | (refine wpList_loadT (by rfl) 33 (.tmp 8) (by rfl) g8 (by rfl) C' _ _ HE.out.2.1 Tryz.underlying33 (by rfl) (by rw [HE.out.2.2.1.1]; exact st_info) ?_) | (refine wpList_store_rowT rfl 33 (.tmp 6) (.tmp 43) rfl rfl b6 C' rfl rfl _ _ HR5.out.1 (by rw [HE.out.2.2.1.1]; exact st_info) (by rw [HE.out.2.2.1.1]; exact HC1.out.2.1) HE.out.2.2.1.2.1 ?_))
            go_roundw
            case rel =>
              have hFs : Frm (fun q => q = b6) w5 (w5.setRow b6 C') := (Frm.refl (fun q => q = b6) w5).setRow (.inl rfl) _
              refine ⟨k + 1, by omega, by first | rw [hw64]; rfl | go_num, Lib.hid ⟨st', C', HS1.out.1, HR5.out.1.setRow _, HR5.out.2.kept hFs (fun e => hb68 e.symm), ⟨a1, a2, a3, a4, HL'.out.1, HL'.out.2.setStory HR5.out.1⟩, HF5.out.trans hFs fun q hq => .inr ?_, hFs.own HO5.out fun q hq e => ?_, ?_, ?_⟩⟩
              · have h2 := Hb6.out.1
                have h3 := HW.out.2.1.size
                omega
              · subst e
                exact own_blk_ne HO5.out HR5.out.1 (by decide) hq
              · have h1 := HS1.out.2
                have h2 := HSu.out.2.1
                have h3 := HSu.out.2.2
                omega
              · exact Nat.le_trans (Nat.le_trans HQ.out.2.2.2.2.2.1 HE.out.1.size) hFs.size
            case measure => simp [intOf, hw64]; omega

      · obtain rfl : n = k := by omega
        obtain ⟨s1, C1, h1, h2, h3, h4, h5, -⟩ := hT.out
        rw [show ls.drop n = [] from List.drop_of_length_le (by have := HW.out.2.2.2.2; omega)] at h1
        have HE := Lib.hid (And.intro (show parseB t = .ok s1 by rw [Hp0.out, h1]; rfl) (And.intro h2 (And.intro h3 (And.intro h4 h5))))
        clear hT h1 h2 h3 h4 h5
        go_wp2_with (first | (refine wpList_loadT (by rfl) 33 (.tmp 6) (by rfl) b6 (by rfl) C1 _ _ HE.out.2.1 Tryz.underlying33 (by rfl) (by rw [HE.out.2.2.2.1.size]; exact st_info) ?_) | (refine wpList_store_rowT rfl 33 (.tmp 2) (.tmp 44) rfl rfl b C1 rfl rfl _ _ HE.out.2.2.1 (by rw [HE.out.2.2.2.1.size]; exact st_info) (by rw [HE.out.2.2.2.1.size]; rfl) HE.out.2.2.2.1.one ?_))
        refine bodyPost_ret (results_cs2 rfl rfl (HE.out.2.2.1.setRow _) HE.out.2.2.2.1.size rfl rfl) rfl ?_
        have hbw := Hb.out
        have h66 := Hb6.out
        refine ⟨HE.out.2.2.2.2.trans (K' := fun q => q = b) ((Frm.refl (fun q => q = b) wr).setRow (.inl rfl) _) fun q hq => .inr (by omega), s1, C1, (HE.out.2.2.2.1.mono (by omega)).lay HE.out.2.2.1, ?_⟩
        rw [HE.out.1]
        exact ⟨rfl, rfl⟩
end Go.Proofs.YtpcdbkaeijhmfaaGreatDoor
