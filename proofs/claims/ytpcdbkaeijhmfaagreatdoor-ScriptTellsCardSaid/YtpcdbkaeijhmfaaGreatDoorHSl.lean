/- script: (*story).lines. -/
import Derived.Deep.DeepCutAuto
import Derived.Deep.CutBlock
import Derived.Test.YtpcdbkaeijhmfaaGreatDoorGG
import Derived.Test.YtpcdbkaeijhmfaaGreatDoorGA
namespace Go.Proofs.YtpcdbkaeijhmfaaGreatDoor
set_option maxRecDepth 100000
set_option linter.unusedVariables false
set_option linter.unusedSimpArgs false
open Go.RowKit
theorem svb_one (l : List By) : ∀ u ∈ svb l, u.oneCell' = true := by
  intro u hu; simp [svb] at hu; obtain ⟨c, _, rfl⟩ := hu; rfl
/-- The lines so far. -/
def LI (w : World) (ls : List By) (t : Value) (wr : World) : Prop := wr.ownsRow w.heap.size 9 1 t ls.length (svb ls) ∧ Frm (fun _ => False) w wr
theorem LI.nil (w : World) : LI w [] (.slice none 0 0) w := ⟨World.ownsRow_nil _ _ _ _, Frm.refl _ _⟩
theorem LI.form {w wr : World} {ls : List By} {t : Value} (h : LI w ls t wr) : ∃ A c, t = .slice A ls.length c := by
  obtain ⟨A, c, e, -, -⟩ := own_form h.1
  exact ⟨A, c, e⟩
theorem LI.step {w wr w1 : World} {ls : List By} {t : Value} (h : LI w ls t wr) (hF : Frm (fun _ => False) wr w1) : LI w ls t w1 := ⟨hF.own h.1 fun _ _ => id, h.2.trans' hF⟩
/-- What append makes of them. -/
theorem LI.app {w wr w6 : World} {ls news : List By} {t : Value} {A6 : Option Addr} {N6 c6 : Nat} (h : LI w ls t wr) (hN : N6 = ls.length + news.length) (ho : w6.ownsRow w.heap.size 9 1 (.slice A6 N6 c6) N6 (svb ls ++ svb news)) (hg : wr.grownBy w6 t.ownBlock) : LI w (ls ++ news) (.slice A6 N6 c6) w6 := by
  refine ⟨?_, h.2.grown hg fun q hq => .inr (h.1.lt q hq).1⟩
  rw [show (ls ++ news).length = N6 from by simp [hN], show svb (ls ++ news) = svb ls ++ svb news from by simp [svb]]
  exact ho
section
variable {w w0 : World} {ops : Array Oper} {rest : List Oper} {o : Oper} {a : Act} {Q : Exit → Act → World → Prop}
theorem wpList_li (hgd : o.guard = none) (s x : Operand) (ho : o.op = .call { callee := .builtin .append, args := #[s, x], argTypes := #[46, 46] }) (ls news : List By) {v : Value} (hLI : LI w0 ls v w) (hs : a.eval s = v) {u : Value} (hx : a.eval x = u) {K : Nat → Prop} (hsl : Sl w K u (svb news)) (h63 : ls.length + news.length ≤ 100000000)
    (h : ∀ v6 w6, LI w0 (ls ++ news) v6 w6 → wpList Tryz.prog ops Q rest (a.put o.dst v6) w6) : wpList Tryz.prog ops Q (o :: rest) a w := by
  obtain ⟨i0, hi, hz0, hz1, hz2⟩ := info_parts infoSt
  refine wpList_append_sl hgd s x 46 ho w0.heap.size 9 i0 (.string ByteArray.empty) 16 Tryz.underlying46 hi hz0 hz1 hz2 (by rfl) v ls.length (svb ls) hs hLI.1 K u (svb news) hx hsl (svb_one news) (by unfold maxLen; simp; omega) (by simp; omega) hLI.2.size ?_
  intro A6 N6 c6 w6 HN hNc hc6 hown hg hat
  exact h _ _ (hLI.app (by simpa using HN.out) hown hg)
end
theorem LI.len {w wr : World} {ls : List By} {A : Option Addr} {n c : Nat} (h : LI w ls (.slice A n c) wr) : n = ls.length := by
  obtain ⟨A', c', e, -⟩ := own_form h.1
  cases e; rfl
theorem ba_app (x y : By) : ba x ++ ba y = ba (x ++ y) := by
  apply ByteArray.ext
  rw [ByteArray.data_append]
  simp [ba]
theorem kd_at (k : Nat) (h : k < 5) : (kindL.map ba).getD k ByteArray.empty = ba (kindL.getD k []) := by
  revert k; decide +kernel
theorem kd_len (k : Nat) (h : k < 5) : (kindL.getD k []).length ≤ 5 := by
  revert k; decide +kernel
theorem near1 {x : Int} (h : near x) : ∀ y ∈ [x], -9223372036854775808 ≤ y ∧ y ≤ 9223372036854775807 := by
  intro y hy; rw [List.mem_singleton.1 hy]; unfold near at h; omega
theorem near2 {x z : Int} (h : near x) (h' : near z) : ∀ y ∈ [x, z], -9223372036854775808 ≤ y ∧ y ≤ 9223372036854775807 := by
  intro y hy
  rcases List.mem_cons.1 hy with rfl | hy
  · unfold near at h; omega
  · rw [List.mem_singleton.1 hy]; unfold near at h'; omega
theorem seed_near {n : Nat} (h : n ≤ 4294967295) : near (n : Int) := by unfold near; omega
def SLPost (st : St) (w : World) (e : Ending) (w' : World) : Prop := ∃ q A c, e = .returned (.func (.func 76) #[] #[.pointer (some ⟨q, 0, none⟩)]) ∧ Blk w' q 46 #[.slice A (linesP st).length c] ∧ w'.ownsRow w.heap.size 9 1 (.slice A (linesP st).length c) (linesP st).length (svb (linesP st)) ∧ w.heap.size ≤ q ∧ Frm (fun _ => False) w w'
set_option maxHeartbeats 8000000 in
theorem slines_any (b : Nat) (st : St) (wv rv av pv : Value) (w : World) (hb : Blk w b 50 (stCells st wv rv av pv)) (hL : LsR w (InW w) st wv rv av pv) (hok : Okay st) (hk : st.kind < 5) (hn : (∀ x ∈ st.conf, near x) ∧ (∀ x ∈ st.picks, near x) ∧ near st.last ∧ near st.cancel ∧ near st.most) (hg : Gl w) :
    Calls Tryz.prog 26 #[.pointer (some ⟨b, 0, none⟩)] w (SLPost st w) := by
  obtain ⟨i0, hi, hz0, hz1, hz2⟩ := info_parts infoSt
  obtain ⟨Aw, cw, rfl, hw1, hw2⟩ := hL.words.form
  obtain ⟨Ar, cr, rfl, hr1, hr2⟩ := hL.reads.form
  obtain ⟨fo, hfo⟩ : ∃ fo, fo = st.fold := ⟨_, rfl⟩
  obtain ⟨br, hbr⟩ : ∃ br, br = st.broken := ⟨_, rfl⟩
  have hc0 : w.cell? ⟨b, 0, none⟩ = some (.bool fo) := by rw [hfo]; exact hb.cell 0
  obtain ⟨nw, hnw⟩ : ∃ nw, nw = st.words.length := ⟨_, rfl⟩
  obtain ⟨nr, hnr⟩ : ∃ nr, nr = st.reads.length := ⟨_, rfl⟩
  have hc1 : w.cell? ⟨b, 1, none⟩ = some (.slice Aw nw cw) := by rw [hnw]; exact hb.cell 1
  have hc10 : w.cell? ⟨b, 10, none⟩ = some (.slice Ar nr cr) := by rw [hnr]; exact hb.cell 10
  have H := Lib.hid (And.intro hb (And.intro hL (And.intro hok (And.intro hk (And.intro hn (And.intro hg (And.intro hfo (And.intro hbr (And.intro hnw hnr)))))))))
  have HC := Lib.hid (And.intro hc0 (And.intro hc1 hc10))
  have hnw9 : nw ≤ 100000 := by rw [hnw]; exact hok.words.1
  have hnr9 : nr ≤ 100000 := by rw [hnr]; exact hok.reads.1
  clear hb hL hok hk hn hg hfo hbr hnw hnr hw1 hw2 hr1 hr2 hc1 hc10
  go_enter Tryz.func26, Tryz.ntmps26
  go_upto_if 16 with fail
  go_cut [3] from 17 to 19 (fun t wc => Hid (LI w (if fo then [bs "fold"] else []) t wc))
  case first =>
    have H0 := LI.nil w
    cases fo with
    | true =>
      go_wp2_with (at_builtin; go_loud (refine wpList_li (by rfl) _ _ (by rfl) [] [bs "fold"] (H0.step ((Frm.refl (fun _ => False) w).alloc _)) (by rfl) (by rfl) (Sl.blk1 w _ _) (by simp) ?_); go_loud (intro v6 w6 h6))
      have H6 := Lib.hid h6
      clear h6
      go_wp2_with fail
      go_meet
      case rel => exact H6
    | false =>
      have H6 := Lib.hid H0
      clear H0
      go_wp2_with fail
      go_meet
      case rel => exact H6
  case rest =>
    obtain ⟨l0, hl0⟩ : ∃ l0, l0 = if fo then [bs "fold"] else [] := ⟨_, rfl⟩
    rw [← hl0] at hcut
    have hF := hcut.out.2
    have hc1 := hF.cell HC.out.2.1 id
    have Hl0 := Lib.hid hl0
    have Hcut := Lib.hid hcut
    clear hcut hl0 hF hc0
    go_wp2_with fail
    go_loopw [3, 26] (fun t i wr => ∃ k : Nat, k ≤ nw ∧ i = .int .i64 k ∧ Hid (LI w (l0 ++ (st.words.take k).map wordL) t wr)) (fun _ i _ => nw - (intOf i).toNat)
    case atStart => exact ⟨0, Nat.zero_le _, rfl, by simpa using Hcut.out⟩
    case round =>
      obtain ⟨k, hk, rfl, hT⟩ := hrel
      obtain ⟨hb, hL, hok, hk5, hn, hg, hfo, hbr, hnw, hnr⟩ := H.out
      by_cases hlt : k < nw
      · have hF := hT.out.2
        obtain ⟨u, g, o, rfl, hKg, hc, hu⟩ := hL.words.at_ k (by omega)
        have hc2 := hF.cell hc id
        obtain ⟨x, hx⟩ : ∃ x, x = st.words[k]'(by omega) := ⟨_, rfl⟩
        rw [← hx] at hu
        obtain ⟨A5, n5, c5, rfl, -⟩ := id hu
        have hq := quote_any A5 n5 c5 (InW w) x wr (hu.kept fun q hq => hF.block q hq id) (by have := hok.words.2 x (hx ▸ List.getElem_mem _); omega) (fun q hq => Nat.lt_of_lt_of_le hq hF.size)
        have hql : (quoteB x).length ≤ 1000000 := by
          have h1 := hok.words.2 x (hx ▸ List.getElem_mem _)
          have h2 := quoteGo_len x
          rw [quoteB_eq, List.length_append, List.length_singleton]; omega
        have HA := Lib.hid (And.intro hT.out (show (st.words.take (k + 1)).map wordL = (st.words.take k).map wordL ++ [wordL x] by rw [hx, List.take_succ_eq_append_getElem (by omega), List.map_append]; rfl))
        have HLt := Lib.hid hlt
        clear hT hF hc hu hb hL hok hk5 hn hg hfo hbr hnw hnr hKg hx hc1
        go_wp2_with fail
        refine hq.mono ?_
        rintro e w1 ⟨rfl, hF1⟩
        have HF1 := Lib.hid hF1
        obtain ⟨S, hS⟩ : ∃ S, S = ba (quoteB x) := ⟨_, rfl⟩
        obtain ⟨T, hT⟩ : ∃ T, T = ba (wordL x) := ⟨_, rfl⟩
        rw [← hS]
        have hsz : S.size ≤ 1000000 := by rw [hS]; exact hql
        have hcat : ({ data := #[119, 111, 114, 100, 32] } : ByteArray) ++ S = T := by rw [hS, hT]; exact ba_app (bs "word ") _
        have HT := Lib.hid hT
        have hlen : (l0 ++ (st.words.take k).map wordL).length + 1 ≤ 100000000 := by
          have h1 := Hl0.out
          have h2 : l0.length ≤ 1 := by rw [h1]; split <;> simp
          rw [List.length_append, List.length_map, List.length_take]
          have := HLt.out
          omega
        clear hS hT hq hF1 hc2 hql
        go_wp2_with (at_builtin; go_loud (refine wpList_li (by rfl) _ _ (by rfl) _ [wordL x] (HA.out.1.step (HF1.out.alloc _)) (by rfl) (by rfl) (K := fun q => q = w1.heap.size) (by rw [HT.out]; exact Sl.blk1 w1 _ _) (by exact hlen) ?_); go_loud (intro v6 w6 h6))
        rw [List.append_assoc, ← HA.out.2] at h6
        have H6 := Lib.hid h6
        clear h6 hcat hsz hlen
        go_wp2_with fail
        go_roundw
        case rel => exact ⟨k + 1, by have := HLt.out; omega, by go_num, H6⟩
        case measure => have := HLt.out; simp [intOf]; omega
      · obtain rfl : k = nw := by omega
        have h1 := hT.out
        rw [List.take_of_length_le (by omega)] at h1
        obtain ⟨l1, hl1⟩ : ∃ l1, l1 = l0 ++ st.words.map wordL := ⟨_, rfl⟩
        rw [← hl1] at h1
        have hl1n : l1.length ≤ 100001 := by
          have h2 : l0.length ≤ 1 := by rw [Hl0.out]; split <;> simp
          rw [hl1, List.length_append, List.length_map]; omega
        obtain ⟨a0, a1, a2, a3, a4, a5, a6, hcf⟩ := list7 st.conf hok.conf
        have hB := hb.kept h1.2 id
        have d2 : wr.cell? ⟨b, 2, none⟩ = some (.int .i64 a0) := by rw [hB.cell 2]; simp [stCells, hcf]
        have d3 : wr.cell? ⟨b, 3, none⟩ = some (.int .i64 a1) := by rw [hB.cell 3]; simp [stCells, hcf]
        have d4 : wr.cell? ⟨b, 4, none⟩ = some (.int .i64 a2) := by rw [hB.cell 4]; simp [stCells, hcf]
        have d5 : wr.cell? ⟨b, 5, none⟩ = some (.int .i64 a3) := by rw [hB.cell 5]; simp [stCells, hcf]
        have d6 : wr.cell? ⟨b, 6, none⟩ = some (.int .i64 a4) := by rw [hB.cell 6]; simp [stCells, hcf]
        have d7 : wr.cell? ⟨b, 7, none⟩ = some (.int .i64 a5) := by rw [hB.cell 7]; simp [stCells, hcf]
        have d8 : wr.cell? ⟨b, 8, none⟩ = some (.int .i64 a6) := by rw [hB.cell 8]; simp [stCells, hcf]
        have hcc := conf_any a0 a1 a2 a3 a4 a5 a6 wr
        have hjn : ∀ (v : Value) (W : World), Frm (fun _ => False) wr W → W.ownsRow wr.heap.size 3 1 v 7 (ivs [a0, a1, a2, a3, a4, a5, a6]) → Calls Tryz.prog 54 #[.string { data := #[99, 111, 110, 102] }, v] W fun e w' => e = .returned (.string (ba (joinB (bs "conf") [a0, a1, a2, a3, a4, a5, a6]))) ∧ Frm (fun _ => False) W w' := by
          intro v W hF ho
          obtain ⟨A, c, rfl, -, -⟩ := own_form ho
          have := join_any (bs "conf") A 7 c [a0, a1, a2, a3, a4, a5, a6] (InW W) W (Sl.of_own ho fun q _ h => h) (fun _ h => h) (by simp) (fun x hx => by have := hn.1 x (hcf ▸ hx); unfold near at this; omega) (by decide) ((hg.frm h1.2).frm hF)
          rw [show ba (bs "conf") = { data := #[99, 111, 110, 102] } by decide] at this
          exact this
        have HJ := Lib.hid hjn
        have H1 := Lib.hid (And.intro h1 (And.intro hl1 hcf))
        clear h1 hl1 hcf hB hjn hT hb hL hok hk5 hn hg hfo hbr hnw hnr hc1
        go_wp2_with fail
        refine hcc.mono ?_
        rintro e w1 ⟨v1, rfl, ho1, hF1⟩
        have hj1 := HJ.out v1 w1 hF1 ho1
        have HF1 := Lib.hid hF1
        clear hcc ho1 hF1 d2 d3 d4 d5 d6 d7 d8
        go_wp2_with fail
        refine hj1.mono ?_
        rintro e w2 ⟨rfl, hF2⟩
        have HF2 := Lib.hid (HF1.out.trans' hF2)
        obtain ⟨S, hS⟩ : ∃ S, S = ba (joinB (bs "conf") [a0, a1, a2, a3, a4, a5, a6]) := ⟨_, rfl⟩
        rw [← hS]
        have HS := Lib.hid hS
        clear hj1 hF2 hS
        go_upto_region 10 with (at_builtin; go_loud (refine wpList_li (by rfl) _ _ (by rfl) _ [joinB (bs "conf") [a0, a1, a2, a3, a4, a5, a6]] (H1.out.1.step (HF2.out.alloc _)) (by rfl) (by rfl) (K := fun q => q = w2.heap.size) (by rw [HS.out]; exact Sl.blk1 w2 _ _) (by simp; omega) ?_); go_loud (intro v6 w6 h6))
        obtain ⟨l2, hl2⟩ : ∃ l2, l2 = l1 ++ [joinB (bs "conf") st.conf] := ⟨_, rfl⟩
        rw [← H1.out.2.2, ← hl2] at h6
        have c10 := h6.2.cell HC.out.2.2 id
        have hl2n : l2.length ≤ 100002 := by rw [hl2]; simp; omega
        have H2 := Lib.hid (And.intro h6 hl2)
        clear h6 hl2
        go_wp2_with fail
        go_loopw [3, 55] (fun t i wr => ∃ k : Nat, k ≤ nr ∧ i = .int .i64 k ∧ Hid (LI w (l2 ++ (st.reads.take k).map readL) t wr)) (fun _ i _ => nr - (intOf i).toNat)
        case atStart => exact ⟨0, Nat.zero_le _, rfl, by simpa using Lib.hid H2.out.1⟩
        case round =>
          obtain ⟨k, hk, rfl, hT⟩ := hrel
          obtain ⟨hb, hL, hok, hk5, hn, hg, hfo, hbr, hnw, hnr⟩ := H.out
          by_cases hlt : k < nr
          · have hF := hT.out.2
            obtain ⟨u, g, o, rfl, hKg, hc, hu⟩ := hL.reads.at_ k (by omega)
            have hc2 := hF.cell hc id
            obtain ⟨x, hx⟩ : ∃ x, x = st.reads[k]'(by omega) := ⟨_, rfl⟩
            rw [← hx] at hu
            obtain ⟨A5, n5, c5, rfl, -⟩ := id hu
            have hq := quote_any A5 n5 c5 (InW w) x wr (hu.kept fun q hq => hF.block q hq id) (by have := hok.reads.2 x (hx ▸ List.getElem_mem _); omega) (fun q hq => Nat.lt_of_lt_of_le hq hF.size)
            have hql : (quoteB x).length ≤ 1000000 := by
              have h1 := hok.reads.2 x (hx ▸ List.getElem_mem _)
              have h2 := quoteGo_len x
              rw [quoteB_eq, List.length_append, List.length_singleton]; omega
            have HA := Lib.hid (And.intro hT.out (show (st.reads.take (k + 1)).map readL = (st.reads.take k).map readL ++ [readL x] by rw [hx, List.take_succ_eq_append_getElem (by omega), List.map_append]; rfl))
            have HLt := Lib.hid hlt
            clear hT hF hc hu hb hL hok hk5 hn hg hfo hbr hnw hnr hKg hx c10
            go_wp2_with fail
            refine hq.mono ?_
            rintro e w1 ⟨rfl, hF1⟩
            have HF1 := Lib.hid hF1
            obtain ⟨S, hS⟩ : ∃ S, S = ba (quoteB x) := ⟨_, rfl⟩
            obtain ⟨T, hT⟩ : ∃ T, T = ba (readL x) := ⟨_, rfl⟩
            rw [← hS]
            have hsz : S.size ≤ 1000000 := by rw [hS]; exact hql
            have hcat : ({ data := #[114, 101, 97, 100, 32] } : ByteArray) ++ S = T := by rw [hS, hT]; exact ba_app (bs "read ") _
            have HT := Lib.hid hT
            have hlen : (l2 ++ (st.reads.take k).map readL).length + 1 ≤ 100000000 := by
              rw [List.length_append, List.length_map, List.length_take]
              have := HLt.out
              omega
            clear hS hT hq hF1 hc2 hql
            go_wp2_with (at_builtin; go_loud (refine wpList_li (by rfl) _ _ (by rfl) _ [readL x] (HA.out.1.step (HF1.out.alloc _)) (by rfl) (by rfl) (K := fun q => q = w1.heap.size) (by rw [HT.out]; exact Sl.blk1 w1 _ _) (by exact hlen) ?_); go_loud (intro v6 w6 h6))
            rw [List.append_assoc, ← HA.out.2] at h6
            have H6 := Lib.hid h6
            clear h6 hcat hsz hlen
            go_wp2_with fail
            go_roundw
            case rel => exact ⟨k + 1, by have := HLt.out; omega, by go_num, H6⟩
            case measure => have := HLt.out; simp [intOf]; omega
          · obtain rfl : k = nr := by omega
            have h3 := hT.out
            rw [List.take_of_length_le (by omega)] at h3
            obtain ⟨l3, hl3⟩ : ∃ l3, l3 = l2 ++ st.reads.map readL := ⟨_, rfl⟩
            rw [← hl3] at h3
            have hl3n : l3.length ≤ 200002 := by rw [hl3, List.length_append, List.length_map]; omega
            have hB := hb.kept h3.2 id
            have d9 : wr.cell? ⟨b, 9, none⟩ = some (.bool br) := by rw [hB.cell 9, hbr]; rfl
            have H3 := Lib.hid (And.intro h3 hl3)
            clear h3 hl3 hB hT hb hL hok hk5 hn hg hfo hbr hnw hnr c10
            go_upto_if 71 with fail
            go_cut [3] from 72 to 74 (fun t wc => Hid (LI w (l3 ++ if br then [bs "broken"] else []) t wc))
            case first =>
              cases br with
              | true =>
                go_wp2_with (at_builtin; go_loud (refine wpList_li (by rfl) _ _ (by rfl) l3 [bs "broken"] (H3.out.1.step ((Frm.refl (fun _ => False) _).alloc _)) (by rfl) (by rfl) (Sl.blk1 _ _ _) (by simp; omega) ?_); go_loud (intro v6 w6 h6))
                have H6 := Lib.hid h6
                clear h6
                go_wp2_with fail
                go_meet
                case rel => exact H6
              | false =>
                go_wp2_with fail
                go_meet
                case rel => exact Lib.hid (by simpa using H3.out.1)
            case rest =>
              obtain ⟨l4, hl4⟩ : ∃ l4, l4 = l3 ++ if br then [bs "broken"] else [] := ⟨_, rfl⟩
              rw [← hl4] at hcut
              have hl4n : l4.length ≤ 200003 := by rw [hl4]; split <;> simp <;> omega
              have H4 := Lib.hid (And.intro hcut.out hl4)
              clear hcut hl4 d9
              obtain ⟨hb, hL, hok, hk5, hn, hg, hfo, hbr, hnw, hnr⟩ := H.out
              obtain ⟨Aa, na, ca, rfl, ha1, ha2, ha3, ha4⟩ := hL.answers
              have hna : na = st.answers.length := by simpa [bvs] using ha1
              have hB := hb.kept H4.out.1.2 id
              have d11 : wc.cell? ⟨b, 11, none⟩ = some (.slice Aa na ca) := hB.cell 11
              have hna9 : na ≤ 100000 := by rw [hna]; exact hok.answers
              have HAn := Lib.hid (And.intro hna ha4)
              clear hb hL hok hk5 hn hg hfo hbr hnw hnr hB hna ha1 ha2 ha3 ha4
              go_upto_if 82 with fail
              go_cut [3, 8, 10] from 82 to 102 (fun t _ _ wc => Hid (LI w (l4 ++ if st.answers = [] then [] else [answL st.answers]) t wc))
              case first =>
                by_cases h0 : na = 0
                · subst h0
                  have he : st.answers = [] := List.eq_nil_of_length_eq_zero HAn.out.1.symm
                  go_wp2_with fail
                  go_meet
                  case rel => exact Lib.hid (by rw [if_pos he]; simpa using H4.out.1)
                · have he : ¬ st.answers = [] := fun e => h0 (by rw [HAn.out.1, e]; rfl)
                  have hgt : decide ((na : Int) > 0) = true := by simp; omega
                  have He := Lib.hid he
                  clear he
                  go_upto_region 19 with fail
                  have hbd := bd_new wc
                  have hFb : Frm (fun _ => False) wc (wc.alloc (.cells #[.pointer none, .slice none 0 0] 66)) := (Frm.refl _ wc).alloc _
                  obtain ⟨g, hgd⟩ : ∃ g, g = wc.heap.size := ⟨_, rfl⟩
                  rw [← hgd] at hbd ⊢
                  have hsz : (wc.alloc (.cells #[.pointer none, .slice none 0 0] 66)).heap.size = g + 1 := by rw [World.size_alloc, hgd]
                  generalize wc.alloc _ = w7 at *
                  have hw := bd_string g g [] (bs "answers") w7 hbd (by decide) (by omega)
                  rw [show ba (bs "answers") = { data := #[97, 110, 115, 119, 101, 114, 115] } by decide] at hw
                  have Hg := Lib.hid (And.intro hgd (And.intro hFb hsz))
                  have d11' := hFb.cell d11 id
                  clear hbd hgd hFb hsz d11
                  go_wp2_with fail
                  refine hw.mono ?_
                  rintro e w8 ⟨rfl, hbd, hto⟩
                  have hF8 := hto.frm
                  have hg0 : ¬ g ≤ b := by
                    have h1 := H.out.1.lt
                    have h2 := H4.out.1.2.size
                    have h3 := Hg.out.1
                    omega
                  have d11'' := hF8.cell d11' hg0
                  have HF8 := Lib.hid (And.intro hbd hF8)
                  clear hw hbd hto hF8 hg0 d11'
                  go_wp2_with fail
                  go_loopw [91] (fun i wr => ∃ k : Nat, k ≤ na ∧ i = .int .i64 k ∧ Hid (Bd g g (bs "answers" ++ (st.answers.take k).flatMap yesB) wr ∧ Frm (fun q => g ≤ q) w7 wr)) (fun i _ => na - (intOf i).toNat)
                  case atStart => exact ⟨0, Nat.zero_le _, rfl, Lib.hid ⟨by simpa using HF8.out.1, HF8.out.2⟩⟩
                  case round =>
                    obtain ⟨k, hk, rfl, hT⟩ := hrel
                    obtain ⟨hBd, hF⟩ := hT.out
                    obtain ⟨hgd, hFb, hsz⟩ := Hg.out
                    have hFw : Frm (fun _ => False) w wr := (H4.out.1.2.trans' hFb).trans hF fun q hq => .inr (by have := H4.out.1.2.size; omega)
                    by_cases hlt : k < na
                    · obtain ⟨ga, oa, rfl, hKa, hca⟩ := HAn.out.2.resolve_left (by omega)
                      have hka : k < st.answers.length := by rw [← HAn.out.1]; exact hlt
                      have hc := hFw.cell (hca k (by simpa [bvs] using hka)) id
                      obtain ⟨y, hy⟩ : ∃ y, y = st.answers[k] := ⟨_, rfl⟩
                      rw [show (bvs st.answers)[k]'(by simpa [bvs] using hka) = .bool y by simp [bvs, hy]] at hc
                      have hln : (bs "answers" ++ (st.answers.take k).flatMap yesB).length + 4 ≤ 140737488355328 := by
                        have h1 : ((st.answers.take k).flatMap yesB).length ≤ 4 * k := by
                          have h2 : ∀ l : List Bool, (l.flatMap yesB).length ≤ 4 * l.length := by
                            intro l
                            induction l with
                            | nil => simp
                            | cons a r ih => rw [List.flatMap_cons, List.length_append, List.length_cons]; have : (yesB a).length ≤ 4 := by cases a <;> decide
                                             omega
                          have h3 := h2 (st.answers.take k)
                          rw [List.length_take] at h3; omega
                        rw [List.length_append]
                        have : (bs "answers").length = 7 := by decide
                        omega
                      have hsn : (st.answers.take (k + 1)).flatMap yesB = (st.answers.take k).flatMap yesB ++ yesB y := by
                        rw [List.take_succ_eq_append_getElem hka, ← hy, List.flatMap_append]; simp
                      have HA := Lib.hid (And.intro hsn (And.intro hF hlt))
                      have hgw : g ≤ wr.heap.size := by have := hF.size; omega
                      cases y with
                      | true =>
                        have hw := bd_string g g _ (bs " yes") wr hBd (by exact hln) hgw
                        rw [show ba (bs " yes") = { data := #[32, 121, 101, 115] } by decide] at hw
                        clear hT hBd hF hgd hFb hsz hFw hKa hca hka hy hln hsn hgw
                        go_wp2_with fail
                        refine hw.mono ?_
                        rintro e w9 ⟨rfl, hbd, hto⟩
                        have H9 := Lib.hid (And.intro hbd (HA.out.2.1.trans' hto.frm))
                        clear hw hbd hto hc
                        go_wp2_with fail
                        go_roundw
                        case rel => exact ⟨k + 1, by have := HA.out.2.2; omega, by go_num, Lib.hid ⟨by rw [HA.out.1, ← List.append_assoc]; exact H9.out.1, H9.out.2⟩⟩
                        case measure => have := HA.out.2.2; simp [intOf]; omega
                      | false =>
                        have hw := bd_string g g _ (bs " no") wr hBd (by rw [show (bs " no").length = 3 by decide]; exact Nat.le_trans (Nat.add_le_add_left (by decide) _) hln) hgw
                        rw [show ba (bs " no") = { data := #[32, 110, 111] } by decide] at hw
                        clear hT hBd hF hgd hFb hsz hFw hKa hca hka hy hln hsn hgw
                        go_wp2_with fail
                        refine hw.mono ?_
                        rintro e w9 ⟨rfl, hbd, hto⟩
                        have H9 := Lib.hid (And.intro hbd (HA.out.2.1.trans' hto.frm))
                        clear hw hbd hto hc
                        go_wp2_with fail
                        go_roundw
                        case rel => exact ⟨k + 1, by have := HA.out.2.2; omega, by go_num, Lib.hid ⟨by rw [HA.out.1, ← List.append_assoc]; exact H9.out.1, H9.out.2⟩⟩
                        case measure => have := HA.out.2.2; simp [intOf]; omega
                    · obtain rfl : k = na := by omega
                      rw [List.take_of_length_le (by have := HAn.out.1; omega)] at hBd
                      have hw := bd_read g g _ wr hBd (by have := hF.size; omega)
                      have HA := Lib.hid (And.intro (hFb.trans hF fun q hq => .inr (by omega)) hgd)
                      obtain ⟨S, hS⟩ : ∃ S, S = ba (bs "answers" ++ st.answers.flatMap yesB) := ⟨_, rfl⟩
                      rw [← hS] at hw
                      have HS := Lib.hid hS
                      clear hT hBd hF hgd hFb hsz hFw hS d11''
                      go_wp2_with fail
                      refine hw.mono ?_
                      rintro e w9 ⟨rfl, -, hto⟩
                      have H9 := Lib.hid (H4.out.1.step (HA.out.1.trans hto.frm fun q hq => .inr (by have := HA.out.2; omega)))
                      clear hw hto
                      go_wp2_with (at_builtin; go_loud (refine wpList_li (by rfl) _ _ (by rfl) l4 [answL st.answers] (H9.out.step ((Frm.refl (fun _ => False) w9).alloc _)) (by rfl) (by rfl) (K := fun q => q = w9.heap.size) (by rw [HS.out]; exact Sl.blk1 w9 _ _) (by simp; omega) ?_); go_loud (intro v6 w6 h6))
                      have H6 := Lib.hid h6
                      clear h6
                      go_wp2_with fail
                      go_meet
                      case rel => exact Lib.hid (by rw [if_neg He.out]; exact H6.out)
              case rest =>
                obtain ⟨l5, hl5⟩ : ∃ l5, l5 = l4 ++ if st.answers = [] then [] else [answL st.answers] := ⟨_, rfl⟩
                rw [← hl5] at hcut
                have hl5n : l5.length ≤ 200004 := by rw [hl5]; split <;> simp <;> omega
                have H5 := Lib.hid (And.intro hcut.out hl5)
                clear hcut hl5 d11
                obtain ⟨hb, hL, hok, hk5, hn, hg, hfo, hbr, hnw, hnr⟩ := H.out
                obtain ⟨Ap, np, cp, rfl, hp1, hp2, hp3, hp4⟩ := id hL.picks
                have hnp : np = st.picks.length := by simpa [ivs] using hp1
                have hB := hb.kept H5.out.1.2 id
                have d12 : wc.cell? ⟨b, 12, none⟩ = some (.slice Ap np cp) := hB.cell 12
                have hjn : Calls Tryz.prog 54 #[.string { data := #[112, 105, 99, 107] }, .slice Ap np cp] wc fun e w' => e = .returned (.string (ba (joinB (bs "pick") st.picks))) ∧ Frm (fun _ => False) wc w' := by
                  have := join_any (bs "pick") Ap np cp st.picks (InW wc) wc ((hL.kept H5.out.1.2).picks) (fun _ h => h) (by have := hok.picks; omega) (fun x hx => by have := hn.2.1 x hx; unfold near at this; omega) (by decide) (hg.frm H5.out.1.2)
                  rw [show ba (bs "pick") = { data := #[112, 105, 99, 107] } by decide] at this
                  exact this
                have hnp9 : np ≤ 100000 := by rw [hnp]; exact hok.picks
                have HPn := Lib.hid hnp
                clear hb hL hok hk5 hn hg hfo hbr hnw hnr hB hnp hp1 hp2 hp3 hp4
                go_upto_if 110 with fail
                go_cut [3] from 110 to 120 (fun t wc => Hid (LI w (l5 ++ if st.picks = [] then [] else [joinB (bs "pick") st.picks]) t wc))
                case first =>
                  by_cases h0 : np = 0
                  · subst h0
                    have he : st.picks = [] := List.eq_nil_of_length_eq_zero HPn.out.symm
                    go_wp2_with fail
                    go_meet
                    case rel => exact Lib.hid (by rw [if_pos he]; simpa using H5.out.1)
                  · have he : ¬ st.picks = [] := fun e => h0 (by rw [HPn.out, e]; rfl)
                    have hgt : decide ((np : Int) > 0) = true := by simp; omega
                    have He := Lib.hid he
                    clear he
                    go_wp2_with fail
                    refine hjn.mono ?_
                    rintro e w9 ⟨rfl, hF9⟩
                    have H9 := Lib.hid (H5.out.1.step hF9)
                    obtain ⟨S, hS⟩ : ∃ S, S = ba (joinB (bs "pick") st.picks) := ⟨_, rfl⟩
                    rw [← hS]
                    have HS := Lib.hid hS
                    clear hjn hF9 hS
                    go_wp2_with (at_builtin; go_loud (refine wpList_li (by rfl) _ _ (by rfl) l5 [joinB (bs "pick") st.picks] (H9.out.step ((Frm.refl (fun _ => False) w9).alloc _)) (by rfl) (by rfl) (K := fun q => q = w9.heap.size) (by rw [HS.out]; exact Sl.blk1 w9 _ _) (by simp; omega) ?_); go_loud (intro v6 w6 h6))
                    have H6 := Lib.hid h6
                    clear h6
                    go_wp2_with fail
                    go_meet
                    case rel => exact Lib.hid (by rw [if_neg He.out]; exact H6.out)
                case rest =>
                  obtain ⟨l6, hl6⟩ : ∃ l6, l6 = l5 ++ if st.picks = [] then [] else [joinB (bs "pick") st.picks] := ⟨_, rfl⟩
                  rw [← hl6] at hcut
                  have hl6n : l6.length ≤ 200005 := by rw [hl6]; split <;> simp <;> omega
                  have H6 := Lib.hid (And.intro hcut.out hl6)
                  clear hcut hl6 d12 hjn
                  obtain ⟨hb, hL, hok, hk5, hn, hg, hfo, hbr, hnw, hnr⟩ := H.out
                  have hB := hb.kept H6.out.1.2 id
                  have d13 : wc.cell? ⟨b, 13, none⟩ = some (.int .u8 st.kind) := hB.cell 13
                  have d14 : wc.cell? ⟨b, 14, none⟩ = some (.int .u32 st.seed) := hB.cell 14
                  have d15 : wc.cell? ⟨b, 15, none⟩ = some (.int .i64 st.last) := hB.cell 15
                  clear hb hL hok hk5 hn hg hfo hbr hnw hnr hB
                  go_upto_region 31 with fail
                  refine plan_begin (by kernel_rfl) 33 (by kernel_rfl) ?_
                  obtain ⟨g11, hg11⟩ : ∃ g11, g11 = wc.heap.size := ⟨_, rfl⟩
                  have hBk := Blk.new wc 29 #[.int .u8 (st.kind : Nat), .int .u32 (st.seed : Nat), .int .i64 st.last]
                  have hFk : Frm (fun _ => False) wc (wc.alloc (.cells #[.int .u8 (st.kind : Nat), .int .u32 (st.seed : Nat), .int .i64 st.last] 29)).drew := ((Frm.refl _ wc).alloc _).drew
                  rw [← hg11] at hBk ⊢
                  obtain ⟨kd, hkd⟩ : ∃ kd, kd = kindL.getD st.kind [] := ⟨_, rfl⟩
                  have HKd := Lib.hid (And.intro hkd (show kd.length ≤ 5 by rw [hkd]; exact kd_len _ H.out.2.2.2.1))
                  clear hkd
                  replace hBk := hBk.drew
                  generalize (wc.alloc _).drew = W at hBk hFk ⊢
                  have HW := Lib.hid (And.intro hBk (And.intro hFk hg11))
                  clear hBk hFk hg11 d13 d14 d15
                  refine plan_fx [0, 1, 2, 3, 4, 5, 6, 7, 8, 9, 10, 11, 12, 13, 14, 15, 16, 17, 18, 19, 20, 21, 22, 23, 24, 25, 26, 27, 28, 29, 30] (fun (j : Nat) (v : Value) (w : World) => (match j with | 0 => v = u3 | 1 => ∃ g, v = .slice (some ⟨g, 0, none⟩) 5 5 ∧ ∀ j, j < (kindL.map ba).length → w.cell? ⟨g, 0 + j, none⟩ = some (.string ((kindL.map ba).getD j ByteArray.empty)) | 2 => v = .pointer (some ⟨g11, 0, none⟩) | 3 => v = .int .u8 (st.kind : Nat) | 4 => ∃ g, v = .pointer (some ⟨g, st.kind, none⟩) ∧ w.cell? ⟨g, st.kind, none⟩ = some (.string (ba kd)) | 5 => v = .string (ba kd) | 6 => v = .string (ba (bs "plan " ++ kd)) | 7 => v = .pointer (some ⟨g11, 1, none⟩) | 8 => v = .int .u32 (st.seed : Nat) | 9 => v = .int .i64 (st.seed : Nat) | 10 => v = .pointer (some ⟨g11, 2, none⟩) | 11 => v = .int .i64 st.last | 12 => ∃ A c, v = .slice A 2 c ∧ Sl w (InW w) v (ivs [st.seed, st.last]) | 13 => v = .string (ba (planL st)) | 14 => v = .pointer (some ⟨b, 0, none⟩) | 15 => v = .pointer (some ⟨b, 0, none⟩) | 16 => v = .pointer (some ⟨b, 0, none⟩) | 17 => v = .pointer (some ⟨b, 2, none⟩) | 18 => v = .pointer (some ⟨b, 16, none⟩) | 19 => v = .int .i64 st.cancel | 20 => ∃ A c, v = .slice A 1 c ∧ Sl w (InW w) v (ivs [st.cancel]) | 21 => v = .string (ba (joinB (bs "cancel") [st.cancel])) | 22 => v = .pointer (some ⟨b, 0, none⟩) | 23 => v = .pointer (some ⟨b, 0, none⟩) | 24 => v = .pointer (some ⟨b, 0, none⟩) | 25 => v = .pointer (some ⟨b, 2, none⟩) | 26 => v = .pointer (some ⟨b, 17, none⟩) | 27 => v = .int .i64 st.most | 28 => ∃ A c, v = .slice A 1 c ∧ Sl w (InW w) v (ivs [st.most]) | 29 => v = .string (ba (joinB (bs "most") [st.most])) | 30 => Sl w (InW w) v (svb [planL st, joinB (bs "cancel") [st.cancel], joinB (bs "most") [st.most]]) | _ => True : Prop)) (fun w => Frm (fun _ => False) W w) (fun w w' => Frm (fun _ => False) w w') #[true, true, true, true, true, true, true, true, true, true, true, true, true, true, true, true, true, true, true, true, true, true, true, true, true, true, true, true, true, true, true, false, false] 2 (by kernel_rfl) (by kernel_rfl) (by kernel_rfl) (by kernel_rfl) (by kernel_rfl) (by kernel_rfl) (by kernel_rfl) (by kernel_rfl) (Frm.refl _ _) ?hV (fun _ _ h k => h.trans' k) ?steps ?fin
                  case hV =>
                    intro j v w1 w2 h hF
                    match j, h with
                    | 0, h => exact h
                    | 1, ⟨g, e, hc⟩ => exact ⟨g, e, fun j hj => hF.cell (hc j hj) id⟩
                    | 2, h => exact h
                    | 3, h => exact h
                    | 4, ⟨g, e, hc⟩ => exact ⟨g, e, hF.cell hc id⟩
                    | 5, h => exact h
                    | 6, h => exact h
                    | 7, h => exact h
                    | 8, h => exact h
                    | 9, h => exact h
                    | 10, h => exact h
                    | 11, h => exact h
                    | 12, ⟨A, c, e, hs⟩ => exact ⟨A, c, e, hs.keptTo fun q hq => ⟨hF.block q hq id, Nat.lt_of_lt_of_le hq hF.size⟩⟩
                    | 13, h => exact h
                    | 14, h => exact h
                    | 15, h => exact h
                    | 16, h => exact h
                    | 17, h => exact h
                    | 18, h => exact h
                    | 19, h => exact h
                    | 20, ⟨A, c, e, hs⟩ => exact ⟨A, c, e, hs.keptTo fun q hq => ⟨hF.block q hq id, Nat.lt_of_lt_of_le hq hF.size⟩⟩
                    | 21, h => exact h
                    | 22, h => exact h
                    | 23, h => exact h
                    | 24, h => exact h
                    | 25, h => exact h
                    | 26, h => exact h
                    | 27, h => exact h
                    | 28, ⟨A, c, e, hs⟩ => exact ⟨A, c, e, hs.keptTo fun q hq => ⟨hF.block q hq id, Nat.lt_of_lt_of_le hq hF.size⟩⟩
                    | 29, h => exact h
                    | 30, hs => exact Sl.keptTo hs fun q hq => ⟨hF.block q hq id, Nat.lt_of_lt_of_le hq hF.size⟩
                    | _ + 31, _ => trivial
                  case steps =>
                    refine steps_cons 0 rfl ?_ ?_
                    · intro f w1 A ρ hρ hG hd hu hA K hK
                      have e1 : ρ (.tmp 3) = u3 := (hA 3).trans (by kernel_rfl)
                      refine fx_val hρ rfl (v := u3) (w' := w1) (by simp [execOp, go_sem, e1]) (hK _ _ rfl (Frm.refl _ _))
                    refine steps_cons 1 rfl ?_ ?_
                    · intro f w1 A ρ hρ hG hd hu hA K hK
                      refine fx_call hρ rfl #[] #[] #[] rfl (by simp) (Tryz.call55 _ _) (kinds_any w1) ?_
                      rintro e w2 ⟨g, -, rfl, hc, hF⟩
                      exact ⟨_, rfl, hK _ _ ⟨g, rfl, hc⟩ hF⟩
                    refine steps_cons 2 rfl ?_ ?_
                    · intro f w1 A ρ hρ hG hd hu hA K hK
                      have e1 : ρ (.tmp 11) = .pointer (some ⟨g11, 0, none⟩) := (hA 11).trans (by kernel_rfl)
                      refine fx_val hρ rfl (v := .pointer (some ⟨g11, 0, none⟩)) (w' := w1) (by simp [execOp, go_sem, e1]) (hK _ _ rfl (Frm.refl _ _))
                    refine steps_cons 3 rfl ?_ ?_
                    · intro f w1 A ρ hρ hG hd hu hA K hK
                      have e1 : ρ (.tmp 129) = .pointer (some ⟨g11, 0, none⟩) := (hA 129).trans ((show (puts _ f _ _).eval (.tmp 129) = f 2 from by kernel_rfl).trans (hd 2 (by kernel_rfl)))
                      have c1 : w1.cell? ⟨g11, 0, none⟩ = some (.int .u8 (st.kind : Nat)) := hG.cell (HW.out.1.cell 0) id
                      refine fx_val hρ rfl (v := .int .u8 (st.kind : Nat)) (w' := w1) (by simp [execOp, go_sem, e1, c1]) (hK _ _ rfl (Frm.refl _ _))
                    refine steps_cons 4 rfl ?_ ?_
                    · intro f w1 A ρ hρ hG hd hu hA K hK
                      obtain ⟨g, e1, hc⟩ := hd 1 (by kernel_rfl)
                      have e0 : ρ (.tmp 128) = f 1 := (hA 128).trans (show (puts _ f _ _).eval (.tmp 128) = f 1 from by kernel_rfl)
                      rw [e1] at e0
                      have e2 : ρ (.tmp 130) = .int .u8 (st.kind : Nat) := (hA 130).trans ((show (puts _ f _ _).eval (.tmp 130) = f 3 from by kernel_rfl).trans (hd 3 (by kernel_rfl)))
                      have hk := H.out.2.2.2.1
                      have hcc := hc st.kind (by rw [show (kindL.map ba).length = 5 by decide]; exact hk)
                      rw [Nat.zero_add] at hcc
                      refine fx_val hρ rfl (v := .pointer (some ⟨g, st.kind, none⟩)) (w' := w1) (by simp [execOp, go_sem, e0, e2, Addr.add]; rw [if_pos (by omega)]; split <;> simp_all) (hK _ _ ⟨g, rfl, ?_⟩ (Frm.refl _ _))
                      rw [hcc, HKd.out.1, kd_at _ hk]
                    refine steps_cons 5 rfl ?_ ?_
                    · intro f w1 A ρ hρ hG hd hu hA K hK
                      obtain ⟨g, e1, hc⟩ := hd 4 (by kernel_rfl)
                      have e0 : ρ (.tmp 131) = f 4 := (hA 131).trans (show (puts _ f _ _).eval (.tmp 131) = f 4 from by kernel_rfl)
                      rw [e1] at e0
                      refine fx_val hρ rfl (v := .string (ba kd)) (w' := w1) (by simp [execOp, go_sem, e0, hc]) (hK _ _ rfl (Frm.refl _ _))
                    refine steps_cons 6 rfl ?_ ?_
                    · intro f w1 A ρ hρ hG hd hu hA K hK
                      have e1 : ρ (.tmp 132) = .string (ba kd) := (hA 132).trans ((show (puts _ f _ _).eval (.tmp 132) = f 5 from by kernel_rfl).trans (hd 5 (by kernel_rfl)))
                      have c1 : ¬ (9223372036854775807 < 5 + (ba kd).size) := by have := HKd.out.2; rw [ba_size]; omega
                      have c2 : ({ data := #[112, 108, 97, 110, 32] } : ByteArray) ++ ba kd = ba (bs "plan " ++ kd) := ba_app (bs "plan ") kd
                      refine fx_val hρ rfl (v := .string (ba (bs "plan " ++ kd))) (w' := w1) (by simp [execOp, go_sem, e1, c1, c2, hρ.c]) (hK _ _ rfl (Frm.refl _ _))
                    refine steps_cons 7 rfl ?_ ?_
                    · intro f w1 A ρ hρ hG hd hu hA K hK
                      have e1 : ρ (.tmp 11) = .pointer (some ⟨g11, 0, none⟩) := (hA 11).trans (by kernel_rfl)
                      refine fx_val hρ rfl (v := .pointer (some ⟨g11, 1, none⟩)) (w' := w1) (by simp [execOp, go_sem, e1]) (hK _ _ rfl (Frm.refl _ _))
                    refine steps_cons 8 rfl ?_ ?_
                    · intro f w1 A ρ hρ hG hd hu hA K hK
                      have e1 : ρ (.tmp 134) = .pointer (some ⟨g11, 1, none⟩) := (hA 134).trans ((show (puts _ f _ _).eval (.tmp 134) = f 7 from by kernel_rfl).trans (hd 7 (by kernel_rfl)))
                      have c1 : w1.cell? ⟨g11, 1, none⟩ = some (.int .u32 (st.seed : Nat)) := hG.cell (HW.out.1.cell 1) id
                      refine fx_val hρ rfl (v := .int .u32 (st.seed : Nat)) (w' := w1) (by simp [execOp, go_sem, e1, c1]) (hK _ _ rfl (Frm.refl _ _))
                    refine steps_cons 9 rfl ?_ ?_
                    · intro f w1 A ρ hρ hG hd hu hA K hK
                      have e1 : ρ (.tmp 135) = .int .u32 (st.seed : Nat) := (hA 135).trans ((show (puts _ f _ _).eval (.tmp 135) = f 8 from by kernel_rfl).trans (hd 8 (by kernel_rfl)))
                      have c1 : IntKind.i64.wrap (st.seed : Int) = (st.seed : Int) := IntWalk.i64_in _ (by have := H.out.2.2.1.seed; omega)
                      refine fx_val hρ rfl (v := .int .i64 (st.seed : Nat)) (w' := w1) (by simp [execOp, go_sem, e1, c1]) (hK _ _ rfl (Frm.refl _ _))
                    refine steps_cons 10 rfl ?_ ?_
                    · intro f w1 A ρ hρ hG hd hu hA K hK
                      have e1 : ρ (.tmp 11) = .pointer (some ⟨g11, 0, none⟩) := (hA 11).trans (by kernel_rfl)
                      refine fx_val hρ rfl (v := .pointer (some ⟨g11, 2, none⟩)) (w' := w1) (by simp [execOp, go_sem, e1]) (hK _ _ rfl (Frm.refl _ _))
                    refine steps_cons 11 rfl ?_ ?_
                    · intro f w1 A ρ hρ hG hd hu hA K hK
                      have e1 : ρ (.tmp 137) = .pointer (some ⟨g11, 2, none⟩) := (hA 137).trans ((show (puts _ f _ _).eval (.tmp 137) = f 10 from by kernel_rfl).trans (hd 10 (by kernel_rfl)))
                      have c1 : w1.cell? ⟨g11, 2, none⟩ = some (.int .i64 st.last) := hG.cell (HW.out.1.cell 2) id
                      refine fx_val hρ rfl (v := .int .i64 st.last) (w' := w1) (by simp [execOp, go_sem, e1, c1]) (hK _ _ rfl (Frm.refl _ _))
                    refine steps_cons 12 rfl ?_ ?_
                    · intro f w1 A ρ hρ hG hd hu hA K hK
                      have e1 : ρ (.tmp 136) = .int .i64 (st.seed : Nat) := (hA 136).trans ((show (puts _ f _ _).eval (.tmp 136) = f 9 from by kernel_rfl).trans (hd 9 (by kernel_rfl)))
                      have e2 : ρ (.tmp 138) = .int .i64 st.last := (hA 138).trans ((show (puts _ f _ _).eval (.tmp 138) = f 11 from by kernel_rfl).trans (hd 11 (by kernel_rfl)))
                      refine fx_val hρ rfl (v := .slice (some ⟨w1.heap.size, 0, none⟩) 2 2) (w' := w1.alloc (.cells #[.int .i64 (st.seed : Nat), .int .i64 st.last] 3)) (by simp [execOp, go_sem, e1, e2]) (hK _ _ ⟨_, _, rfl, ?_⟩ ((Frm.refl _ _).alloc _))
                      exact (Sl.blk w1 #[.int .i64 (st.seed : Nat), .int .i64 st.last] 3 (n := 2) (xs := ivs [(st.seed : Nat), st.last]) rfl ⟨rfl, by decide⟩).mono fun q hq => by rw [hq]; unfold InW; rw [World.size_alloc]; omega
                    refine steps_cons 13 rfl ?_ ?_
                    · intro f w1 A ρ hρ hG hd hu hA K hK
                      obtain ⟨A5, c5, e5, hs⟩ := hd 12 (by kernel_rfl)
                      have e0 : ρ (.tmp 139) = f 12 := (hA 139).trans (show (puts _ f _ _).eval (.tmp 139) = f 12 from by kernel_rfl)
                      rw [e5] at e0 hs
                      have e1 : ρ (.tmp 133) = .string (ba (bs "plan " ++ kd)) := (hA 133).trans ((show (puts _ f _ _).eval (.tmp 133) = f 6 from by kernel_rfl).trans (hd 6 (by kernel_rfl)))
                      obtain ⟨hb, hL, hok, hk5, hn, hg, -⟩ := H.out
                      have hj := join_any (bs "plan " ++ kd) A5 2 c5 [st.seed, st.last] (InW w1) w1 hs (fun _ h => h) (by simp) (near2 (seed_near hok.seed) hn.2.2.1) (by have := HKd.out.2; rw [List.length_append, show (bs "plan ").length = 5 by decide]; omega) (hg.frm (H6.out.1.2.trans' (HW.out.2.1.trans' hG)))
                      rw [show joinB (bs "plan " ++ kd) [st.seed, st.last] = planL st by rw [HKd.out.1]; rfl] at hj
                      refine fx_call hρ rfl _ _ _ rfl (by simp [e0, e1]) (Tryz.call54 _ _) hj ?_
                      rintro e w2 ⟨rfl, hF⟩
                      exact ⟨_, rfl, hK _ _ rfl hF⟩
                    refine steps_cons 14 rfl ?_ ?_
                    · intro f w1 A ρ hρ hG hd hu hA K hK
                      have e1 : ρ (.tmp 0) = .pointer (some ⟨b, 0, none⟩) := (hA 0).trans (by kernel_rfl)
                      refine fx_val hρ rfl (v := .pointer (some ⟨b, 0, none⟩)) (w' := w1) (by simp [execOp, go_sem, e1]) (hK _ _ rfl (Frm.refl _ _))
                    refine steps_cons 15 rfl ?_ ?_
                    · intro f w1 A ρ hρ hG hd hu hA K hK
                      have e1 : ρ (.tmp 141) = .pointer (some ⟨b, 0, none⟩) := (hA 141).trans ((show (puts _ f _ _).eval (.tmp 141) = f 14 from by kernel_rfl).trans (hd 14 (by kernel_rfl)))
                      refine fx_val hρ rfl (v := .pointer (some ⟨b, 0, none⟩)) (w' := w1) (by simp [execOp, go_sem, e1]) (hK _ _ rfl (Frm.refl _ _))
                    refine steps_cons 16 rfl ?_ ?_
                    · intro f w1 A ρ hρ hG hd hu hA K hK
                      have e1 : ρ (.tmp 142) = .pointer (some ⟨b, 0, none⟩) := (hA 142).trans ((show (puts _ f _ _).eval (.tmp 142) = f 15 from by kernel_rfl).trans (hd 15 (by kernel_rfl)))
                      refine fx_val hρ rfl (v := .pointer (some ⟨b, 0, none⟩)) (w' := w1) (by simp [execOp, go_sem, e1]) (hK _ _ rfl (Frm.refl _ _))
                    refine steps_cons 17 rfl ?_ ?_
                    · intro f w1 A ρ hρ hG hd hu hA K hK
                      have e1 : ρ (.tmp 143) = .pointer (some ⟨b, 0, none⟩) := (hA 143).trans ((show (puts _ f _ _).eval (.tmp 143) = f 16 from by kernel_rfl).trans (hd 16 (by kernel_rfl)))
                      refine fx_val hρ rfl (v := .pointer (some ⟨b, 2, none⟩)) (w' := w1) (by simp [execOp, go_sem, e1]) (hK _ _ rfl (Frm.refl _ _))
                    refine steps_cons 18 rfl ?_ ?_
                    · intro f w1 A ρ hρ hG hd hu hA K hK
                      have e1 : ρ (.tmp 144) = .pointer (some ⟨b, 2, none⟩) := (hA 144).trans ((show (puts _ f _ _).eval (.tmp 144) = f 17 from by kernel_rfl).trans (hd 17 (by kernel_rfl)))
                      refine fx_val hρ rfl (v := .pointer (some ⟨b, 16, none⟩)) (w' := w1) (by simp [execOp, go_sem, e1]) (hK _ _ rfl (Frm.refl _ _))
                    refine steps_cons 19 rfl ?_ ?_
                    · intro f w1 A ρ hρ hG hd hu hA K hK
                      have e1 : ρ (.tmp 145) = .pointer (some ⟨b, 16, none⟩) := (hA 145).trans ((show (puts _ f _ _).eval (.tmp 145) = f 18 from by kernel_rfl).trans (hd 18 (by kernel_rfl)))
                      have c1 : w1.cell? ⟨b, 16, none⟩ = some (.int .i64 st.cancel) := hG.cell (HW.out.2.1.cell (H6.out.1.2.cell (H.out.1.cell 16) id) id) id
                      refine fx_val hρ rfl (v := .int .i64 st.cancel) (w' := w1) (by simp [execOp, go_sem, e1, c1]) (hK _ _ rfl (Frm.refl _ _))
                    refine steps_cons 20 rfl ?_ ?_
                    · intro f w1 A ρ hρ hG hd hu hA K hK
                      have e1 : ρ (.tmp 146) = .int .i64 st.cancel := (hA 146).trans ((show (puts _ f _ _).eval (.tmp 146) = f 19 from by kernel_rfl).trans (hd 19 (by kernel_rfl)))
                      refine fx_val hρ rfl (v := .slice (some ⟨w1.heap.size, 0, none⟩) 1 1) (w' := w1.alloc (.cells #[.int .i64 st.cancel] 3)) (by simp [execOp, go_sem, e1]) (hK _ _ ⟨_, _, rfl, ?_⟩ ((Frm.refl _ _).alloc _))
                      exact (Sl.blk w1 #[.int .i64 st.cancel] 3 (n := 1) (xs := ivs [st.cancel]) rfl ⟨rfl, by decide⟩).mono fun q hq => by rw [hq]; unfold InW; rw [World.size_alloc]; omega
                    refine steps_cons 21 rfl ?_ ?_
                    · intro f w1 A ρ hρ hG hd hu hA K hK
                      obtain ⟨A5, c5, e5, hs⟩ := hd 20 (by kernel_rfl)
                      have e0 : ρ (.tmp 147) = f 20 := (hA 147).trans (show (puts _ f _ _).eval (.tmp 147) = f 20 from by kernel_rfl)
                      rw [e5] at e0 hs
                      obtain ⟨hb, hL, hok, hk5, hn, hg, -⟩ := H.out
                      have hj := join_any (bs "cancel") A5 1 c5 [st.cancel] (InW w1) w1 hs (fun _ h => h) (by simp) (near1 hn.2.2.2.1) (by decide) (hg.frm (H6.out.1.2.trans' (HW.out.2.1.trans' hG)))
                      rw [show ba (bs "cancel") = { data := #[99, 97, 110, 99, 101, 108] } by decide] at hj
                      refine fx_call hρ rfl _ _ _ rfl (by simp [e0, hρ.c]) (Tryz.call54 _ _) hj ?_
                      rintro e w2 ⟨rfl, hF⟩
                      exact ⟨_, rfl, hK _ _ rfl hF⟩
                    refine steps_cons 22 rfl ?_ ?_
                    · intro f w1 A ρ hρ hG hd hu hA K hK
                      have e1 : ρ (.tmp 0) = .pointer (some ⟨b, 0, none⟩) := (hA 0).trans (by kernel_rfl)
                      refine fx_val hρ rfl (v := .pointer (some ⟨b, 0, none⟩)) (w' := w1) (by simp [execOp, go_sem, e1]) (hK _ _ rfl (Frm.refl _ _))
                    refine steps_cons 23 rfl ?_ ?_
                    · intro f w1 A ρ hρ hG hd hu hA K hK
                      have e1 : ρ (.tmp 149) = .pointer (some ⟨b, 0, none⟩) := (hA 149).trans ((show (puts _ f _ _).eval (.tmp 149) = f 22 from by kernel_rfl).trans (hd 22 (by kernel_rfl)))
                      refine fx_val hρ rfl (v := .pointer (some ⟨b, 0, none⟩)) (w' := w1) (by simp [execOp, go_sem, e1]) (hK _ _ rfl (Frm.refl _ _))
                    refine steps_cons 24 rfl ?_ ?_
                    · intro f w1 A ρ hρ hG hd hu hA K hK
                      have e1 : ρ (.tmp 150) = .pointer (some ⟨b, 0, none⟩) := (hA 150).trans ((show (puts _ f _ _).eval (.tmp 150) = f 23 from by kernel_rfl).trans (hd 23 (by kernel_rfl)))
                      refine fx_val hρ rfl (v := .pointer (some ⟨b, 0, none⟩)) (w' := w1) (by simp [execOp, go_sem, e1]) (hK _ _ rfl (Frm.refl _ _))
                    refine steps_cons 25 rfl ?_ ?_
                    · intro f w1 A ρ hρ hG hd hu hA K hK
                      have e1 : ρ (.tmp 151) = .pointer (some ⟨b, 0, none⟩) := (hA 151).trans ((show (puts _ f _ _).eval (.tmp 151) = f 24 from by kernel_rfl).trans (hd 24 (by kernel_rfl)))
                      refine fx_val hρ rfl (v := .pointer (some ⟨b, 2, none⟩)) (w' := w1) (by simp [execOp, go_sem, e1]) (hK _ _ rfl (Frm.refl _ _))
                    refine steps_cons 26 rfl ?_ ?_
                    · intro f w1 A ρ hρ hG hd hu hA K hK
                      have e1 : ρ (.tmp 152) = .pointer (some ⟨b, 2, none⟩) := (hA 152).trans ((show (puts _ f _ _).eval (.tmp 152) = f 25 from by kernel_rfl).trans (hd 25 (by kernel_rfl)))
                      refine fx_val hρ rfl (v := .pointer (some ⟨b, 17, none⟩)) (w' := w1) (by simp [execOp, go_sem, e1]) (hK _ _ rfl (Frm.refl _ _))
                    refine steps_cons 27 rfl ?_ ?_
                    · intro f w1 A ρ hρ hG hd hu hA K hK
                      have e1 : ρ (.tmp 153) = .pointer (some ⟨b, 17, none⟩) := (hA 153).trans ((show (puts _ f _ _).eval (.tmp 153) = f 26 from by kernel_rfl).trans (hd 26 (by kernel_rfl)))
                      have c1 : w1.cell? ⟨b, 17, none⟩ = some (.int .i64 st.most) := hG.cell (HW.out.2.1.cell (H6.out.1.2.cell (H.out.1.cell 17) id) id) id
                      refine fx_val hρ rfl (v := .int .i64 st.most) (w' := w1) (by simp [execOp, go_sem, e1, c1]) (hK _ _ rfl (Frm.refl _ _))
                    refine steps_cons 28 rfl ?_ ?_
                    · intro f w1 A ρ hρ hG hd hu hA K hK
                      have e1 : ρ (.tmp 154) = .int .i64 st.most := (hA 154).trans ((show (puts _ f _ _).eval (.tmp 154) = f 27 from by kernel_rfl).trans (hd 27 (by kernel_rfl)))
                      refine fx_val hρ rfl (v := .slice (some ⟨w1.heap.size, 0, none⟩) 1 1) (w' := w1.alloc (.cells #[.int .i64 st.most] 3)) (by simp [execOp, go_sem, e1]) (hK _ _ ⟨_, _, rfl, ?_⟩ ((Frm.refl _ _).alloc _))
                      exact (Sl.blk w1 #[.int .i64 st.most] 3 (n := 1) (xs := ivs [st.most]) rfl ⟨rfl, by decide⟩).mono fun q hq => by rw [hq]; unfold InW; rw [World.size_alloc]; omega
                    refine steps_cons 29 rfl ?_ ?_
                    · intro f w1 A ρ hρ hG hd hu hA K hK
                      obtain ⟨A5, c5, e5, hs⟩ := hd 28 (by kernel_rfl)
                      have e0 : ρ (.tmp 155) = f 28 := (hA 155).trans (show (puts _ f _ _).eval (.tmp 155) = f 28 from by kernel_rfl)
                      rw [e5] at e0 hs
                      obtain ⟨hb, hL, hok, hk5, hn, hg, -⟩ := H.out
                      have hj := join_any (bs "most") A5 1 c5 [st.most] (InW w1) w1 hs (fun _ h => h) (by simp) (near1 hn.2.2.2.2) (by decide) (hg.frm (H6.out.1.2.trans' (HW.out.2.1.trans' hG)))
                      rw [show ba (bs "most") = { data := #[109, 111, 115, 116] } by decide] at hj
                      refine fx_call hρ rfl _ _ _ rfl (by simp [e0, hρ.c]) (Tryz.call54 _ _) hj ?_
                      rintro e w2 ⟨rfl, hF⟩
                      exact ⟨_, rfl, hK _ _ rfl hF⟩
                    refine steps_cons 30 rfl ?_ ?_
                    · intro f w1 A ρ hρ hG hd hu hA K hK
                      have e1 : ρ (.tmp 140) = .string (ba (planL st)) := (hA 140).trans ((show (puts _ f _ _).eval (.tmp 140) = f 13 from by kernel_rfl).trans (hd 13 (by kernel_rfl)))
                      have e2 : ρ (.tmp 148) = .string (ba (joinB (bs "cancel") [st.cancel])) := (hA 148).trans ((show (puts _ f _ _).eval (.tmp 148) = f 21 from by kernel_rfl).trans (hd 21 (by kernel_rfl)))
                      have e3 : ρ (.tmp 156) = .string (ba (joinB (bs "most") [st.most])) := (hA 156).trans ((show (puts _ f _ _).eval (.tmp 156) = f 29 from by kernel_rfl).trans (hd 29 (by kernel_rfl)))
                      refine fx_val hρ rfl (v := .slice (some ⟨w1.heap.size, 0, none⟩) 3 3) (w' := w1.alloc (.cells #[.string (ba (planL st)), .string (ba (joinB (bs "cancel") [st.cancel])), .string (ba (joinB (bs "most") [st.most]))] 9)) (by simp [execOp, go_sem, e1, e2, e3]) (hK _ _ ?_ ((Frm.refl _ _).alloc _))
                      exact (Sl.blk w1 #[.string (ba (planL st)), .string (ba (joinB (bs "cancel") [st.cancel])), .string (ba (joinB (bs "most") [st.most]))] 9 (n := 3) (xs := svb [planL st, joinB (bs "cancel") [st.cancel], joinB (bs "most") [st.most]]) rfl ⟨rfl, by decide⟩).mono fun q hq => by rw [hq]; unfold InW; rw [World.size_alloc]; omega
                    exact steps_nil
                  case fin =>
                    intro f w1 hG hV
                    have h0 : f 0 = u3 := hV 0 rfl
                    have h30 : Sl w1 (InW w1) (f 30) (svb [planL st, joinB (bs "cancel") [st.cancel], joinB (bs "most") [st.most]]) := hV 30 rfl
                    have hLI := H6.out.1.step (HW.out.2.1.trans' hG)
                    obtain ⟨l7, hl7⟩ : ∃ l7, l7 = [planL st, joinB (bs "cancel") [st.cancel], joinB (bs "most") [st.most]] := ⟨_, rfl⟩
                    rw [← hl7] at h30
                    have hfull : l6 ++ l7 = linesP st := by
                      rw [H6.out.2, H5.out.2, H4.out.2, H3.out.2, H2.out.2, H1.out.2.1, Hl0.out, hl7]
                      obtain ⟨-, -, -, -, -, -, hfo, hbr, -, -⟩ := H.out
                      rw [hfo, hbr]
                      rfl
                    have hl7n : l7.length = 3 := by rw [hl7]; rfl
                    have HLI := Lib.hid (And.intro hLI (And.intro h30 hfull))
                    clear hV hLI hG h30 hfull hl7
                    simp only [puts, dstOf, List.getElem?_cons_succ, List.getElem?_cons_zero, Option.bind_some, Act.put, List.setIfInBounds_toArray, List.set_cons_succ, List.set_cons_zero]
                    refine plan_one 31 (by kernel_rfl) rfl ?_
                    intro K hK
                    refine wpList_li (by rfl) _ _ (by rfl) l6 l7 HLI.out.1 (by exact h0) (by rfl) HLI.out.2.1 (by omega) ?_
                    intro v6 w6 h6
                    refine (show K _ _ from hK _ _ ?_)
                    simp only [Act.put, List.setIfInBounds_toArray, List.set_cons_succ, List.set_cons_zero]
                    rw [HLI.out.2.2] at h6
                    have H7 := Lib.hid h6
                    clear h6 h0 hK K
                    refine plan_one 32 (by kernel_rfl) rfl ?_
                    intro K hK
                    go_wp2_with fail
                    refine plan_done (by kernel_rfl) ?_
                    obtain ⟨A8, c8, e8⟩ := H7.out.form
                    have hva := values_any v6 w6 (by rw [e8]; rfl)
                    have H8 := Lib.hid e8
                    clear e8
                    go_wp2_with fail
                    refine hva.mono ?_
                    rintro e w7 ⟨rfl, rfl⟩
                    clear hva
                    go_wp2_with fail
                    go_ret
                    have e8 := H8.out
                    subst e8
                    have hFa : Frm (fun _ => False) w6 (w6.alloc (.cells #[.slice A8 (linesP st).length c8] 46)) := (Frm.refl _ w6).alloc _
                    exact ⟨_, A8, c8, rfl, Blk.new _ _ _, hFa.own H7.out.1 fun _ _ => id, H7.out.2.size, H7.out.2.trans' hFa⟩
end Go.Proofs.YtpcdbkaeijhmfaaGreatDoor
