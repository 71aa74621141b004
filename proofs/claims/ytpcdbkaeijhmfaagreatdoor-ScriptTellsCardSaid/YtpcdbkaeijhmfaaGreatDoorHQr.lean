/- The document's script: Print. -/
import Derived.Deep.MidRow
import Derived.Deep.DeepCutAuto
import Derived.Test.YtpcdbkaeijhmfaaGreatDoorHQq
import Derived.Test.YtpcdbkaeijhmfaaGreatDoorGJ
import Derived.Test.YtpcdbkaeijhmfaaGreatDoorHPt
import Derived.Test.YtpcdbkaeijhmfaaGreatDoorGA
namespace Go.Proofs.YtpcdbkaeijhmfaaGreatDoor
set_option maxRecDepth 100000
set_option linter.unusedVariables false
set_option linter.unusedSimpArgs false
open Go.RowKit
attribute [local go_sem] Oper.semAt_some
def tx (ls : List By) : By := ls.flatMap (· ++ [10])
theorem tx_app (a b : List By) : tx (a ++ b) = tx a ++ tx b := List.flatMap_append
theorem tx_one (a : By) : tx [a] = a ++ [10] := by simp [tx]
theorem tx_len (ls : List By) (m : Nat) (h : ∀ x ∈ ls, x.length ≤ m) : (tx ls).length ≤ ls.length * (m + 1) := by
  induction ls with
  | nil => simp [tx]
  | cons l ls ih =>
    have e : tx (l :: ls) = (l ++ [10]) ++ tx ls := by simp [tx]
    have h1 := ih fun x hx => h x (List.mem_cons_of_mem _ hx)
    have h2 := h l (List.mem_cons_self ..)
    rw [e, List.length_append, List.length_cons, Nat.add_mul]
    simp
    omega
theorem wpList_loadM {P : Program} {ops : Array Oper} {Q : Exit → Act → World → Prop} {a : Act} {w : World} {rest : List Oper} {o : Oper} (hw : Region.wanted o (yielded ops a.tmps) = true) (ty : TypeId) (x : Operand) (ho : o.op = .load ty x) (g k : Nat) (hx : a.eval x = .pointer (some ⟨g, k, none⟩)) (D : List Value) (d : TypeDesc) (hr : w.rangeAt g k D) (hu : P.underlying ty = some d) (hd : d.isRow = true) (hi : (P.info? ty).map (·.size) = some D.length)
    (h : wpList P ops Q rest (a.put o.dst (.agg D.toArray)) w) : wpList P ops Q (o :: rest) a w := by
  unfold wpList
  rw [if_pos hw]
  refine .inl ?_
  unfold Oper.wp
  rw [exec_load ho hx (run_loadAt_mid w g k ty D d hr hu hd hi)]
  exact h
theorem sm_tx (ls : List By) (h1 : ls.length ≤ 300000) (h2 : ∀ x ∈ ls, x.length ≤ 3000000) : (tx ls).length ≤ 900000300000 := by
  have h := tx_len ls 3000000 h2
  have h3 := Nat.mul_le_mul_right 3000001 h1
  omega
theorem wordL_len (x : By) (h : x.length ≤ 100000) : (wordL x).length ≤ 3000000 := by
  have := quoteGo_len x
  unfold wordL
  rw [List.length_append, quoteB_eq, List.length_append, show (bs "word ").length = 5 by decide]
  simp
  omega
theorem readL_len (x : By) (h : x.length ≤ 100000) : (readL x).length ≤ 3000000 := by
  have := quoteGo_len x
  unfold readL
  rw [List.length_append, quoteB_eq, List.length_append, show (bs "read ").length = 5 by decide]
  simp
  omega
theorem sm_take (l : List By) (xs : List By) (k : Nat) (f : By → By) (h1 : l.length ≤ 100005) (h2 : ∀ x ∈ l, x.length ≤ 3000000) (hf : ∀ x, x.length ≤ 100000 → (f x).length ≤ 3000000) (h3 : xs.length ≤ 100000) (h4 : ∀ x ∈ xs, x.length ≤ 100000) : (tx (l ++ (xs.take k).map f)).length ≤ 900000300000 := by
  refine sm_tx _ ?_ fun x hx => ?_
  · rw [List.length_append, List.length_map, List.length_take]; omega
  · rcases List.mem_append.1 hx with hx | hx
    · exact h2 x hx
    · obtain ⟨y, hy, rfl⟩ := List.mem_map.1 hx
      exact hf y (h4 y (List.mem_of_mem_take hy))
theorem yes_len4 (l : List Bool) : (l.flatMap yesB).length ≤ 4 * l.length := by
  induction l with
  | nil => simp
  | cons y l ih =>
    rw [List.flatMap_cons, List.length_append, List.length_cons]
    have : (yesB y).length ≤ 4 := by cases y <;> decide
    omega
theorem answL_len (l : List Bool) : (answL l).length ≤ 7 + 4 * l.length := by
  have := yes_len4 l
  unfold answL
  rw [List.length_append, show (bs "answers").length = 7 by decide]
  omega
theorem sl_at {w : World} {K : Nat → Prop} {A : Option Addr} {n c : Nat} {xs : List Value} (h : Sl w K (.slice A n c) xs) (k : Nat) (hk : k < xs.length) (h0 : 0 < n) : ∃ g o, A = some ⟨g, o, none⟩ ∧ w.cell? ⟨g, o + k, none⟩ = some xs[k] := by
  obtain ⟨A', n', c', e, h1, h2, h3, h4⟩ := h
  cases e
  obtain ⟨g, o, rfl, -, hc⟩ := h4.resolve_left (by omega)
  exact ⟨g, o, rfl, hc k hk⟩
theorem conf_row {w : World} {B n c np : Nat} {A : Option Addr} {st : St} {a0 a1 a2 a3 a4 a5 a6 : Int} (h : w.ownsRow B 3 1 (.slice A n c) n (ivs (toldL a0 a1 a2 a3 a4 a5 a6 st))) (hc : st.conf = [a0, a1, a2, a3, a4, a5, a6]) (hn : n = 10 + np) : IAt w (fun q => q < w.heap.size) A 7 c st.conf := by
  have hlen : (ivs (toldL a0 a1 a2 a3 a4 a5 a6 st)).length = n := by have := h.1; omega
  obtain ⟨A', c', e, h1, h2⟩ := own_form h
  cases e
  obtain ⟨g, rfl, -⟩ := own_at h 0 (by omega)
  refine ⟨_, 7, c, rfl, by rw [hc]; rfl, by omega, h2, .inr ⟨g, 0, rfl, (h.lt g rfl).2, fun i hi => ?_⟩⟩
  have hi7 : i < 7 := by rw [hc] at hi; simpa [ivs] using hi
  obtain ⟨g', hg', hcell⟩ := own_at h i (by omega)
  cases hg'
  rw [Nat.zero_add, hcell, ← List.getElem?_eq_getElem, ← List.getElem?_eq_getElem, hc]
  unfold toldL ivs
  rw [List.map_append, List.getElem?_append_left (by simp; omega)]
  match i, hi7 with
  | 0, _ => rfl
  | 1, _ => rfl
  | 2, _ => rfl
  | 3, _ => rfl
  | 4, _ => rfl
  | 5, _ => rfl
  | 6, _ => rfl
theorem names_at (k : Nat) (hk : k < 5) : (#[.string { data := #[110, 111, 110, 101] }, .string { data := #[102, 105, 114, 115, 116] }, .string { data := #[108, 97, 115, 116] }, .string { data := #[114, 111, 117, 110, 100] }, .string { data := #[115, 101, 101, 100] }] : Array Value)[k]? = some (.string (ba (kindL.getD k []))) := by
  have e : kindL.map ba = [{ data := #[110, 111, 110, 101] }, { data := #[102, 105, 114, 115, 116] }, { data := #[108, 97, 115, 116] }, { data := #[114, 111, 117, 110, 100] }, { data := #[115, 101, 101, 100] }] := by decide +kernel
  rw [← kd_at k hk, e]
  match k, hk with
  | 0, _ => rfl
  | 1, _ => rfl
  | 2, _ => rfl
  | 3, _ => rfl
  | 4, _ => rfl
theorem far_near {n : Int} (h : farB n = false) : near n := by
  unfold farB at h
  have := of_decide_eq_false h
  unfold near
  omega
theorem any_far (l : List Int) (h : ∀ x ∈ l, near x) : l.any farB = false := by
  rw [List.any_eq_false]
  intro x hx hf
  have := h x hx
  unfold farB at hf
  have := of_decide_eq_true hf
  unfold near at *
  omega
theorem bad_told (st : St) (a0 a1 a2 a3 a4 a5 a6 : Int) (hc : st.conf = [a0, a1, a2, a3, a4, a5, a6]) (hk : st.kind < 5) (h : ∀ x ∈ toldL a0 a1 a2 a3 a4 a5 a6 st, near x) : badP st = false := by
  unfold badP
  rw [any_far st.conf fun x hx => h x (by rw [hc] at hx; unfold toldL; simp at hx ⊢; omega), any_far st.picks fun x hx => h x (by unfold toldL; simp; right; right; right; right; right; right; right; right; right; right; exact hx), any_far _ fun x hx => h x (by unfold toldL; simp at hx ⊢; omega), decide_eq_false (by omega)]
  rfl
theorem bad_far (st : St) (a0 a1 a2 a3 a4 a5 a6 : Int) (hc : st.conf = [a0, a1, a2, a3, a4, a5, a6]) (x : Int) (hx : x ∈ toldL a0 a1 a2 a3 a4 a5 a6 st) (hf : ¬ near x) : badP st = true := by
  have h1 : farB x = true := by
    unfold farB
    refine decide_eq_true ?_
    unfold near at hf
    omega
  unfold badP
  rw [hc]
  unfold toldL at hx
  rcases List.mem_append.1 hx with hx | hx
  · simp at hx
    rcases hx with rfl | rfl | rfl | rfl | rfl | rfl | rfl | rfl | rfl | rfl <;> simp [h1]
  · have : st.picks.any farB = true := List.any_eq_true.2 ⟨x, hx, h1⟩
    rw [this]
    simp
theorem print_bad {st : St} {w w' : World} (h : badP st = true) (hF : Frm (fun _ => False) w w') : PrintPost st w (.returned (.tuple #[.string { data := #[] }, .int .i64 2])) w' := by
  refine ⟨hF, ?_⟩
  rw [show printB st = none by unfold printB; rw [h]; rfl]
theorem print_great {st : St} {w w' : World} (h : badP st = false) (h2 : greatB (textP st) = true) (hF : Frm (fun _ => False) w w') : PrintPost st w (.returned (.tuple #[.string { data := #[] }, .int .i64 2])) w' := by
  refine ⟨hF, ?_⟩
  rw [show printB st = none by unfold printB; rw [h, h2]; rfl]
theorem print_yes {st : St} {w w' : World} (h : badP st = false) (h2 : greatB (textP st) = false) (hF : Frm (fun _ => False) w w') : PrintPost st w (.returned (.tuple #[.string (ba (textP st)), .int .i64 0])) w' := by
  refine ⟨hF, ?_⟩
  rw [show printB st = some (textP st) by unfold printB; rw [h, h2]; rfl]
set_option maxHeartbeats 16000000 in
theorem printR_any (st : St) (wv rv av pv : Value) (w : World) (hL : LsR w (InW w) st wv rv av pv) (hok : Okay st) :
    Calls Tryz.prog 12 #[.agg (stCells st wv rv av pv)] w (PrintPost st w) := by
  obtain ⟨a0, a1, a2, a3, a4, a5, a6, hcf⟩ := list7 st.conf hok.conf
  obtain ⟨Aw, cw, rfl, hw1, hw2⟩ := hL.words.form
  obtain ⟨Ar, cr, rfl, hr1, hr2⟩ := hL.reads.form
  obtain ⟨Aa, na, ca, rfl, hna, ha2, ha3, -⟩ := id hL.answers
  obtain ⟨Ap, np, cp, rfl, hnp, hp2, hp3, -⟩ := id hL.picks
  rw [bvs, List.length_map] at hna
  rw [ivs, List.length_map] at hnp
  obtain ⟨nw, hnw⟩ : ∃ n, n = st.words.length := ⟨_, rfl⟩
  obtain ⟨nr, hnr⟩ : ∃ n, n = st.reads.length := ⟨_, rfl⟩
  rw [← hnw] at hw1
  rw [← hnr] at hr1
  have hb9 : nw ≤ 100000 ∧ nr ≤ 100000 ∧ na ≤ 100000 ∧ np ≤ 100000 := by
    have h1 := hok.words.1
    have h2 := hok.reads.1
    have h3 := hok.answers
    have h4 := hok.picks
    omega
  obtain ⟨b1, b2, b3, b4⟩ := hb9
  obtain ⟨C, hC⟩ : ∃ C, C = stCells st (.slice Aw st.words.length cw) (.slice Ar st.reads.length cr) (.slice Aa na ca) (.slice Ap np cp) := ⟨_, rfl⟩
  obtain ⟨D, hD⟩ : ∃ D, D = runCells a0 a1 a2 a3 a4 a5 a6 st (.slice Ar st.reads.length cr) (.slice Aa na ca) (.slice Ap np cp) := ⟨_, rfl⟩
  have hCD : C = (.bool st.fold :: .slice Aw st.words.length cw :: D).toArray := by rw [hC, hD]; unfold stCells; rw [hcf]; rfl
  rw [← hC]
  have HB0 := Lib.hid (Blk.new w 33 C)
  have HF0 := Lib.hid (show Frm (fun _ => False) w (w.alloc (.cells C 33)) from (Frm.refl _ w).alloc _)
  have H := Lib.hid (And.intro hL (And.intro hok (And.intro hcf (And.intro hnw (And.intro hnr (And.intro hna hnp))))))
  have hDl : D.length = 16 := by rw [hD]; rfl
  have hDo : D.toArray.all (·.oneCell') = true := by rw [hD]; exact hL.one a0 a1 a2 a3 a4 a5 a6
  have HD := Lib.hid (And.intro hCD (And.intro hD (And.intro hDl hDo)))
  clear hL hok hcf hna hnp hC hD hCD hDl hDo hnw hnr
  go_enter Tryz.func12, Tryz.ntmps12
  go_upto_region 1 with fail
  obtain ⟨b, hb⟩ : ∃ b, b = w.heap.size := ⟨_, rfl⟩
  have HB := Lib.hid (show Blk (w.alloc (.cells C 33)) b 33 C from hb ▸ HB0.out)
  rw [← hb]
  have Hb := Lib.hid hb
  clear hb HB0
  generalize w.alloc (.cells C 33) = w1 at *
  obtain ⟨Z, hZ⟩ : ∃ Z : Array Value, Z = #[.int .i64 0, .int .i64 0, .int .i64 0, .int .i64 0, .int .i64 0, .int .i64 0, .int .i64 0, .bool false, .slice none 0 0, .slice none 0 0, .slice none 0 0, .int .u8 0, .int .u32 0, .int .i64 0, .int .i64 0, .int .i64 0] := ⟨_, rfl⟩
  have HZ := Lib.hid hZ
  have HZs := Lib.hid (show Z.size = 16 by rw [hZ]; rfl)
  clear hZ
  go_wp2_with (first | (refine wpList_loadM (by rfl) 31 (.tmp 12) (by rfl) b 2 (by rfl) D _ (fun j v hv => by rw [HB.out.cell, HD.out.1, List.getElem?_toArray, Nat.add_comm]; exact hv) Tryz.underlying31 (by rfl) (by rw [HD.out.2.2.1]; exact run_info) ?_) | (refine wpList_valT rfl (some 4) rfl (v := .pointer (some ⟨w1.heap.size, 0, none⟩)) (w' := w1.alloc (.cells Z 31)) (by simp [go_sem, execOp, HZ.out]) ?_) | (refine wpList_store_rowT rfl 31 (.tmp 4) (.tmp 13) rfl rfl w1.heap.size D.toArray rfl rfl _ _ (Blk.new w1 31 Z) (by rw [List.size_toArray, HD.out.2.2.1]; exact run_info) (by rw [HZs.out, List.size_toArray, HD.out.2.2.1]) HD.out.2.2.2 ?_) | (refine wpList_loadT (by rfl) 31 (.tmp 4) (by rfl) w1.heap.size (by rfl) D.toArray _ _ ((Blk.new w1 31 Z).setRow _) Tryz.underlying31 (by rfl) (by rw [List.size_toArray, HD.out.2.2.1]; exact run_info) ?_))
  have hX : Frm (fun _ => False) w1 ((w1.alloc (.cells Z 31)).setRow w1.heap.size D.toArray) := ((Frm.refl (fun _ => False) w1).alloc _).trans (K' := fun q => q = w1.heap.size) ((Frm.refl (fun q => q = w1.heap.size) _).setRow (.inl rfl) _) fun q hq => .inr (by omega)
  have hBE : Blk ((w1.alloc (.cells Z 31)).setRow w1.heap.size D.toArray) w1.heap.size 31 D.toArray := (Blk.new w1 31 Z).setRow _
  have hBb := HB.out.kept hX id
  obtain ⟨e, he⟩ : ∃ e, e = w1.heap.size := ⟨_, rfl⟩
  rw [← he] at hX hBE hBb ⊢
  clear he
  generalize (w1.alloc (.cells Z 31)).setRow e D.toArray = W1 at *
  have HF1 := Lib.hid (HF0.out.trans' hX)
  have ht := told_any st a0 a1 a2 a3 a4 a5 a6 (.slice Ar st.reads.length cr) (.slice Aa na ca) (.slice Ap np cp) W1 (H.out.1.kept HF1.out).picks H.out.2.1.picks
  rw [← HD.out.2.1] at ht
  have HBE := Lib.hid (And.intro hBb hBE)
  clear hX hBE hBb
  refine ht.mono ?_
  rintro e' W2 ⟨A5, c5, rfl, hown, hF⟩
  obtain ⟨L, hLd⟩ : ∃ L, L = toldL a0 a1 a2 a3 a4 a5 a6 st := ⟨_, rfl⟩
  rw [← hLd] at hown ⊢
  obtain ⟨n5, hn5⟩ : ∃ n, n = L.length := ⟨_, rfl⟩
  rw [← hn5] at hown ⊢
  have HF2 := Lib.hid (HF1.out.trans' hF)
  have HB2 := Lib.hid (And.intro (HBE.out.1.kept hF id) (HBE.out.2.kept hF id))
  have HL := Lib.hid (And.intro hLd (And.intro hn5 (And.intro hown (show n5 = 10 + np by rw [hn5, hLd, H.out.2.2.2.2.2.2]; unfold toldL; simp; omega))))
  have hn59 : n5 ≤ 100010 := by have := HL.out.2.2.2; omega
  clear ht hown hF hLd hn5
  go_wp2_with fail
  go_loopw [6] (fun t wr => ∃ k : Nat, k ≤ n5 ∧ t = .int .i64 k ∧ wr = W2 ∧ Hid (∀ x ∈ L.take k, near x)) (fun t _ => n5 - (intOf t).toNat)
  case atStart => exact ⟨0, Nat.zero_le _, rfl, rfl, Lib.hid (by simp)⟩
  case round =>
    obtain ⟨k, hk, rfl, hwr, HN⟩ := hrel
    obtain rfl := hwr.symm
    by_cases hlt : k < n5
    · have hkL : k < L.length := by rw [← HL.out.2.1]; exact hlt
      obtain ⟨g5, rfl, hcell⟩ := own_at HL.out.2.2.1 k (by simpa [ivs] using hkL)
      obtain ⟨x, hx⟩ : ∃ x, x = L[k] := ⟨_, rfl⟩
      rw [show (ivs L)[k]'(by simpa [ivs] using hkL) = .int .i64 x by rw [hx]; simp [ivs]] at hcell
      have Hx := Lib.hid hx
      by_cases hnr : near x
      · have hr := hnr
        unfold near at hr
        obtain ⟨hr1, hr2⟩ := hr
        have e1 : decide (x < -4611686018427387904) = false := decide_eq_false (by omega)
        have e2 : decide (x > 4611686018427387904) = false := decide_eq_false (by omega)
        have HNx := Lib.hid hnr
        clear hx hnr hr1 hr2
        go_wp2_with fail
        go_roundw
        case rel =>
          refine ⟨k + 1, by omega, by go_num, by first | rfl | trivial, Lib.hid fun y hy => ?_⟩
          rw [List.take_add_one, List.getElem?_eq_getElem hkL] at hy
          rcases List.mem_append.1 hy with hy | hy
          · exact HN.out y hy
          · have : y = L[k] := by simpa using hy
            rw [this, ← Hx.out]; exact HNx.out
        case measure => simp [intOf]; omega
      · have Hbad := Lib.hid (bad_far st a0 a1 a2 a3 a4 a5 a6 H.out.2.2.1 x (by rw [← HL.out.1, hx]; exact List.getElem_mem hkL) hnr)
        unfold near at hnr
        by_cases hlow : x < -4611686018427387904
        · have e1 : decide (x < -4611686018427387904) = true := decide_eq_true hlow
          clear hx hnr hlow
          go_wp2_with fail
          go_ret2
          exact print_bad Hbad.out HF2.out
        · have e1 : decide (x < -4611686018427387904) = false := decide_eq_false hlow
          have e2 : decide (x > 4611686018427387904) = true := decide_eq_true (by omega)
          clear hx hnr hlow
          go_wp2_with fail
          go_ret2
          exact print_bad Hbad.out HF2.out
    · obtain rfl : n5 = k := by omega
      have HNA := Lib.hid (show ∀ x ∈ L, near x by have := HN.out; rw [HL.out.2.1, List.take_length] at this; exact this)
      have ck : W2.cell? ⟨e, 13, none⟩ = some (.int .i64 st.last) := by rw [HB2.out.2.cell, HD.out.2.1]; rfl
      have ckk : W2.cell? ⟨e, 11, none⟩ = some (.int .u8 st.kind) := by rw [HB2.out.2.cell, HD.out.2.1]; rfl
      by_cases hk5 : 5 ≤ st.kind
      · have e1 : decide ((st.kind : Int) ≥ 5) = true := decide_eq_true (by omega)
        have Hbad := Lib.hid (show badP st = true by unfold badP; rw [decide_eq_true hk5]; simp)
        clear hk5 HN
        go_wp2_with fail
        go_ret2
        exact print_bad Hbad.out HF2.out
      · have e1 : decide ((st.kind : Int) ≥ 5) = false := decide_eq_false (by omega)
        have HK := Lib.hid (And.intro (show st.kind < 5 by omega) (bad_told st a0 a1 a2 a3 a4 a5 a6 H.out.2.2.1 (by omega) (by rw [← HL.out.1]; exact HNA.out)))
        have cf : W2.cell? ⟨b, 0, none⟩ = some (.bool st.fold) := by rw [HB2.out.1.cell, HD.out.1]; rfl
        clear hk5 HN ck
        obtain ⟨l0, hl0⟩ : ∃ l : List By, l = if st.fold then [bs "fold"] else [] := ⟨_, rfl⟩
        have Hl0 := Lib.hid hl0
        clear hl0
        go_upto_if 39 with fail
        go_cut [7] (fun t wc => wc = W2 ∧ t = .string (ba (tx l0)))
        case first =>
          cases hfo : st.fold with
          | true =>
            have h1 := Lib.hid (show tx l0 = [102, 111, 108, 100, 10] by rw [Hl0.out, hfo, if_pos rfl]; decide)
            go_wp2_with fail
            go_meet
            case rel => exact ⟨rfl, by rw [h1.out]; rfl⟩
          | false =>
            have h1 := Lib.hid (show tx l0 = [] by rw [Hl0.out, hfo]; rfl)
            go_wp2_with fail
            go_meet
            case rel => exact ⟨rfl, by rw [h1.out]; rfl⟩
        case rest =>
          obtain ⟨hwc, rfl⟩ := hcut
          obtain rfl := hwc.symm
          clear ckk cf
          have hl0l : l0.length ≤ 1 := by rw [Hl0.out]; split <;> simp
          have HS0 := Lib.hid (show l0.length ≤ 100005 ∧ ∀ x ∈ l0, x.length ≤ 3000000 from ⟨by omega, by rw [Hl0.out]; split <;> simp; decide⟩)
          go_wp2_with fail
          go_loopw [7, 8] (fun t i wr => ∃ k : Nat, k ≤ nw ∧ i = .int .i64 k ∧ t = .string (ba (tx (l0 ++ (st.words.take k).map wordL))) ∧ Hid (Frm (fun _ => False) W2 wr)) (fun _ i _ => nw - (intOf i).toNat)
          case atStart => exact ⟨0, Nat.zero_le _, rfl, by simp, Lib.hid (Frm.refl _ _)⟩
          case round =>
            obtain ⟨k, hk, rfl, rfl, HF⟩ := hrel
            have c1 : wr.cell? ⟨b, 1, none⟩ = some (.slice Aw nw cw) := by rw [(HB2.out.1.kept HF.out id).cell, H.out.2.2.2.1]; rw [HD.out.1]; rfl
            by_cases hlt : k < nw
            · have hkl : k < st.words.length := by rw [← H.out.2.2.2.1]; exact hlt
              obtain ⟨u, g, o, hA, -, hcu, hu⟩ := TxS.at_ H.out.1.words k hkl
              subst hA
              have hFw := HF2.out.trans' HF.out
              have c2 := hFw.cell hcu id
              have hu2 : Sl wr (InW wr) u (bv st.words[k]) := hu.keptTo fun q hq => ⟨hFw.block q hq id, Nat.lt_of_lt_of_le hq hFw.size⟩
              obtain ⟨Au, nu, cu, rfl, -⟩ := id hu2
              obtain ⟨x, hx⟩ : ∃ x, x = st.words[k] := ⟨_, rfl⟩
              rw [← hx] at hu2
              have hxl : x.length ≤ 100000 := by rw [hx]; exact H.out.2.1.words.2 _ (List.getElem_mem hkl)
              have hq := quoteR_any Au nu cu (InW wr) x wr hu2 (by omega) fun _ h => h
              have hql := quoteGo_len x
              obtain ⟨Y, hY⟩ : ∃ Y, Y = tx (l0 ++ (st.words.take k).map wordL) := ⟨_, rfl⟩
              have hYl : Y.length ≤ 900000300000 := by rw [hY]; exact sm_take l0 st.words k wordL HS0.out.1 HS0.out.2 (fun x hx => wordL_len x hx) H.out.2.1.words.1 H.out.2.1.words.2
              obtain ⟨R, hR⟩ : ∃ R, R = quoteB x := ⟨_, rfl⟩
              have hRl : R.length ≤ 300002 := by rw [hR, quoteB_eq, List.length_append]; simp; omega
              obtain ⟨X0, hX0⟩ : ∃ X, X = Y ++ [119, 111, 114, 100, 32] := ⟨_, rfl⟩
              obtain ⟨X1, hX1⟩ : ∃ X, X = X0 ++ R := ⟨_, rfl⟩
              obtain ⟨X2, hX2⟩ : ∃ X, X = X1 ++ [10] := ⟨_, rfl⟩
              have k0 : X0.length = Y.length + 5 := by rw [hX0, List.length_append]; rfl
              have k1 : X1.length = X0.length + R.length := by rw [hX1, List.length_append]
              have HX := Lib.hid (show X2 = tx (l0 ++ (st.words.take (k + 1)).map wordL) by
                rw [List.take_add_one, List.getElem?_eq_getElem hkl, List.map_append, ← List.append_assoc, tx_app, ← hY, hX2, hX1, hX0, hR, hx]
                show _ = Y ++ tx [wordL st.words[k]]
                rw [tx_one, wordL, show bs "word " = [119, 111, 114, 100, 32] by decide]
                simp)
              have n1 : ¬ (9223372036854775807 < (ba Y).size + 5) := by rw [ba_size]; omega
              have d1 : ba Y ++ ({ data := #[119, 111, 114, 100, 32] } : ByteArray) = ba X0 := by rw [hX0]; exact ba_app Y _
              have n2 : ¬ (9223372036854775807 < (ba X0).size + (ba R).size) := by rw [ba_size, ba_size]; omega
              have d2 : ba X0 ++ ba R = ba X1 := by rw [hX1]; exact ba_app _ _
              have n3 : ¬ (9223372036854775807 < (ba X1).size + 1) := by rw [ba_size]; omega
              have d3 : ba X1 ++ ({ data := #[10] } : ByteArray) = ba X2 := by rw [hX2]; exact ba_app _ [10]
              rw [← hY]
              rw [← hR] at hq
              clear hcu hu hu2 hx hxl hql hY hYl hR hRl hX0 hX1 hX2 k0 k1 hFw
              go_wp2_with fail
              refine hq.mono ?_
              rintro e' wq ⟨rfl, hF⟩
              have HF5 := Lib.hid (HF.out.trans' hF)
              clear hq hF
              go_wp2_with fail
              go_roundw
              case rel => exact ⟨k + 1, by omega, by go_num, by rw [← HX.out], HF5⟩
              case measure => simp [intOf]; omega
            · obtain rfl : nw = k := by omega
              rw [show st.words.take nw = st.words by rw [H.out.2.2.2.1, List.take_length]]
              generalize wr = W3 at *
              have HF3 := Lib.hid (HF2.out.trans' HF.out)
              have HB3 := Lib.hid (And.intro (HB2.out.1.kept HF.out id) (HB2.out.2.kept HF.out id))
              obtain ⟨l1, hl1⟩ : ∃ l1, l1 = l0 ++ st.words.map wordL := ⟨_, rfl⟩
              rw [← hl1]
              have hl1l : l1.length ≤ 100001 ∧ ∀ x ∈ l1, x.length ≤ 3000000 := by
                rw [hl1, List.length_append, List.length_map]
                refine ⟨by have := H.out.2.1.words.1; omega, fun x hx => ?_⟩
                rcases List.mem_append.1 hx with hx | hx
                · exact HS0.out.2 x hx
                · obtain ⟨y, hy, rfl⟩ := List.mem_map.1 hx
                  exact wordL_len y (H.out.2.1.words.2 y hy)
              have Hl1 := Lib.hid (And.intro hl1 hl1l)
              have hcr := conf_row (HL.out.1 ▸ HL.out.2.2.1) H.out.2.2.1 HL.out.2.2.2
              have h7 : 7 ≤ c5 ∧ c5 ≤ 9223372036854775807 := by obtain ⟨h1, h2, h3⟩ := hcr.len; exact ⟨h2, h3⟩
              obtain ⟨h71, h72⟩ := h7
              have hcr3 : IAt W3 (fun q => q < W2.heap.size) A5 7 c5 st.conf := Sl.keptTo hcr fun q hq => ⟨HF.out.block q hq id, hq⟩
              have hnr : ∀ x ∈ st.conf, near x := fun x hx => HNA.out x (by rw [HL.out.1]; rw [H.out.2.2.1] at hx; unfold toldL; simp at hx ⊢; omega)
              have hrow := rowR_any (bs "conf") (fun q => q < W2.heap.size) A5 7 c5 st.conf W3 hcr3 hnr (by decide) (by rw [H.out.2.1.conf]; omega)
              rw [show ba (bs "conf") = { data := #[99, 111, 110, 102] } by decide] at hrow
              have hrl : (joinB (bs "conf") st.conf).length ≤ 1000000 := by
                have h := joinB_bound (bs "conf") st.conf hnr st.conf.length (Nat.le_refl _)
                rw [List.take_length, H.out.2.1.conf, show (bs "conf").length = 4 by decide] at h
                omega
              obtain ⟨l2, hl2⟩ : ∃ l2, l2 = l1 ++ [joinB (bs "conf") st.conf] := ⟨_, rfl⟩
              have hl2l : l2.length ≤ 100005 ∧ ∀ x ∈ l2, x.length ≤ 3000000 := by
                rw [hl2, List.length_append]
                refine ⟨by simp; omega, fun x hx => ?_⟩
                rcases List.mem_append.1 hx with hx | hx
                · exact hl1l.2 x hx
                · rw [List.mem_singleton.1 hx]; omega
              have HS0 := Lib.hid hl2l
              obtain ⟨Y, hY⟩ : ∃ Y, Y = tx l1 := ⟨_, rfl⟩
              have hYl : Y.length ≤ 900000300000 := by rw [hY]; exact sm_tx l1 (by omega) hl1l.2
              obtain ⟨R, hR⟩ : ∃ R, R = joinB (bs "conf") st.conf ++ [10] := ⟨_, rfl⟩
              have hRl : R.length ≤ 1000001 := by rw [hR, List.length_append]; simp; omega
              have n1 : ¬ (9223372036854775807 < (ba Y).size + (ba R).size) := by rw [ba_size, ba_size]; omega
              have d1 : ba Y ++ ba R = ba (tx l2) := by rw [hl2, tx_app, tx_one, ← hY, ← hR]; exact ba_app _ _
              have Hl2 := Lib.hid hl2
              rw [← hY]
              rw [← hR] at hrow
              clear hl1 hl1l hcr hcr3 hnr hrl hl2 hl2l hY hYl hR hRl
              go_wp2_with fail
              refine hrow.mono ?_
              rintro e' wq ⟨rfl, hw⟩
              obtain rfl := hw.symm
              clear hrow
              go_wp2_with fail
              clear n1 d1
              go_loopw [7, 9] (fun t i wr => ∃ k : Nat, k ≤ nr ∧ i = .int .i64 k ∧ t = .string (ba (tx (l2 ++ (st.reads.take k).map readL))) ∧ Hid (Frm (fun _ => False) W3 wr)) (fun _ i _ => nr - (intOf i).toNat)
              case atStart => exact ⟨0, Nat.zero_le _, rfl, by simp, Lib.hid (Frm.refl _ _)⟩
              case round =>
                obtain ⟨k, hk, rfl, rfl, HF⟩ := hrel
                have c1 : wr.cell? ⟨e, 8, none⟩ = some (.slice Ar nr cr) := by rw [(HB3.out.2.kept HF.out id).cell, H.out.2.2.2.2.1]; rw [HD.out.2.1]; rfl
                by_cases hlt : k < nr
                · have hkl : k < st.reads.length := by rw [← H.out.2.2.2.2.1]; exact hlt
                  obtain ⟨u, g, o, hA, -, hcu, hu⟩ := TxS.at_ H.out.1.reads k hkl
                  subst hA
                  have hFw := HF3.out.trans' HF.out
                  have c2 := hFw.cell hcu id
                  have hu2 : Sl wr (InW wr) u (bv st.reads[k]) := hu.keptTo fun q hq => ⟨hFw.block q hq id, Nat.lt_of_lt_of_le hq hFw.size⟩
                  obtain ⟨Au, nu, cu, rfl, -⟩ := id hu2
                  obtain ⟨x, hx⟩ : ∃ x, x = st.reads[k] := ⟨_, rfl⟩
                  rw [← hx] at hu2
                  have hxl : x.length ≤ 100000 := by rw [hx]; exact H.out.2.1.reads.2 _ (List.getElem_mem hkl)
                  have hq := quoteR_any Au nu cu (InW wr) x wr hu2 (by omega) fun _ h => h
                  have hql := quoteGo_len x
                  obtain ⟨Y, hY⟩ : ∃ Y, Y = tx (l2 ++ (st.reads.take k).map readL) := ⟨_, rfl⟩
                  have hYl : Y.length ≤ 900000300000 := by rw [hY]; exact sm_take l2 st.reads k readL HS0.out.1 HS0.out.2 (fun x hx => readL_len x hx) H.out.2.1.reads.1 H.out.2.1.reads.2
                  obtain ⟨R, hR⟩ : ∃ R, R = quoteB x := ⟨_, rfl⟩
                  have hRl : R.length ≤ 300002 := by rw [hR, quoteB_eq, List.length_append]; simp; omega
                  obtain ⟨X0, hX0⟩ : ∃ X, X = Y ++ [114, 101, 97, 100, 32] := ⟨_, rfl⟩
                  obtain ⟨X1, hX1⟩ : ∃ X, X = X0 ++ R := ⟨_, rfl⟩
                  obtain ⟨X2, hX2⟩ : ∃ X, X = X1 ++ [10] := ⟨_, rfl⟩
                  have k0 : X0.length = Y.length + 5 := by rw [hX0, List.length_append]; rfl
                  have k1 : X1.length = X0.length + R.length := by rw [hX1, List.length_append]
                  have HX := Lib.hid (show X2 = tx (l2 ++ (st.reads.take (k + 1)).map readL) by
                    rw [List.take_add_one, List.getElem?_eq_getElem hkl, List.map_append, ← List.append_assoc, tx_app, ← hY, hX2, hX1, hX0, hR, hx]
                    show _ = Y ++ tx [readL st.reads[k]]
                    rw [tx_one, readL, show bs "read " = [114, 101, 97, 100, 32] by decide]
                    simp)
                  have n1 : ¬ (9223372036854775807 < (ba Y).size + 5) := by rw [ba_size]; omega
                  have d1 : ba Y ++ ({ data := #[114, 101, 97, 100, 32] } : ByteArray) = ba X0 := by rw [hX0]; exact ba_app Y _
                  have n2 : ¬ (9223372036854775807 < (ba X0).size + (ba R).size) := by rw [ba_size, ba_size]; omega
                  have d2 : ba X0 ++ ba R = ba X1 := by rw [hX1]; exact ba_app _ _
                  have n3 : ¬ (9223372036854775807 < (ba X1).size + 1) := by rw [ba_size]; omega
                  have d3 : ba X1 ++ ({ data := #[10] } : ByteArray) = ba X2 := by rw [hX2]; exact ba_app _ [10]
                  rw [← hY]
                  rw [← hR] at hq
                  clear hcu hu hu2 hx hxl hql hY hYl hR hRl hX0 hX1 hX2 k0 k1 hFw
                  go_wp2_with fail
                  refine hq.mono ?_
                  rintro e' wq ⟨rfl, hF⟩
                  have HF5 := Lib.hid (HF.out.trans' hF)
                  clear hq hF
                  go_wp2_with fail
                  go_roundw
                  case rel => exact ⟨k + 1, by omega, by go_num, by rw [← HX.out], HF5⟩
                  case measure => simp [intOf]; omega
                · obtain rfl : nr = k := by omega
                  rw [show st.reads.take nr = st.reads by rw [H.out.2.2.2.2.1, List.take_length]]
                  generalize wr = W4 at *
                  have HF4 := Lib.hid (HF3.out.trans' HF.out)
                  have HB4 := Lib.hid (HB3.out.2.kept HF.out id)
                  obtain ⟨l3, hl3⟩ : ∃ l3, l3 = l2 ++ st.reads.map readL := ⟨_, rfl⟩
                  rw [← hl3]
                  have hl3l : l3.length ≤ 200005 ∧ ∀ x ∈ l3, x.length ≤ 3000000 := by
                    rw [hl3, List.length_append, List.length_map]
                    refine ⟨by have := H.out.2.1.reads.1; have := HS0.out.1; omega, fun x hx => ?_⟩
                    rcases List.mem_append.1 hx with hx | hx
                    · exact HS0.out.2 x hx
                    · obtain ⟨y, hy, rfl⟩ := List.mem_map.1 hx
                      exact readL_len y (H.out.2.1.reads.2 y hy)
                  have Hl3 := Lib.hid (And.intro hl3 hl3l)
                  clear hl3 hl3l
                  have cA : ∀ (k : Nat) v, D[k]? = some v → W4.cell? ⟨e, k, none⟩ = some v := fun k v hv => by rw [HB4.out.cell, List.getElem?_toArray]; exact hv
                  have c7 : W4.cell? ⟨e, 7, none⟩ = some (.bool st.broken) := cA 7 _ (by rw [HD.out.2.1]; rfl)
                  have c9 : W4.cell? ⟨e, 9, none⟩ = some (.slice Aa na ca) := cA 9 _ (by rw [HD.out.2.1]; rfl)
                  have c10 : W4.cell? ⟨e, 10, none⟩ = some (.slice Ap np cp) := cA 10 _ (by rw [HD.out.2.1]; rfl)
                  have HcA := Lib.hid cA
                  clear cA
                  obtain ⟨l4, hl4⟩ : ∃ l4, l4 = l3 ++ (if st.broken then [bs "broken"] else []) := ⟨_, rfl⟩
                  have Hl4 := Lib.hid hl4
                  have HS4 := Lib.hid (show l4.length ≤ 200006 ∧ ∀ x ∈ l4, x.length ≤ 3000000 from by
                    rw [hl4, List.length_append]
                    refine ⟨by have := Hl3.out.2.1; split <;> simp <;> omega, fun x hx => ?_⟩
                    rcases List.mem_append.1 hx with hx | hx
                    · exact Hl3.out.2.2 x hx
                    · split at hx
                      · rw [List.mem_singleton.1 hx]; decide
                      · cases hx)
                  clear hl4
                  have hY3 : (tx l3).length ≤ 900000300000 := sm_tx l3 (by have := Hl3.out.2.1; omega) Hl3.out.2.2
                  go_upto_if 80 with fail
                  go_cut [7] (fun t wc => wc = W4 ∧ t = .string (ba (tx l4)))
                  case first =>
                    cases hbr : st.broken with
                    | true =>
                      have n1 : ¬ (9223372036854775807 < (ba (tx l3)).size + 7) := by rw [ba_size]; omega
                      have d1 : ba (tx l3) ++ ({ data := #[98, 114, 111, 107, 101, 110, 10] } : ByteArray) = ba (tx l4) := by
                        rw [Hl4.out, hbr, if_pos rfl, tx_app, tx_one, show bs "broken" ++ [10] = [98, 114, 111, 107, 101, 110, 10] by decide]
                        exact ba_app _ _
                      go_wp2_with fail
                      go_meet
                      case rel => exact ⟨rfl, rfl⟩
                    | false =>
                      have h1 := Lib.hid (show l4 = l3 by rw [Hl4.out, hbr]; simp)
                      go_wp2_with fail
                      go_meet
                      case rel => exact ⟨rfl, by rw [h1.out]⟩
                  case rest =>
                    obtain ⟨hwc, rfl⟩ := hcut
                    obtain rfl := hwc.symm
                    clear c7 hY3 c1
                    have hY4 : (tx l4).length ≤ 900000300000 := sm_tx l4 (by have := HS4.out.1; omega) HS4.out.2
                    obtain ⟨l5, hl5⟩ : ∃ l5, l5 = l4 ++ (if st.answers = [] then [] else [answL st.answers]) := ⟨_, rfl⟩
                    have Hl5 := Lib.hid hl5
                    have HAl := Lib.hid (show (answL st.answers).length ≤ 400010 from by have := answL_len st.answers; have := H.out.2.1.answers; omega)
                    have HS5 := Lib.hid (show l5.length ≤ 200007 ∧ ∀ x ∈ l5, x.length ≤ 3000000 from by
                      rw [hl5, List.length_append]
                      refine ⟨by have := HS4.out.1; split <;> simp <;> omega, fun x hx => ?_⟩
                      rcases List.mem_append.1 hx with hx | hx
                      · exact HS4.out.2 x hx
                      · split at hx
                        · cases hx
                        · rw [List.mem_singleton.1 hx]; have := HAl.out; omega)
                    clear hl5
                    obtain ⟨q, hq⟩ : ∃ q, q = decide (0 < na) := ⟨_, rfl⟩
                    have Hq := Lib.hid hq
                    clear hq
                    go_upto_region 24 with fail
                    go_cut [86] (fun t wc => wc = W4 ∧ t = .bool q)
                    case first =>
                      go_wp2_with fail
                      go_meet
                      case rel => exact ⟨rfl, by rw [Hq.out]⟩
                    case rest =>
                    obtain ⟨hwc, rfl⟩ := hcut
                    obtain rfl := hwc.symm
                    go_upto_if 86 with fail
                    go_cut [7] (fun t wc => wc = W4 ∧ t = .string (ba (tx l5)))
                    case first =>
                      cases q with
                      | false =>
                        have h0 : na = 0 := by have := of_decide_eq_false Hq.out.symm; omega
                        have h1 := Lib.hid (show l5 = l4 by rw [Hl5.out, if_pos (List.eq_nil_of_length_eq_zero (by rw [← H.out.2.2.2.2.2.1]; exact h0))]; simp)
                        clear h0
                        go_wp2_with fail
                        go_meet
                        case rel => exact ⟨rfl, by rw [h1.out]⟩
                      | true =>
                        have h0 : 0 < na := of_decide_eq_true Hq.out.symm
                        have hne : st.answers ≠ [] := fun e => by have := H.out.2.2.2.2.2.1; rw [e] at this; simp at this; omega
                        have Hl5b := Lib.hid (show tx l5 = tx l4 ++ [97, 110, 115, 119, 101, 114, 115] ++ st.answers.flatMap yesB ++ [10] by
                          rw [Hl5.out, if_neg hne, tx_app, tx_one]
                          unfold answL
                          rw [show bs "answers" = [97, 110, 115, 119, 101, 114, 115] by decide]
                          simp)
                        have n1 : ¬ (9223372036854775807 < (ba (tx l4)).size + 7) := by rw [ba_size]; omega
                        obtain ⟨Y0, hY0⟩ : ∃ Y, Y = tx l4 ++ [97, 110, 115, 119, 101, 114, 115] := ⟨_, rfl⟩
                        have d1 : ba (tx l4) ++ ({ data := #[97, 110, 115, 119, 101, 114, 115] } : ByteArray) = ba Y0 := by rw [hY0]; exact ba_app _ _
                        have HY0 := Lib.hid (show tx l5 = Y0 ++ st.answers.flatMap yesB ++ [10] ∧ Y0.length ≤ 900000300007 from ⟨by rw [hY0]; exact Hl5b.out, by rw [hY0, List.length_append]; simp; omega⟩)
                        clear h0 hne hY0 hY4
                        go_wp2_with fail
                        clear n1 d1
                        go_loopw [7, 10] (fun t i wr => ∃ k : Nat, k ≤ na ∧ i = .int .i64 k ∧ t = .string (ba (Y0 ++ (st.answers.take k).flatMap yesB)) ∧ wr = W4) (fun _ i _ => na - (intOf i).toNat)
                        case atStart => exact ⟨0, Nat.zero_le _, rfl, by simp, rfl⟩
                        case round =>
                          obtain ⟨k, hk, rfl, rfl, hwr⟩ := hrel
                          obtain rfl := hwr.symm
                          have hal : ((st.answers.take k).flatMap yesB).length ≤ 400000 := by
                            have h1 := yes_len4 (st.answers.take k)
                            have h2 := H.out.2.1.answers
                            rw [List.length_take] at h1
                            omega
                          obtain ⟨Y, hY⟩ : ∃ Y, Y = Y0 ++ (st.answers.take k).flatMap yesB := ⟨_, rfl⟩
                          have hYl : Y.length ≤ 900000800007 := by rw [hY, List.length_append]; have := HY0.out.2; omega
                          rw [← hY]
                          by_cases hlt : k < na
                          · have hkl : k < st.answers.length := by rw [← H.out.2.2.2.2.2.1]; exact hlt
                            obtain ⟨g, o, hA, hcu⟩ := sl_at (H.out.1.answers) k (by simpa [bvs] using hkl) (by omega)
                            subst hA
                            obtain ⟨y, hy⟩ : ∃ y, y = st.answers[k] := ⟨_, rfl⟩
                            rw [show (bvs st.answers)[k]'(by simpa [bvs] using hkl) = .bool y by rw [hy]; simp [bvs]] at hcu
                            have c2 := HF4.out.cell hcu id
                            have HX := Lib.hid (show Y0 ++ (st.answers.take (k + 1)).flatMap yesB = Y ++ yesB y by
                              have e1 : st.answers.take (k + 1) = st.answers.take k ++ [st.answers[k]] := by rw [List.take_add_one, List.getElem?_eq_getElem hkl]; rfl
                              rw [e1, List.flatMap_append, hY, hy, List.append_assoc]
                              show _ ++ (_ ++ (yesB _ ++ [])) = _
                              rw [List.append_nil])
                            cases y with
                            | true =>
                              have n1 : ¬ (9223372036854775807 < (ba Y).size + 4) := by rw [ba_size]; omega
                              have d1 : ba Y ++ ({ data := #[32, 121, 101, 115] } : ByteArray) = ba (Y ++ yesB true) := by rw [show yesB true = [32, 121, 101, 115] by decide]; exact ba_app _ _
                              clear hcu hy hY hYl hal
                              go_wp2_with fail
                              go_roundw
                              case rel => exact ⟨k + 1, by omega, by go_num, by rw [HX.out], by first | rfl | trivial⟩
                              case measure => simp [intOf]; omega
                            | false =>
                              have n1 : ¬ (9223372036854775807 < (ba Y).size + 3) := by rw [ba_size]; omega
                              have d1 : ba Y ++ ({ data := #[32, 110, 111] } : ByteArray) = ba (Y ++ yesB false) := by rw [show yesB false = [32, 110, 111] by decide]; exact ba_app _ _
                              clear hcu hy hY hYl hal
                              go_wp2_with fail
                              go_roundw
                              case rel => exact ⟨k + 1, by omega, by go_num, by rw [HX.out], by first | rfl | trivial⟩
                              case measure => simp [intOf]; omega
                          · obtain rfl : na = k := by omega
                            have HX := Lib.hid (show tx l5 = Y ++ [10] by rw [HY0.out.1, hY, show st.answers.take na = st.answers from List.take_of_length_le (by have := H.out.2.2.2.2.2.1; omega)])
                            have n1 : ¬ (9223372036854775807 < (ba Y).size + 1) := by rw [ba_size]; omega
                            have d1 : ba Y ++ ({ data := #[10] } : ByteArray) = ba (Y ++ [10]) := ba_app _ _
                            clear hY hYl hal
                            go_wp2_with fail
                            go_meet
                            case rel => exact ⟨rfl, by rw [HX.out]⟩
                    case rest =>
                      obtain ⟨hwc, rfl⟩ := hcut
                      obtain rfl := hwc.symm
                      clear c9
                      have hY5 : (tx l5).length ≤ 900000300000 := sm_tx l5 (by have := HS5.out.1; omega) HS5.out.2
                      obtain ⟨l6, hl6⟩ : ∃ l6, l6 = l5 ++ (if st.picks = [] then [] else [joinB (bs "pick") st.picks]) := ⟨_, rfl⟩
                      have Hl6 := Lib.hid hl6
                      have hpn : ∀ x ∈ st.picks, near x := fun x hx => HNA.out x (by rw [HL.out.1]; unfold toldL; exact List.mem_append_right _ hx)
                      have hjl : (joinB (bs "pick") st.picks).length ≤ 2200010 := by
                        have h := joinB_bound (bs "pick") st.picks hpn st.picks.length (Nat.le_refl _)
                        have h2 := H.out.2.1.picks
                        rw [List.take_length, show (bs "pick").length = 4 by decide] at h
                        omega
                      have HS6 := Lib.hid (show l6.length ≤ 200008 ∧ ∀ x ∈ l6, x.length ≤ 3000000 from by
                        rw [hl6, List.length_append]
                        refine ⟨by have := HS5.out.1; split <;> simp <;> omega, fun x hx => ?_⟩
                        rcases List.mem_append.1 hx with hx | hx
                        · exact HS5.out.2 x hx
                        · split at hx
                          · cases hx
                          · rw [List.mem_singleton.1 hx]; omega)
                      have hpk := rowR_any (bs "pick") (InW W4) Ap np cp st.picks W4 (H.out.1.kept HF4.out).picks hpn (by decide) H.out.2.1.picks
                      rw [show ba (bs "pick") = { data := #[112, 105, 99, 107] } by decide] at hpk
                      have HPK := Lib.hid hpk
                      have HJL := Lib.hid hjl
                      clear hl6 hpn hjl hpk
                      obtain ⟨q2, hq2⟩ : ∃ q, q = decide (0 < np) := ⟨_, rfl⟩
                      have Hq2 := Lib.hid hq2
                      clear hq2
                      go_upto_region 33 with fail
                      go_cut [110] (fun t wc => wc = W4 ∧ t = .bool q2)
                      case first =>
                        go_wp2_with fail
                        go_meet
                        case rel => exact ⟨rfl, by rw [Hq2.out]⟩
                      case rest =>
                      obtain ⟨hwc, rfl⟩ := hcut
                      obtain rfl := hwc.symm
                      go_upto_if 110 with fail
                      go_cut [7] (fun t wc => wc = W4 ∧ t = .string (ba (tx l6)))
                      case first =>
                        cases q2 with
                        | false =>
                          have h0 : np = 0 := by have := of_decide_eq_false Hq2.out.symm; omega
                          have h1 := Lib.hid (show l6 = l5 by rw [Hl6.out, if_pos (List.eq_nil_of_length_eq_zero (by rw [← H.out.2.2.2.2.2.2]; exact h0))]; simp)
                          clear h0
                          go_wp2_with fail
                          go_meet
                          case rel => exact ⟨rfl, by rw [h1.out]⟩
                        | true =>
                          have h0 : 0 < np := of_decide_eq_true Hq2.out.symm
                          have hne : st.picks ≠ [] := fun e => by have := H.out.2.2.2.2.2.2; rw [e] at this; simp at this; omega
                          have hX : tx l5 ++ (joinB (bs "pick") st.picks ++ [10]) = tx l6 := by rw [Hl6.out, if_neg hne, tx_app, tx_one]
                          have hpk := HPK.out
                          obtain ⟨R, hR⟩ : ∃ R, R = joinB (bs "pick") st.picks ++ [10] := ⟨_, rfl⟩
                          rw [← hR] at hX hpk
                          have hRl : R.length ≤ 2200011 := by rw [hR, List.length_append]; have := HJL.out; simp; omega
                          have n1 : ¬ (9223372036854775807 < (ba (tx l5)).size + (ba R).size) := by rw [ba_size, ba_size]; omega
                          have d1 : ba (tx l5) ++ ba R = ba (tx l6) := by rw [← hX]; exact ba_app _ _
                          clear h0 hne hX hR hRl hY5
                          go_wp2_with fail
                          refine hpk.mono ?_
                          rintro e' wq ⟨rfl, hw⟩
                          obtain rfl := hw.symm
                          clear hpk
                          go_wp2_with fail
                          go_meet
                          case rel => exact ⟨rfl, rfl⟩
                      case rest =>
                      obtain ⟨hwc, rfl⟩ := hcut
                      obtain rfl := hwc.symm
                      clear c10 hY5 HPK HJL
                      go_upto_region 36 with fail
                      obtain ⟨N, hN⟩ : ∃ N : Array Value, N = #[.string { data := #[110, 111, 110, 101] }, .string { data := #[102, 105, 114, 115, 116] }, .string { data := #[108, 97, 115, 116] }, .string { data := #[114, 111, 117, 110, 100] }, .string { data := #[115, 101, 101, 100] }] := ⟨_, rfl⟩
                      rw [← hN]
                      have hX : Frm (fun _ => False) W4 (W4.alloc (.cells N 9)) := (Frm.refl _ W4).alloc _
                      have hBn := Blk.new W4 9 N
                      obtain ⟨qn, hqn⟩ : ∃ q, q = W4.heap.size := ⟨_, rfl⟩
                      rw [← hqn] at hBn ⊢
                      clear hqn
                      generalize W4.alloc (.cells N 9) = W5 at *
                      obtain ⟨kd, hkd⟩ : ∃ kd, kd = kindL.getD st.kind [] := ⟨_, rfl⟩
                      have hcA := HcA.out
                      have H5 := Lib.hid (show W5.cell? ⟨e, 11, none⟩ = some (.int .u8 (st.kind : Nat)) ∧ W5.cell? ⟨e, 12, none⟩ = some (.int .u32 (st.seed : Nat)) ∧ W5.cell? ⟨e, 13, none⟩ = some (.int .i64 st.last) ∧ W5.cell? ⟨e, 14, none⟩ = some (.int .i64 st.cancel) ∧ W5.cell? ⟨e, 15, none⟩ = some (.int .i64 st.most) ∧ W5.cell? ⟨qn, st.kind, none⟩ = some (.string (ba kd)) from
                        ⟨hX.cell (hcA 11 _ (by rw [HD.out.2.1]; rfl)) id, hX.cell (hcA 12 _ (by rw [HD.out.2.1]; rfl)) id, hX.cell (hcA 13 _ (by rw [HD.out.2.1]; rfl)) id, hX.cell (hcA 14 _ (by rw [HD.out.2.1]; rfl)) id, hX.cell (hcA 15 _ (by rw [HD.out.2.1]; rfl)) id, by rw [hBn.cell, hN, hkd]; exact names_at st.kind HK.out.1⟩)
                      have HW5 := Lib.hid (HF4.out.trans' hX)
                      have HNr := Lib.hid (show near st.last ∧ near st.cancel ∧ near st.most from ⟨HNA.out _ (by rw [HL.out.1]; unfold toldL; simp), HNA.out _ (by rw [HL.out.1]; unfold toldL; simp), HNA.out _ (by rw [HL.out.1]; unfold toldL; simp)⟩)
                      have HKd := Lib.hid (And.intro hkd (show kd.length ≤ 5 by rw [hkd]; exact kd_len st.kind HK.out.1))
                      have HY6 := Lib.hid (sm_tx l6 (by have := HS6.out.1; omega) HS6.out.2)
                      obtain ⟨R1, hR1⟩ : ∃ R, R = planL st ++ [10] := ⟨_, rfl⟩
                      obtain ⟨R2, hR2⟩ : ∃ R, R = joinB (bs "cancel") [st.cancel] ++ [10] := ⟨_, rfl⟩
                      obtain ⟨R3, hR3⟩ : ∃ R, R = joinB (bs "most") [st.most] ++ [10] := ⟨_, rfl⟩
                      obtain ⟨X1, hX1⟩ : ∃ X, X = tx l6 ++ R1 := ⟨_, rfl⟩
                      obtain ⟨X2, hX2⟩ : ∃ X, X = X1 ++ R2 := ⟨_, rfl⟩
                      obtain ⟨X3, hX3⟩ : ∃ X, X = X2 ++ R3 := ⟨_, rfl⟩
                      have HRl := Lib.hid (show R1.length ≤ 1000 ∧ R2.length ≤ 1000 ∧ R3.length ≤ 1000 from by
                        have j1 := joinB_bound (bs "plan " ++ kd) [(st.seed : Int), st.last] (fun x hx => by rcases List.mem_cons.1 hx with rfl | hx; exact seed_near H.out.2.1.seed; rw [List.mem_singleton.1 hx]; exact HNr.out.1) 2 (Nat.le_refl _)
                        have j2 := joinB_bound (bs "cancel") [st.cancel] (fun x hx => by rw [List.mem_singleton.1 hx]; exact HNr.out.2.1) 1 (Nat.le_refl _)
                        have j3 := joinB_bound (bs "most") [st.most] (fun x hx => by rw [List.mem_singleton.1 hx]; exact HNr.out.2.2) 1 (Nat.le_refl _)
                        have k5 := HKd.out.2
                        rw [List.length_append, show (bs "plan ").length = 5 by decide] at j1
                        rw [show (bs "cancel").length = 6 by decide] at j2
                        rw [show (bs "most").length = 4 by decide] at j3
                        rw [hR1, hR2, hR3]
                        unfold planL
                        rw [← hkd, List.length_append, List.length_append, List.length_append]
                        simp only [List.take_succ_cons, List.take_zero] at j1 j2 j3
                        simp only [List.length_cons, List.length_nil]
                        omega)
                      have HXE := Lib.hid (And.intro hX1 (And.intro hX2 hX3))
                      have HXt := Lib.hid (show X3 = textP st from by
                        have e7 : l6 ++ [planL st, joinB (bs "cancel") [st.cancel], joinB (bs "most") [st.most]] = linesP st := by
                          rw [Hl6.out, Hl5.out, Hl4.out, Hl3.out.1, Hl2.out, Hl1.out.1, Hl0.out]
                          rfl
                        have e8 : tx (linesP st) = textP st := rfl
                        rw [← e8, ← e7, tx_app, hX3, hX2, hX1, hR1, hR2, hR3]
                        simp [tx])
                      have HR := Lib.hid (And.intro hR1 (And.intro hR2 hR3))
                      clear hX hBn hN hkd hcA hR1 hR2 hR3 hX1 hX2 hX3
                      refine plan_begin (by kernel_rfl) 29 (by kernel_rfl) ?_
                      refine plan_fx [0, 1, 2, 3, 4, 5, 6, 7, 8, 9, 10, 11, 12, 13, 14, 15, 16, 17, 18, 19, 20, 21, 22, 23, 24, 25, 26, 27] (fun (j : Nat) (v : Value) (w : World) => (match j with | 0 => v = .string (ba (tx l6)) | 1 => v = .slice (some ⟨qn, 0, none⟩) 5 5 | 2 => v = .pointer (some ⟨e, 11, none⟩) | 3 => v = .pointer (some ⟨e, 11, none⟩) | 4 => v = .int .u8 (st.kind : Nat) | 5 => v = .pointer (some ⟨qn, st.kind, none⟩) | 6 => v = .string (ba kd) | 7 => v = .string (ba (bs "plan " ++ kd)) | 8 => v = .pointer (some ⟨e, 11, none⟩) | 9 => v = .pointer (some ⟨e, 12, none⟩) | 10 => v = .int .u32 (st.seed : Nat) | 11 => v = .int .i64 (st.seed : Nat) | 12 => v = .pointer (some ⟨e, 11, none⟩) | 13 => v = .pointer (some ⟨e, 13, none⟩) | 14 => v = .int .i64 st.last | 15 => ∃ A c, v = .slice A 2 c ∧ Sl w (InW w) v (ivs [(st.seed : Int), st.last]) | 16 => v = .string (ba R1) | 17 => v = .string (ba X1) | 18 => v = .pointer (some ⟨e, 14, none⟩) | 19 => v = .int .i64 st.cancel | 20 => ∃ A c, v = .slice A 1 c ∧ Sl w (InW w) v (ivs [st.cancel]) | 21 => v = .string (ba R2) | 22 => v = .string (ba X2) | 23 => v = .pointer (some ⟨e, 15, none⟩) | 24 => v = .int .i64 st.most | 25 => ∃ A c, v = .slice A 1 c ∧ Sl w (InW w) v (ivs [st.most]) | 26 => v = .string (ba R3) | 27 => v = .string (ba X3) | _ => True : Prop)) (fun w => Frm (fun _ => False) W5 w) (fun w w' => Frm (fun _ => False) w w') #[true, true, true, true, true, true, true, true, true, true, true, true, true, true, true, true, true, true, true, true, true, true, true, true, true, true, true, true, false] 1 (by kernel_rfl) (by kernel_rfl) (by kernel_rfl) (by kernel_rfl) (by kernel_rfl) (by kernel_rfl) (by kernel_rfl) (by kernel_rfl) ((Frm.refl _ _).drew) ?hV (fun _ _ h k => h.trans' k) ?steps ?fin
                      case hV =>
                        intro j v w1 w2 h hF
                        match j, h with
                        | 0, h => exact h
                        | 1, h => exact h
                        | 2, h => exact h
                        | 3, h => exact h
                        | 4, h => exact h
                        | 5, h => exact h
                        | 6, h => exact h
                        | 7, h => exact h
                        | 8, h => exact h
                        | 9, h => exact h
                        | 10, h => exact h
                        | 11, h => exact h
                        | 12, h => exact h
                        | 13, h => exact h
                        | 14, h => exact h
                        | 15, ⟨A, c, e, hs⟩ => exact ⟨A, c, e, Sl.keptTo hs fun q hq => ⟨hF.block q hq id, Nat.lt_of_lt_of_le hq hF.size⟩⟩
                        | 16, h => exact h
                        | 17, h => exact h
                        | 18, h => exact h
                        | 19, h => exact h
                        | 20, ⟨A, c, e, hs⟩ => exact ⟨A, c, e, Sl.keptTo hs fun q hq => ⟨hF.block q hq id, Nat.lt_of_lt_of_le hq hF.size⟩⟩
                        | 21, h => exact h
                        | 22, h => exact h
                        | 23, h => exact h
                        | 24, h => exact h
                        | 25, ⟨A, c, e, hs⟩ => exact ⟨A, c, e, Sl.keptTo hs fun q hq => ⟨hF.block q hq id, Nat.lt_of_lt_of_le hq hF.size⟩⟩
                        | 26, h => exact h
                        | 27, h => exact h
                        | _ + 28, _ => trivial
                      case steps =>
                        refine steps_cons 0 rfl ?_ ?_
                        · intro f w1 A ρ hρ hG hd hu hA K hK
                          have e1 : ρ (.tmp 7) = .string (ba (tx l6)) := (hA 7).trans (by kernel_rfl)
                          refine fx_val hρ rfl (v := .string (ba (tx l6))) (w' := w1) (by simp [execOp, go_sem, e1]) (hK _ _ rfl (Frm.refl _ _))
                        refine steps_cons 1 rfl ?_ ?_
                        · intro f w1 A ρ hρ hG hd hu hA K hK
                          have e1 : ρ (.tmp 11) = .slice (some ⟨qn, 0, none⟩) 5 5 := (hA 11).trans (by kernel_rfl)
                          refine fx_val hρ rfl (v := .slice (some ⟨qn, 0, none⟩) 5 5) (w' := w1) (by simp [execOp, go_sem, e1]) (hK _ _ rfl (Frm.refl _ _))
                        refine steps_cons 2 rfl ?_ ?_
                        · intro f w1 A ρ hρ hG hd hu hA K hK
                          have e1 : ρ (.tmp 4) = .pointer (some ⟨e, 0, none⟩) := (hA 4).trans (by kernel_rfl)
                          refine fx_val hρ rfl (v := .pointer (some ⟨e, 11, none⟩)) (w' := w1) (by simp [execOp, go_sem, e1]) (hK _ _ rfl (Frm.refl _ _))
                        refine steps_cons 3 rfl ?_ ?_
                        · intro f w1 A ρ hρ hG hd hu hA K hK
                          have e1 : ρ (.tmp 119) = .pointer (some ⟨e, 11, none⟩) := (hA 119).trans ((show (puts _ f _ _).eval (.tmp 119) = f 2 from by kernel_rfl).trans (hd 2 (by kernel_rfl)))
                          refine fx_val hρ rfl (v := .pointer (some ⟨e, 11, none⟩)) (w' := w1) (by simp [execOp, go_sem, e1]) (hK _ _ rfl (Frm.refl _ _))
                        refine steps_cons 4 rfl ?_ ?_
                        · intro f w1 A ρ hρ hG hd hu hA K hK
                          have e1 : ρ (.tmp 120) = .pointer (some ⟨e, 11, none⟩) := (hA 120).trans ((show (puts _ f _ _).eval (.tmp 120) = f 3 from by kernel_rfl).trans (hd 3 (by kernel_rfl)))
                          have c1 : w1.cell? ⟨e, 11, none⟩ = some (.int .u8 (st.kind : Nat)) := hG.cell H5.out.1 id
                          refine fx_val hρ rfl (v := .int .u8 (st.kind : Nat)) (w' := w1) (by simp [execOp, go_sem, e1, c1]) (hK _ _ rfl (Frm.refl _ _))
                        refine steps_cons 5 rfl ?_ ?_
                        · intro f w1 A ρ hρ hG hd hu hA K hK
                          have e0 : ρ (.tmp 118) = .slice (some ⟨qn, 0, none⟩) 5 5 := (hA 118).trans ((show (puts _ f _ _).eval (.tmp 118) = f 1 from by kernel_rfl).trans (hd 1 (by kernel_rfl)))
                          have e2 : ρ (.tmp 121) = .int .u8 (st.kind : Nat) := (hA 121).trans ((show (puts _ f _ _).eval (.tmp 121) = f 4 from by kernel_rfl).trans (hd 4 (by kernel_rfl)))
                          have hk := HK.out.1
                          refine fx_val hρ rfl (v := .pointer (some ⟨qn, st.kind, none⟩)) (w' := w1) (by simp [execOp, go_sem, e0, e2, Addr.add]; rw [if_pos (by omega)]; split <;> simp_all) (hK _ _ rfl (Frm.refl _ _))
                        refine steps_cons 6 rfl ?_ ?_
                        · intro f w1 A ρ hρ hG hd hu hA K hK
                          have e1 : ρ (.tmp 122) = .pointer (some ⟨qn, st.kind, none⟩) := (hA 122).trans ((show (puts _ f _ _).eval (.tmp 122) = f 5 from by kernel_rfl).trans (hd 5 (by kernel_rfl)))
                          have c1 : w1.cell? ⟨qn, st.kind, none⟩ = some (.string (ba kd)) := hG.cell H5.out.2.2.2.2.2 id
                          refine fx_val hρ rfl (v := .string (ba kd)) (w' := w1) (by simp [execOp, go_sem, e1, c1]) (hK _ _ rfl (Frm.refl _ _))
                        refine steps_cons 7 rfl ?_ ?_
                        · intro f w1 A ρ hρ hG hd hu hA K hK
                          have e1 : ρ (.tmp 123) = .string (ba kd) := (hA 123).trans ((show (puts _ f _ _).eval (.tmp 123) = f 6 from by kernel_rfl).trans (hd 6 (by kernel_rfl)))
                          have c1 : ¬ (9223372036854775807 < 5 + (ba kd).size) := by have := HKd.out.2; rw [ba_size]; omega
                          have c2 : ({ data := #[112, 108, 97, 110, 32] } : ByteArray) ++ ba kd = ba (bs "plan " ++ kd) := ba_app (bs "plan ") kd
                          refine fx_val hρ rfl (v := .string (ba (bs "plan " ++ kd))) (w' := w1) (by simp [execOp, go_sem, e1, c1, c2, hρ.c]) (hK _ _ rfl (Frm.refl _ _))
                        refine steps_cons 8 rfl ?_ ?_
                        · intro f w1 A ρ hρ hG hd hu hA K hK
                          have e1 : ρ (.tmp 4) = .pointer (some ⟨e, 0, none⟩) := (hA 4).trans (by kernel_rfl)
                          refine fx_val hρ rfl (v := .pointer (some ⟨e, 11, none⟩)) (w' := w1) (by simp [execOp, go_sem, e1]) (hK _ _ rfl (Frm.refl _ _))
                        refine steps_cons 9 rfl ?_ ?_
                        · intro f w1 A ρ hρ hG hd hu hA K hK
                          have e1 : ρ (.tmp 125) = .pointer (some ⟨e, 11, none⟩) := (hA 125).trans ((show (puts _ f _ _).eval (.tmp 125) = f 8 from by kernel_rfl).trans (hd 8 (by kernel_rfl)))
                          refine fx_val hρ rfl (v := .pointer (some ⟨e, 12, none⟩)) (w' := w1) (by simp [execOp, go_sem, e1]) (hK _ _ rfl (Frm.refl _ _))
                        refine steps_cons 10 rfl ?_ ?_
                        · intro f w1 A ρ hρ hG hd hu hA K hK
                          have e1 : ρ (.tmp 126) = .pointer (some ⟨e, 12, none⟩) := (hA 126).trans ((show (puts _ f _ _).eval (.tmp 126) = f 9 from by kernel_rfl).trans (hd 9 (by kernel_rfl)))
                          have c1 : w1.cell? ⟨e, 12, none⟩ = some (.int .u32 (st.seed : Nat)) := hG.cell H5.out.2.1 id
                          refine fx_val hρ rfl (v := .int .u32 (st.seed : Nat)) (w' := w1) (by simp [execOp, go_sem, e1, c1]) (hK _ _ rfl (Frm.refl _ _))
                        refine steps_cons 11 rfl ?_ ?_
                        · intro f w1 A ρ hρ hG hd hu hA K hK
                          have e1 : ρ (.tmp 127) = .int .u32 (st.seed : Nat) := (hA 127).trans ((show (puts _ f _ _).eval (.tmp 127) = f 10 from by kernel_rfl).trans (hd 10 (by kernel_rfl)))
                          have c1 : IntKind.i64.wrap (st.seed : Int) = (st.seed : Int) := IntWalk.i64_in _ (by have := H.out.2.1.seed; omega)
                          refine fx_val hρ rfl (v := .int .i64 (st.seed : Nat)) (w' := w1) (by simp [execOp, go_sem, e1, c1]) (hK _ _ rfl (Frm.refl _ _))
                        refine steps_cons 12 rfl ?_ ?_
                        · intro f w1 A ρ hρ hG hd hu hA K hK
                          have e1 : ρ (.tmp 4) = .pointer (some ⟨e, 0, none⟩) := (hA 4).trans (by kernel_rfl)
                          refine fx_val hρ rfl (v := .pointer (some ⟨e, 11, none⟩)) (w' := w1) (by simp [execOp, go_sem, e1]) (hK _ _ rfl (Frm.refl _ _))
                        refine steps_cons 13 rfl ?_ ?_
                        · intro f w1 A ρ hρ hG hd hu hA K hK
                          have e1 : ρ (.tmp 129) = .pointer (some ⟨e, 11, none⟩) := (hA 129).trans ((show (puts _ f _ _).eval (.tmp 129) = f 12 from by kernel_rfl).trans (hd 12 (by kernel_rfl)))
                          refine fx_val hρ rfl (v := .pointer (some ⟨e, 13, none⟩)) (w' := w1) (by simp [execOp, go_sem, e1]) (hK _ _ rfl (Frm.refl _ _))
                        refine steps_cons 14 rfl ?_ ?_
                        · intro f w1 A ρ hρ hG hd hu hA K hK
                          have e1 : ρ (.tmp 130) = .pointer (some ⟨e, 13, none⟩) := (hA 130).trans ((show (puts _ f _ _).eval (.tmp 130) = f 13 from by kernel_rfl).trans (hd 13 (by kernel_rfl)))
                          have c1 : w1.cell? ⟨e, 13, none⟩ = some (.int .i64 st.last) := hG.cell H5.out.2.2.1 id
                          refine fx_val hρ rfl (v := .int .i64 st.last) (w' := w1) (by simp [execOp, go_sem, e1, c1]) (hK _ _ rfl (Frm.refl _ _))
                        refine steps_cons 15 rfl ?_ ?_
                        · intro f w1 A ρ hρ hG hd hu hA K hK
                          have e1 : ρ (.tmp 128) = .int .i64 (st.seed : Nat) := (hA 128).trans ((show (puts _ f _ _).eval (.tmp 128) = f 11 from by kernel_rfl).trans (hd 11 (by kernel_rfl)))
                          have e2 : ρ (.tmp 131) = .int .i64 st.last := (hA 131).trans ((show (puts _ f _ _).eval (.tmp 131) = f 14 from by kernel_rfl).trans (hd 14 (by kernel_rfl)))
                          refine fx_val hρ rfl (v := .slice (some ⟨w1.heap.size, 0, none⟩) 2 2) (w' := w1.alloc (.cells #[.int .i64 (st.seed : Nat), .int .i64 st.last] 3)) (by simp [execOp, go_sem, e1, e2]) (hK _ _ ⟨_, _, rfl, ?_⟩ ((Frm.refl _ _).alloc _))
                          exact (Sl.blk w1 #[.int .i64 (st.seed : Nat), .int .i64 st.last] 3 (n := 2) (xs := ivs [(st.seed : Nat), st.last]) rfl ⟨rfl, by decide⟩).mono fun q hq => by rw [hq]; unfold InW; rw [World.size_alloc]; omega
                        refine steps_cons 16 rfl ?_ ?_
                        · intro f w1 A ρ hρ hG hd hu hA K hK
                          obtain ⟨A6, c6, e5, hs⟩ := hd 15 (by kernel_rfl)
                          have e0 : ρ (.tmp 132) = f 15 := (hA 132).trans (show (puts _ f _ _).eval (.tmp 132) = f 15 from by kernel_rfl)
                          rw [e5] at e0 hs
                          have e1 : ρ (.tmp 124) = .string (ba (bs "plan " ++ kd)) := (hA 124).trans ((show (puts _ f _ _).eval (.tmp 124) = f 7 from by kernel_rfl).trans (hd 7 (by kernel_rfl)))
                          have hj := rowR_any (bs "plan " ++ kd) (InW w1) A6 2 c6 [(st.seed : Int), st.last] w1 hs (fun x hx => by rcases List.mem_cons.1 hx with rfl | hx; exact seed_near H.out.2.1.seed; rw [List.mem_singleton.1 hx]; exact HNr.out.1) (by have := HKd.out.2; rw [List.length_append, show (bs "plan ").length = 5 by decide]; omega) (by simp)
                          rw [show joinB (bs "plan " ++ kd) [(st.seed : Int), st.last] ++ [10] = R1 by rw [HR.out.1, HKd.out.1]; rfl] at hj
                          refine fx_call hρ rfl _ _ _ rfl (by simp [e0, e1]) (Tryz.call31 _ _) hj ?_
                          rintro e w2 ⟨rfl, rfl⟩
                          exact ⟨_, rfl, hK _ _ rfl (Frm.refl _ _)⟩
                        refine steps_cons 17 rfl ?_ ?_
                        · intro f w1 A ρ hρ hG hd hu hA K hK
                          have e1 : ρ (.tmp 117) = .string (ba (tx l6)) := (hA 117).trans ((show (puts _ f _ _).eval (.tmp 117) = f 0 from by kernel_rfl).trans (hd 0 (by kernel_rfl)))
                          have e2 : ρ (.tmp 133) = .string (ba R1) := (hA 133).trans ((show (puts _ f _ _).eval (.tmp 133) = f 16 from by kernel_rfl).trans (hd 16 (by kernel_rfl)))
                          have c1 : ¬ (9223372036854775807 < (ba (tx l6)).size + (ba R1).size) := by have h1 := HY6.out; have h2 := HRl.out; have h3 := HXE.out; have h4 := congrArg List.length h3.1; have h5 := congrArg List.length h3.2.1; rw [List.length_append] at h4 h5; rw [ba_size, ba_size]; omega
                          have c2 : ba (tx l6) ++ ba R1 = ba X1 := by rw [HXE.out.1]; exact ba_app _ _
                          refine fx_val hρ rfl (v := .string (ba X1)) (w' := w1) (by simp [execOp, go_sem, e1, e2, c1, c2]) (hK _ _ rfl (Frm.refl _ _))
                        refine steps_cons 18 rfl ?_ ?_
                        · intro f w1 A ρ hρ hG hd hu hA K hK
                          have e1 : ρ (.tmp 4) = .pointer (some ⟨e, 0, none⟩) := (hA 4).trans (by kernel_rfl)
                          refine fx_val hρ rfl (v := .pointer (some ⟨e, 14, none⟩)) (w' := w1) (by simp [execOp, go_sem, e1]) (hK _ _ rfl (Frm.refl _ _))
                        refine steps_cons 19 rfl ?_ ?_
                        · intro f w1 A ρ hρ hG hd hu hA K hK
                          have e1 : ρ (.tmp 135) = .pointer (some ⟨e, 14, none⟩) := (hA 135).trans ((show (puts _ f _ _).eval (.tmp 135) = f 18 from by kernel_rfl).trans (hd 18 (by kernel_rfl)))
                          have c1 : w1.cell? ⟨e, 14, none⟩ = some (.int .i64 st.cancel) := hG.cell H5.out.2.2.2.1 id
                          refine fx_val hρ rfl (v := .int .i64 st.cancel) (w' := w1) (by simp [execOp, go_sem, e1, c1]) (hK _ _ rfl (Frm.refl _ _))
                        refine steps_cons 20 rfl ?_ ?_
                        · intro f w1 A ρ hρ hG hd hu hA K hK
                          have e1 : ρ (.tmp 136) = .int .i64 st.cancel := (hA 136).trans ((show (puts _ f _ _).eval (.tmp 136) = f 19 from by kernel_rfl).trans (hd 19 (by kernel_rfl)))
                          refine fx_val hρ rfl (v := .slice (some ⟨w1.heap.size, 0, none⟩) 1 1) (w' := w1.alloc (.cells #[.int .i64 st.cancel] 3)) (by simp [execOp, go_sem, e1]) (hK _ _ ⟨_, _, rfl, ?_⟩ ((Frm.refl _ _).alloc _))
                          exact (Sl.blk w1 #[.int .i64 st.cancel] 3 (n := 1) (xs := ivs [st.cancel]) rfl ⟨rfl, by decide⟩).mono fun q hq => by rw [hq]; unfold InW; rw [World.size_alloc]; omega
                        refine steps_cons 21 rfl ?_ ?_
                        · intro f w1 A ρ hρ hG hd hu hA K hK
                          obtain ⟨A6, c6, e5, hs⟩ := hd 20 (by kernel_rfl)
                          have e0 : ρ (.tmp 137) = f 20 := (hA 137).trans (show (puts _ f _ _).eval (.tmp 137) = f 20 from by kernel_rfl)
                          rw [e5] at e0 hs
                          have hj := rowR_any (bs "cancel") (InW w1) A6 1 c6 [st.cancel] w1 hs (fun x hx => by rw [List.mem_singleton.1 hx]; exact HNr.out.2.1) (by decide) (by simp)
                          rw [show ba (bs "cancel") = { data := #[99, 97, 110, 99, 101, 108] } by decide, ← HR.out.2.1] at hj
                          refine fx_call hρ rfl _ _ _ rfl (by simp [e0, hρ.c]) (Tryz.call31 _ _) hj ?_
                          rintro e w2 ⟨rfl, rfl⟩
                          exact ⟨_, rfl, hK _ _ rfl (Frm.refl _ _)⟩
                        refine steps_cons 22 rfl ?_ ?_
                        · intro f w1 A ρ hρ hG hd hu hA K hK
                          have e1 : ρ (.tmp 134) = .string (ba X1) := (hA 134).trans ((show (puts _ f _ _).eval (.tmp 134) = f 17 from by kernel_rfl).trans (hd 17 (by kernel_rfl)))
                          have e2 : ρ (.tmp 138) = .string (ba R2) := (hA 138).trans ((show (puts _ f _ _).eval (.tmp 138) = f 21 from by kernel_rfl).trans (hd 21 (by kernel_rfl)))
                          have c1 : ¬ (9223372036854775807 < (ba (X1)).size + (ba R2).size) := by have h1 := HY6.out; have h2 := HRl.out; have h3 := HXE.out; have h4 := congrArg List.length h3.1; have h5 := congrArg List.length h3.2.1; rw [List.length_append] at h4 h5; rw [ba_size, ba_size]; omega
                          have c2 : ba (X1) ++ ba R2 = ba X2 := by rw [HXE.out.2.1]; exact ba_app _ _
                          refine fx_val hρ rfl (v := .string (ba X2)) (w' := w1) (by simp [execOp, go_sem, e1, e2, c1, c2]) (hK _ _ rfl (Frm.refl _ _))
                        refine steps_cons 23 rfl ?_ ?_
                        · intro f w1 A ρ hρ hG hd hu hA K hK
                          have e1 : ρ (.tmp 4) = .pointer (some ⟨e, 0, none⟩) := (hA 4).trans (by kernel_rfl)
                          refine fx_val hρ rfl (v := .pointer (some ⟨e, 15, none⟩)) (w' := w1) (by simp [execOp, go_sem, e1]) (hK _ _ rfl (Frm.refl _ _))
                        refine steps_cons 24 rfl ?_ ?_
                        · intro f w1 A ρ hρ hG hd hu hA K hK
                          have e1 : ρ (.tmp 140) = .pointer (some ⟨e, 15, none⟩) := (hA 140).trans ((show (puts _ f _ _).eval (.tmp 140) = f 23 from by kernel_rfl).trans (hd 23 (by kernel_rfl)))
                          have c1 : w1.cell? ⟨e, 15, none⟩ = some (.int .i64 st.most) := hG.cell H5.out.2.2.2.2.1 id
                          refine fx_val hρ rfl (v := .int .i64 st.most) (w' := w1) (by simp [execOp, go_sem, e1, c1]) (hK _ _ rfl (Frm.refl _ _))
                        refine steps_cons 25 rfl ?_ ?_
                        · intro f w1 A ρ hρ hG hd hu hA K hK
                          have e1 : ρ (.tmp 141) = .int .i64 st.most := (hA 141).trans ((show (puts _ f _ _).eval (.tmp 141) = f 24 from by kernel_rfl).trans (hd 24 (by kernel_rfl)))
                          refine fx_val hρ rfl (v := .slice (some ⟨w1.heap.size, 0, none⟩) 1 1) (w' := w1.alloc (.cells #[.int .i64 st.most] 3)) (by simp [execOp, go_sem, e1]) (hK _ _ ⟨_, _, rfl, ?_⟩ ((Frm.refl _ _).alloc _))
                          exact (Sl.blk w1 #[.int .i64 st.most] 3 (n := 1) (xs := ivs [st.most]) rfl ⟨rfl, by decide⟩).mono fun q hq => by rw [hq]; unfold InW; rw [World.size_alloc]; omega
                        refine steps_cons 26 rfl ?_ ?_
                        · intro f w1 A ρ hρ hG hd hu hA K hK
                          obtain ⟨A6, c6, e5, hs⟩ := hd 25 (by kernel_rfl)
                          have e0 : ρ (.tmp 142) = f 25 := (hA 142).trans (show (puts _ f _ _).eval (.tmp 142) = f 25 from by kernel_rfl)
                          rw [e5] at e0 hs
                          have hj := rowR_any (bs "most") (InW w1) A6 1 c6 [st.most] w1 hs (fun x hx => by rw [List.mem_singleton.1 hx]; exact HNr.out.2.2) (by decide) (by simp)
                          rw [show ba (bs "most") = { data := #[109, 111, 115, 116] } by decide, ← HR.out.2.2] at hj
                          refine fx_call hρ rfl _ _ _ rfl (by simp [e0, hρ.c]) (Tryz.call31 _ _) hj ?_
                          rintro e w2 ⟨rfl, rfl⟩
                          exact ⟨_, rfl, hK _ _ rfl (Frm.refl _ _)⟩
                        refine steps_cons 27 rfl ?_ ?_
                        · intro f w1 A ρ hρ hG hd hu hA K hK
                          have e1 : ρ (.tmp 139) = .string (ba X2) := (hA 139).trans ((show (puts _ f _ _).eval (.tmp 139) = f 22 from by kernel_rfl).trans (hd 22 (by kernel_rfl)))
                          have e2 : ρ (.tmp 143) = .string (ba R3) := (hA 143).trans ((show (puts _ f _ _).eval (.tmp 143) = f 26 from by kernel_rfl).trans (hd 26 (by kernel_rfl)))
                          have c1 : ¬ (9223372036854775807 < (ba (X2)).size + (ba R3).size) := by have h1 := HY6.out; have h2 := HRl.out; have h3 := HXE.out; have h4 := congrArg List.length h3.1; have h5 := congrArg List.length h3.2.1; rw [List.length_append] at h4 h5; rw [ba_size, ba_size]; omega
                          have c2 : ba (X2) ++ ba R3 = ba X3 := by rw [HXE.out.2.2]; exact ba_app _ _
                          refine fx_val hρ rfl (v := .string (ba X3)) (w' := w1) (by simp [execOp, go_sem, e1, e2, c1, c2]) (hK _ _ rfl (Frm.refl _ _))
                        exact steps_nil
                      case fin =>
                        intro f w1 hG hV
                        have h27 : f 27 = .string (ba X3) := hV 27 rfl
                        simp only [puts, dstOf, List.getElem?_cons_succ, List.getElem?_cons_zero, Option.bind_some, Act.put, List.setIfInBounds_toArray, List.set_cons_succ, List.set_cons_zero, h27]
                        have HG := Lib.hid (HW5.out.trans' hG)
                        clear hV hG h27
                        refine plan_one 28 (by kernel_rfl) rfl ?_
                        intro K hK
                        go_wp2_with fail
                        refine plan_done (by kernel_rfl) ?_
                        obtain ⟨nx, hnx⟩ : ∃ n, n = X3.length := ⟨_, rfl⟩
                        have hsx : (ba X3).size = nx := by rw [hnx]; rfl
                        have Hnx := Lib.hid hnx
                        clear hnx
                        by_cases hbig : 65536 < nx
                        · have d1 : decide ((nx : Int) > 65536) = true := decide_eq_true (by omega)
                          have HGr := Lib.hid (show greatB (textP st) = true by rw [← HXt.out]; unfold greatB; refine decide_eq_true (.inl ?_); have := Hnx.out; unfold maxText; omega)
                          clear hbig
                          go_wp2_with fail
                          go_ret2
                          exact print_great HK.out.2 HGr.out HG.out
                        · have d1 : decide ((nx : Int) > 65536) = false := decide_eq_false (by omega)
                          have hln := linesR_any X3 w1 (by have := Hnx.out; omega)
                          go_wp2_with fail
                          refine hln.mono ?_
                          rintro e' w6 ⟨A6, c6, rfl, -, hF⟩
                          have HG6 := Lib.hid (HG.out.trans' hF)
                          obtain ⟨nn, hnn⟩ : ∃ n, n = (linesB X3).length := ⟨_, rfl⟩
                          rw [← hnn]
                          clear hF hln
                          by_cases hbl : 1000 < nn
                          · have d2 : decide ((nn : Int) > 1000) = true := decide_eq_true (by omega)
                            have HGr := Lib.hid (show greatB (textP st) = true by rw [← HXt.out]; unfold greatB; refine decide_eq_true (.inr ?_); unfold maxLines; omega)
                            clear hbl hnn hbig
                            go_wp2_with fail
                            go_ret2
                            exact print_great HK.out.2 HGr.out HG6.out
                          · have d2 : decide ((nn : Int) > 1000) = false := decide_eq_false (by omega)
                            have HGr := Lib.hid (show greatB (textP st) = false by rw [← HXt.out]; unfold greatB; refine decide_eq_false ?_; unfold maxLines maxText; have := Hnx.out; omega)
                            clear hbl hnn hbig
                            go_wp2_with fail
                            go_ret2
                            rw [HXt.out]
                            exact print_yes HK.out.2 HGr.out HG6.out
end Go.Proofs.YtpcdbkaeijhmfaaGreatDoor
