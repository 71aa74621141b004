/- The document's script: says. -/
import Derived.Test.YtpcdbkaeijhmfaaGreatDoorGK
namespace Go.Proofs.YtpcdbkaeijhmfaaGreatDoor
set_option maxRecDepth 100000
set_option linter.unusedVariables false
set_option linter.unusedSimpArgs false
open Go.RowKit
attribute [local go_sem] Oper.semAt_some
theorem wordsR_all : ∀ (n : Nat) (l : By), l.length ≤ n → (∀ x ∈ wordsR l, x ≠ [] ∧ x.length ≤ l.length) ∧ (wordsR l).length ≤ l.length
  | n, l, hn => by
    cases h : l.dropWhile (· == 32) with
    | nil => rw [wordsR_nil h]; simp
    | cons c r =>
      have hl : (c :: r).length ≤ l.length := by rw [← h]; exact (List.dropWhile_sublist _).length_le
      cases n with
      | zero => simp only [List.length_cons] at hl; omega
      | succ n =>
        have hd : ((c :: r).drop (max 1 (endR false (c :: r)))).length + 1 ≤ l.length := by rw [List.length_drop]; simp only [List.length_cons] at hl ⊢; omega
        obtain ⟨h1, h2⟩ := wordsR_all n ((c :: r).drop (max 1 (endR false (c :: r)))) (by omega)
        rw [wordsR_cons h]
        refine ⟨fun x hx => ?_, by rw [List.length_cons]; omega⟩
        rcases List.mem_cons.1 hx with rfl | hx
        · obtain ⟨m, hm⟩ : ∃ m, max 1 (endR false (c :: r)) = m + 1 := ⟨max 1 (endR false (c :: r)) - 1, by omega⟩
          rw [hm, List.take_succ_cons]
          refine ⟨by simp, ?_⟩
          have : (r.take m).length ≤ r.length := by rw [List.length_take]; omega
          simp only [List.length_cons] at hl ⊢
          omega
        · exact ⟨(h1 x hx).1, by have := (h1 x hx).2; omega⟩
theorem Lsts.not4 {w : World} {B q : Nat} {st : St} {wv rv av pv : Value} {t : TypeId} {cs : Array Value} (h : Lsts w B st wv rv av pv) (hb : Blk w q t cs) (h1 : 34 ≠ t) (h2 : 4 ≠ t) (h3 : 3 ≠ t) : ¬ Own4 wv rv av pv q := by
  rintro (h4 | h4 | h4 | h4)
  · obtain ⟨vs, k1, -⟩ := h.words; exact own_blk_ne k1 hb h1 h4
  · obtain ⟨vs, k1, -⟩ := h.reads; exact own_blk_ne k1 hb h1 h4
  · exact own_blk_ne h.answers hb h2 h4
  · exact own_blk_ne h.picks hb h3 h4
theorem SayPost.lay {B q : Nat} {o : Option St} {wv rv av pv : Value} {w w2 w3 : World} {C' cs : Array Value} (hF : Frm (fun _ => False) w w2) (hs : C'.size = 18) (h1 : C'.all (·.oneCell') = true) (hF' : Frm (Own4 wv rv av pv) w2 w3) (hy : ∀ st', o = some st' → ∃ wv' rv' av' pv', C' = stCells st' wv' rv' av' pv' ∧ Lsts w3 B st' wv' rv' av' pv') (hq : w.heap.size ≤ q) (hb : Blk w3 q 33 cs) : SayPost B o wv rv av pv w (.returned (.tuple #[.agg C', .bool o.isSome])) (w3.setRow q C') := by
  refine ⟨C', rfl, hs, h1, frm_set ((hF.mono fun _ h => h.elim).trans' hF') hq, fun st' h => ?_⟩
  obtain ⟨a1, a2, a3, a4, e, hl⟩ := hy st' h
  exact ⟨a1, a2, a3, a4, e, hl.setStory hb⟩
theorem sl_own {w : World} {B n : Nat} {t : TypeId} {v : Value} {xs : List Value} (h : w.ownsRow B t 1 v n xs) : Sl w (fun q => q < w.heap.size ∧ ∃ cs, Blk w q t cs) v xs := by
  have h1 := h.1
  rw [Nat.mul_one] at h1
  obtain ⟨A, c, rfl, hn, hc⟩ := own_form h
  refine ⟨A, n, c, rfl, h1.symm, hn, hc, ?_⟩
  rcases Nat.eq_zero_or_pos n with h0 | h0
  · exact .inl h0
  · obtain ⟨g, rfl, -⟩ := own_at h 0 (by omega)
    refine .inr ⟨g, 0, rfl, ⟨(h.lt g rfl).2, own_blk h g rfl⟩, fun i hi => ?_⟩
    obtain ⟨g', hg', hc⟩ := own_at h i hi
    cases hg'
    rw [Nat.zero_add]
    exact hc
theorem push_pick {w w3 : World} {B N : Nat} {st : St} {wv rv av pv v' : Value} {ns : List Int} (hL : Lsts w B st wv rv av pv) (hF : Frm (fun q => pv.ownBlock = some q) w w3) (ho : w3.ownsRow B 3 1 v' N (ivs st.picks ++ ivs ns)) (hN : N = st.picks.length + ns.length) : Lsts w3 B { st with picks := st.picks ++ ns } wv rv av v' := by
  have hna : ∀ q cs, Blk w q 5 cs → ¬ pv.ownBlock = some q := fun q cs hc hk => own_blk_ne hL.picks hc (by decide) hk
  have hw3 := hL.words.kept hF (fun q hq hk => by obtain ⟨vs, k1, -⟩ := hL.words; exact own_apart k1 hL.picks (by decide) hk hq) hna
  have hr3 := hL.reads.kept hF (fun q hq hk => by obtain ⟨vs, k1, -⟩ := hL.reads; exact own_apart k1 hL.picks (by decide) hk hq) hna
  have ha3 := hF.own hL.answers fun q hq hk => own_apart hL.answers hL.picks (by decide) hk hq
  subst hN
  exact ⟨hw3, hr3, ha3, by simpa [ivs] using ho, hL.apart⟩
theorem Frm.own4 {wv rv av pv : Value} {w w' : World} (h : Frm (fun _ => False) w w') : Frm (Own4 wv rv av pv) w w' := h.mono fun _ h => h.elim
set_option maxHeartbeats 16000000 in
theorem saysR_any (B : Nat) (st : St) (wv rv av pv : Value) (line : By) (w : World) (hL : Lsts w B st wv rv av pv) (hB : B ≤ w.heap.size) (hm : totS st + line.length ≤ 1000000) :
    Calls Tryz.prog 19 #[.agg (stCells st wv rv av pv), .string (ba line)] w (SayPost B (sayW st (wordsR line)) wv rv av pv w) := by
  obtain ⟨o, ho⟩ : ∃ o, o = sayW st (wordsR line) := ⟨_, rfl⟩
  rw [← ho]
  have HM := Lib.hid (And.intro hB (And.intro hm ho))
  clear hB hm ho
  have hL0 := hL.oneC
  obtain ⟨C, hC⟩ : ∃ C, C = stCells st wv rv av pv := ⟨_, rfl⟩
  rw [← hC] at hL0 ⊢
  have HC := Lib.hid (And.intro hC (And.intro hL0.2 hL0.1))
  have HB0 := Lib.hid (show Blk ((w.alloc (.cells C 33)).alloc (.cells zeroC 33)) w.heap.size 33 C ∧ Blk ((w.alloc (.cells C 33)).alloc (.cells zeroC 33)) (w.heap.size + 1) 33 zeroC ∧ Frm (fun _ => False) w ((w.alloc (.cells C 33)).alloc (.cells zeroC 33)) from
    ⟨(Blk.new w 33 C).alloc _, by have h := Blk.new (w.alloc (.cells C 33)) 33 zeroC; rw [World.size_alloc] at h; exact h, ((Frm.refl _ w).alloc _).alloc _⟩)
  have H := Lib.hid hL
  clear hL hC hL0
  go_enter Tryz.func19, Tryz.ntmps19
  go_upto_region 1 with fail
  rw [show (#[.bool false, .slice none 0 0, .int .i64 0, .int .i64 0, .int .i64 0, .int .i64 0, .int .i64 0, .int .i64 0, .int .i64 0, .bool false, .slice none 0 0, .slice none 0 0, .slice none 0 0, .int .u8 0, .int .u32 0, .int .i64 0, .int .i64 0, .int .i64 0] : Array Value) = zeroC from rfl]
  obtain ⟨b, hb⟩ : ∃ b, b = w.heap.size := ⟨_, rfl⟩
  have HB := HB0
  rw [← hb] at HB ⊢
  clear HB0
  generalize (w.alloc (.cells C 33)).alloc (.cells zeroC 33) = w1 at *
  have Hb := Lib.hid hb
  clear hb
  go_wp2_with fail
  refine (wordsR_any line w1 (by have := HM.out.2.1; omega)).mono ?_
  rintro e w2 ⟨A, c, rfl, hown, hF⟩
  obtain ⟨ws, hws⟩ : ∃ ws, ws = wordsR line := ⟨_, rfl⟩
  rw [← hws] at hown ⊢
  obtain ⟨n, hn⟩ : ∃ n, n = ws.length := ⟨_, rfl⟩
  rw [← hn] at hown ⊢
  have HW := Lib.hid (show Blk w2 b 33 C ∧ Blk w2 (b + 1) 33 zeroC ∧ Frm (fun _ => False) w w2 ∧ w2.ownsRow w1.heap.size 9 1 (.slice A n c) n (svb ws) ∧ o = sayW st ws ∧ n = ws.length from ⟨HB.out.1.kept hF id, HB.out.2.1.kept hF id, HB.out.2.2.trans' hF, hown, by rw [hws]; exact HM.out.2.2, hn⟩)
  have Hws := Lib.hid hws
  clear hown hF hws hn HB
  cases ws with
  | nil =>
    have hn0 : n = 0 := HW.out.2.2.2.2.2
    subst hn0
    have Ho := Lib.hid (show o = some st from HW.out.2.2.2.2.1)
    go_wp2_with (first | (refine wpList_loadT (by rfl) 33 (.tmp 2) (by rfl) b (by rfl) C _ _ HW.out.1 Tryz.underlying33 (by rfl) (by rw [HC.out.2.1]; exact st_info) ?_) | (refine wpList_store_rowT rfl 33 (.tmp 4) (.tmp 22) rfl rfl (b + 1) C rfl rfl _ _ HW.out.2.1 (by rw [HC.out.2.1]; exact st_info) (by rw [HC.out.2.1]; rfl) HC.out.2.2 ?_))
    refine bodyPost_ret (say_ret rfl rfl (Blk.setRow HW.out.2.1 _) HC.out.2.1 rfl) rfl ?_
    rw [HC.out.1]
    exact SayPost.yes Ho.out (frm_set HW.out.2.2.1.own4 (by have := Hb.out; omega)) ((H.out.keptF HW.out.2.2.1).setStory HW.out.2.1)
  | cons x r =>
    obtain ⟨k, rfl⟩ : ∃ k, n = k + 1 := ⟨r.length, HW.out.2.2.2.2.2⟩
    obtain ⟨g, rfl, hc0⟩ := own_at HW.out.2.2.2.1 0 (by simp)
    have c0 : w2.cell? ⟨g, 0, none⟩ = some (.string (ba x)) := hc0
    clear hc0
    have hall := wordsR_all line.length line (Nat.le_refl _)
    rw [← Hws.out] at hall
    obtain ⟨hx0, hxl⟩ := hall.1 x (List.mem_cons_self ..)
    obtain ⟨ch, xr, hxc⟩ := List.exists_cons_of_ne_nil hx0
    have hch : ∀ w, (Instr.index 9 (.string (ba x)) (.int .i64 0)).run Tryz.prog w = .ok (.int .u8 ch.toNat) w := run_at (P := Tryz.prog) Tryz.underlying9 x 0 ch (by rw [hxc]; rfl)
    have hn0 : ((k : Int) + 1 == 0) = false := by simp; omega
    have HA := Lib.hid (And.intro hall (And.intro hxl (show k = r.length from by have := HW.out.2.2.2.2.2; simp at this; omega)))
    have HX := Lib.hid hxc
    clear hall hx0 hxl hxc
    by_cases h35 : ch = 35
    · have g35 : ((ch.toNat : Int) == 35) = true := by rw [h35]; rfl
      have Ho := Lib.hid (show o = some st by rw [HW.out.2.2.2.2.1]; unfold sayW; simp only; rw [if_pos (by rw [HX.out, h35]; rfl)])
      clear h35
      go_wp2_with (first | (refine wpList_loadT (by rfl) 33 (.tmp 2) (by rfl) b (by rfl) C _ _ HW.out.1 Tryz.underlying33 (by rfl) (by rw [HC.out.2.1]; exact st_info) ?_) | (refine wpList_store_rowT rfl 33 (.tmp 4) (.tmp 22) rfl rfl (b + 1) C rfl rfl _ _ HW.out.2.1 (by rw [HC.out.2.1]; exact st_info) (by rw [HC.out.2.1]; rfl) HC.out.2.2 ?_))
      refine bodyPost_ret (say_ret rfl rfl (Blk.setRow HW.out.2.1 _) HC.out.2.1 rfl) rfl ?_
      rw [HC.out.1]
      exact SayPost.yes Ho.out (frm_set HW.out.2.2.1.own4 (by have := Hb.out; omega)) ((H.out.keptF HW.out.2.2.1).setStory HW.out.2.1)
    · have g35 : ((ch.toNat : Int) == 35) = false := by
        simp only [beq_eq_false_iff_ne, ne_eq]
        intro h
        exact h35 (UInt8.toNat_inj.1 (show ch.toNat = 35 by omega))
      have Ho := Lib.hid (show o = if x = bs "fold" then (if r = [] then some { st with fold := true } else none)
          else if x = bs "broken" then (if r = [] then some { st with broken := true } else none)
          else if x = bs "word" then wordB st r
          else if x = bs "read" then readB st r
          else if x = bs "answers" then (if r = [] then none else answB st r)
          else if x = bs "plan" then planB st r
          else (numsB r).bind (countsB st x) by
        rw [HW.out.2.2.2.2.1]
        unfold sayW
        simp only
        rw [if_neg (by rw [HX.out]; simpa using h35)])
      clear h35
      obtain ⟨A1, hA1⟩ : ∃ A1, A1 = if c = 1 then (some ⟨g, 0, none⟩ : Option Addr) else (some ⟨g, 0, none⟩ : Option Addr).map (·.add 1) := ⟨_, rfl⟩
      have hdr : ∀ w, (Instr.slice 46 (.slice (some ⟨g, 0, none⟩) (k + 1) c) (some (.int .i64 1)) none none).run Tryz.prog w = .ok (.slice A1 k (c - 1)) w := fun w => by rw [hA1]; exact run_dropS (some ⟨g, 0, none⟩) (k + 1) c (by omega) w
      have HR := Lib.hid (show SAt w2 (fun q => q < w2.heap.size ∧ ∃ cs, Blk w2 q 9 cs) A1 k (c - 1) r from by
        rw [hA1]
        have h1 : SAt w2 (fun q => q < w2.heap.size ∧ ∃ cs, Blk w2 q 9 cs) (some ⟨g, 0, none⟩) (k + 1) c (x :: r) := ⟨by
          obtain ⟨A', n', c', e, h2, h3⟩ := sl_own HW.out.2.2.2.1
          exact ⟨A', n', c', e, h2, h3⟩, fun y hy => Nat.le_trans (HA.out.1.1 y hy).2 (by have := HM.out.2.1; omega)⟩
        exact h1.tail)
      clear hA1
      go_upto_region 6 with fail
      clear hdr g35 hn0 c0 hch
      have hr9 : r.length ≤ 1000000 := by have h1 : r.length + 1 ≤ line.length := HA.out.1.2; have := HM.out.2.1; omega
      have HL2 := Lib.hid (And.intro (H.out.keptF HW.out.2.2.1) (Nat.le_trans HM.out.1 HW.out.2.2.1.size))
      have hkq : ((k : Int) == 0) = decide (r = []) := by rw [HA.out.2.2]; cases r <;> simp <;> omega
      by_cases hx : x = [102, 111, 108, 100]
      · have g0 := str_ne x [102, 111, 108, 100]
        rw [decide_eq_true hx] at g0
        have Ho2 := Lib.hid (show o = if r = [] then some { st with fold := true } else none by rw [Ho.out, if_pos (by rw [hx]; decide)])
        clear hx
        generalize ba x = S at *
        have hb2 := HW.out.1
        have cf : w2.cell? ⟨b, 0, none⟩ = some (.bool st.fold) := by rw [hb2.cell, HC.out.1]; rfl
        have ff := hb2.frozen 0
        clear hb2
        go_upto_region 8 with fail
        have hb3 := HW.out.1.set_ 0 (.bool true)
        have hr3 := HW.out.2.1.far (p := ⟨b, 0, none⟩) (by show b + 1 ≠ b; omega) (.bool true)
        have hl3 := HL2.out.1.setC (i := 0) (u := .bool true) HW.out.1
        have hbw := Hb.out
        have hf3 := HW.out.2.2.1.setCell ⟨b, 0, none⟩ (.inr (by show w.heap.size ≤ b; omega)) (.bool true)
        obtain ⟨C1, hC1⟩ : ∃ C1, C1 = stCells { st with fold := true } wv rv av pv := ⟨_, rfl⟩
        rw [show C.setIfInBounds 0 (.bool true) = C1 by rw [hC1, HC.out.1]; rfl] at hb3
        generalize w2.setCell ⟨b, 0, none⟩ (.bool true) = w3 at *
        have HC1 := Lib.hid (And.intro hC1 (show C1.size = 18 ∧ C1.all (·.oneCell') = true by rw [hC1]; exact ⟨rfl, (hl3.same (st' := { st with fold := true }) rfl rfl rfl rfl).one⟩))
        have H3 := Lib.hid (And.intro hb3 (And.intro hr3 (And.intro hf3 hl3)))
        clear hb3 hr3 hl3 hbw hf3 hC1 cf ff
        go_wp2_with (first | (refine wpList_loadT (by rfl) 33 (.tmp 2) (by rfl) b (by rfl) C1 _ _ H3.out.1 Tryz.underlying33 (by rfl) (by rw [HC1.out.2.1]; exact st_info) ?_) | (refine wpList_store_rowT rfl 33 (.tmp 4) (.tmp 31) rfl rfl (b + 1) C1 rfl rfl _ _ H3.out.2.1 (by rw [HC1.out.2.1]; exact st_info) (by rw [HC1.out.2.1]; rfl) HC1.out.2.2 ?_))
        refine bodyPost_ret (say_ret (y := decide (r = [])) rfl rfl (Blk.setRow H3.out.2.1 _) HC1.out.2.1 (by first | rfl | (rw [← hkq]; rfl))) rfl ?_
        by_cases hr0 : r = []
        · rw [decide_eq_true hr0, HC1.out.1]
          exact SayPost.yes (st' := { st with fold := true }) (by rw [Ho2.out, if_pos hr0]) (frm_set H3.out.2.2.1.own4 (by have := Hb.out; omega)) ((H3.out.2.2.2.same (st' := { st with fold := true }) rfl rfl rfl rfl).setStory H3.out.2.1)
        · rw [decide_eq_false hr0]
          exact SayPost.no (by rw [Ho2.out, if_neg hr0]) HC1.out.2.1 HC1.out.2.2 (frm_set H3.out.2.2.1.own4 (by have := Hb.out; omega))
      · have Hn0 := Lib.hid hx
        clear hx
        by_cases hx : x = [98, 114, 111, 107, 101, 110]
        · have g0 := str_ne x [102, 111, 108, 100]
          have g1 := str_ne x [98, 114, 111, 107, 101, 110]
          rw [decide_eq_false (by rw [hx]; decide)] at g0
          rw [decide_eq_true hx] at g1
          have Ho2 := Lib.hid (show o = if r = [] then some { st with broken := true } else none by rw [Ho.out, if_neg (by rw [hx]; decide), if_pos (by rw [hx]; decide)])
          clear hx
          generalize ba x = S at *
          have hb2 := HW.out.1
          have cf : w2.cell? ⟨b, 9, none⟩ = some (.bool st.broken) := by rw [hb2.cell, HC.out.1]; rfl
          have ff := hb2.frozen 9
          clear hb2
          go_upto_region 11 with fail
          have hb3 := HW.out.1.set_ 9 (.bool true)
          have hr3 := HW.out.2.1.far (p := ⟨b, 9, none⟩) (by show b + 1 ≠ b; omega) (.bool true)
          have hl3 := HL2.out.1.setC (i := 9) (u := .bool true) HW.out.1
          have hbw := Hb.out
          have hf3 := HW.out.2.2.1.setCell ⟨b, 9, none⟩ (.inr (by show w.heap.size ≤ b; omega)) (.bool true)
          obtain ⟨C1, hC1⟩ : ∃ C1, C1 = stCells { st with broken := true } wv rv av pv := ⟨_, rfl⟩
          rw [show C.setIfInBounds 9 (.bool true) = C1 by rw [hC1, HC.out.1]; rfl] at hb3
          generalize w2.setCell ⟨b, 9, none⟩ (.bool true) = w3 at *
          have HC1 := Lib.hid (And.intro hC1 (show C1.size = 18 ∧ C1.all (·.oneCell') = true by rw [hC1]; exact ⟨rfl, (hl3.same (st' := { st with broken := true }) rfl rfl rfl rfl).one⟩))
          have H3 := Lib.hid (And.intro hb3 (And.intro hr3 (And.intro hf3 hl3)))
          clear hb3 hr3 hl3 hbw hf3 hC1 cf ff
          go_wp2_with (first | (refine wpList_loadT (by rfl) 33 (.tmp 2) (by rfl) b (by rfl) C1 _ _ H3.out.1 Tryz.underlying33 (by rfl) (by rw [HC1.out.2.1]; exact st_info) ?_) | (refine wpList_store_rowT rfl 33 (.tmp 4) (.tmp 39) rfl rfl (b + 1) C1 rfl rfl _ _ H3.out.2.1 (by rw [HC1.out.2.1]; exact st_info) (by rw [HC1.out.2.1]; rfl) HC1.out.2.2 ?_))
          refine bodyPost_ret (say_ret (y := decide (r = [])) rfl rfl (Blk.setRow H3.out.2.1 _) HC1.out.2.1 (by first | rfl | (rw [← hkq]; rfl))) rfl ?_
          by_cases hr0 : r = []
          · rw [decide_eq_true hr0, HC1.out.1]
            exact SayPost.yes (st' := { st with broken := true }) (by rw [Ho2.out, if_pos hr0]) (frm_set H3.out.2.2.1.own4 (by have := Hb.out; omega)) ((H3.out.2.2.2.same (st' := { st with broken := true }) rfl rfl rfl rfl).setStory H3.out.2.1)
          · rw [decide_eq_false hr0]
            exact SayPost.no (by rw [Ho2.out, if_neg hr0]) HC1.out.2.1 HC1.out.2.2 (frm_set H3.out.2.2.1.own4 (by have := Hb.out; omega))
        · have Hn1 := Lib.hid hx
          clear hx
          by_cases hx : x = [97, 110, 115, 119, 101, 114, 115]
          · have g0 := str_ne x [102, 111, 108, 100]
            have g1 := str_ne x [98, 114, 111, 107, 101, 110]
            have g2 := str_ne x [119, 111, 114, 100]
            have g3 := str_ne x [114, 101, 97, 100]
            have g4 := str_ne x [97, 110, 115, 119, 101, 114, 115]
            rw [decide_eq_false (by rw [hx]; decide)] at g0
            rw [decide_eq_false (by rw [hx]; decide)] at g1
            rw [decide_eq_false (by rw [hx]; decide)] at g2
            rw [decide_eq_false (by rw [hx]; decide)] at g3
            rw [decide_eq_true hx] at g4
            have Ho2 := Lib.hid (show o = if r = [] then none else answB st r by rw [Ho.out, if_neg (by rw [hx]; decide), if_neg (by rw [hx]; decide), if_neg (by rw [hx]; decide), if_neg (by rw [hx]; decide), if_pos (by rw [hx]; decide)])
            clear hx
            generalize ba x = S at *
            have hq := answersR_any B st wv rv av pv (fun q => q < w2.heap.size ∧ ∃ cs, Blk w2 q 9 cs) A1 k (c - 1) r w2 HL2.out.1 HR.out (fun q h => h.1) (fun q h => h.2.elim fun cs hb => HL2.out.1.not4 hb (by decide) (by decide) (by decide)) HL2.out.2 (by have h1 : r.length + 1 ≤ line.length := HA.out.1.2; have := HM.out.2.1; unfold totS at this; omega)
            rw [← Ho2.out, ← HC.out.1] at hq
            have Hq := Lib.hid hq
            clear hq
            go_wp2_with (refine wpList_loadT (by rfl) 33 (.tmp 2) (by rfl) b (by rfl) C _ _ HW.out.1 Tryz.underlying33 (by rfl) (by rw [HC.out.2.1]; exact st_info) ?_)
            refine Hq.out.mono ?_
            rintro e w3 ⟨C', rfl, hs', h1', hF', hy'⟩
            have HP := Lib.hid (And.intro hs' (And.intro h1' (And.intro hF' hy')))
            have HR3 := Lib.hid (HW.out.2.1.kept hF' (HL2.out.1.not4 HW.out.2.1 (by decide) (by decide) (by decide)))
            clear hs' h1' hF' hy'
            go_wp2_with (refine wpList_store_rowT rfl 33 (.tmp 4) (.tmp 59) rfl rfl (b + 1) C' rfl rfl _ _ HR3.out (by rw [HP.out.1]; exact st_info) (by rw [HP.out.1]; rfl) HP.out.2.1 ?_)
            refine bodyPost_ret (say_ret rfl rfl (Blk.setRow HR3.out _) HP.out.1 rfl) rfl ?_
            exact SayPost.lay HW.out.2.2.1 HP.out.1 HP.out.2.1 HP.out.2.2.1 HP.out.2.2.2 (by have := Hb.out; omega) HR3.out
          · have Hn4 := Lib.hid hx
            clear hx
            by_cases hx : x = [112, 108, 97, 110]
            · have g0 := str_ne x [102, 111, 108, 100]
              have g1 := str_ne x [98, 114, 111, 107, 101, 110]
              have g2 := str_ne x [119, 111, 114, 100]
              have g3 := str_ne x [114, 101, 97, 100]
              have g4 := str_ne x [97, 110, 115, 119, 101, 114, 115]
              have g5 := str_ne x [112, 108, 97, 110]
              rw [decide_eq_false (by rw [hx]; decide)] at g0
              rw [decide_eq_false (by rw [hx]; decide)] at g1
              rw [decide_eq_false (by rw [hx]; decide)] at g2
              rw [decide_eq_false (by rw [hx]; decide)] at g3
              rw [decide_eq_false (by rw [hx]; decide)] at g4
              rw [decide_eq_true hx] at g5
              have Ho2 := Lib.hid (show o = planB st r by rw [Ho.out, if_neg (by rw [hx]; decide), if_neg (by rw [hx]; decide), if_neg (by rw [hx]; decide), if_neg (by rw [hx]; decide), if_neg (by rw [hx]; decide), if_pos (by rw [hx]; decide)])
              clear hx
              generalize ba x = S at *
              have hq := planR_any B st wv rv av pv (fun q => q < w2.heap.size ∧ ∃ cs, Blk w2 q 9 cs) A1 k (c - 1) r w2 HL2.out.1 HR.out (fun q h => h.1)
              rw [← Ho2.out, ← HC.out.1] at hq
              have Hq := Lib.hid hq
              clear hq
              go_wp2_with (refine wpList_loadT (by rfl) 33 (.tmp 2) (by rfl) b (by rfl) C _ _ HW.out.1 Tryz.underlying33 (by rfl) (by rw [HC.out.2.1]; exact st_info) ?_)
              refine Hq.out.mono ?_
              rintro e w3 ⟨C', rfl, hs', h1', hF', hy'⟩
              have HP := Lib.hid (And.intro hs' (And.intro h1' (And.intro hF' hy')))
              have HR3 := Lib.hid (HW.out.2.1.kept hF' (HL2.out.1.not4 HW.out.2.1 (by decide) (by decide) (by decide)))
              clear hs' h1' hF' hy'
              go_wp2_with (refine wpList_store_rowT rfl 33 (.tmp 4) (.tmp 66) rfl rfl (b + 1) C' rfl rfl _ _ HR3.out (by rw [HP.out.1]; exact st_info) (by rw [HP.out.1]; rfl) HP.out.2.1 ?_)
              refine bodyPost_ret (say_ret rfl rfl (Blk.setRow HR3.out _) HP.out.1 rfl) rfl ?_
              exact SayPost.lay HW.out.2.2.1 HP.out.1 HP.out.2.1 HP.out.2.2.1 HP.out.2.2.2 (by have := Hb.out; omega) HR3.out
            · have Hn5 := Lib.hid hx
              clear hx
              by_cases hwr : x = [119, 111, 114, 100] ∨ x = [114, 101, 97, 100]
              · rcases hwr with hx | hx
                · have g0 := str_ne x [102, 111, 108, 100]
                  have g1 := str_ne x [98, 114, 111, 107, 101, 110]
                  have g2 := str_ne x [119, 111, 114, 100]
                  rw [decide_eq_false (by rw [hx]; decide)] at g0
                  rw [decide_eq_false (by rw [hx]; decide)] at g1
                  rw [decide_eq_true hx] at g2
                  have Ho2 := Lib.hid (show o = wordB st r by rw [Ho.out, if_neg (by rw [hx]; decide), if_neg (by rw [hx]; decide), if_pos (by rw [hx]; decide)])
                  have c0 : w2.cell? ⟨g, 0, none⟩ = some (.string { data := #[119, 111, 114, 100] }) := by
                    obtain ⟨g', hg', hc⟩ := own_at HW.out.2.2.2.1 0 (by simp)
                    cases hg'
                    have hc' : w2.cell? ⟨g, 0, none⟩ = some (.string (ba x)) := hc
                    rw [hc', hx]
                    rfl
                  clear hx
                  generalize ba x = S at *
                  go_upto_region 14 with fail
                  clear g0 g1 g2
                  refine plan_begin (by kernel_rfl) 10 (by kernel_rfl) ?_
                  obtain ⟨W, hW⟩ : ∃ W, W = w2.drew := ⟨_, rfl⟩
                  have HQ := Lib.hid (show Blk W b 33 C ∧ Blk W (b + 1) 33 zeroC ∧ Lsts W B st wv rv av pv ∧ SAt W (fun q => q < W.heap.size ∧ ∃ cs, Blk W q 9 cs) A1 k (c - 1) r ∧ Frm (fun _ => False) w W ∧ W.cell? ⟨g, 0, none⟩ = some (.string { data := #[119, 111, 114, 100] }) ∧ (∃ cs, Blk W g 9 cs) ∧ B ≤ W.heap.size from hW ▸ ⟨HW.out.1.drew, HW.out.2.1.drew, HL2.out.1.keptF (Frm.refl _ w2).drew, HR.out, HW.out.2.2.1.drew, c0, own_blk HW.out.2.2.2.1 g rfl, HL2.out.2⟩)
                  have HN4 := Lib.hid (show (¬ (Own4 wv rv av pv b ∨ b = b + 1)) ∧ (¬ (Own4 wv rv av pv g ∨ g = b + 1)) ∧ ¬ Own4 wv rv av pv (b + 1) from by
                    obtain ⟨cs, hcs⟩ := HQ.out.2.2.2.2.2.2.1
                    refine ⟨fun h => h.elim (HQ.out.2.2.1.not4 HQ.out.1 (by decide) (by decide) (by decide)) (by omega), fun h => h.elim (HQ.out.2.2.1.not4 hcs (by decide) (by decide) (by decide)) fun e => ?_, HQ.out.2.2.1.not4 HQ.out.2.1 (by decide) (by decide) (by decide)⟩
                    rw [e] at hcs
                    exact absurd rfl (hcs.ne_ HQ.out.2.1 (by decide)))
                  have HCq := Lib.hid (show ∀ w', Frm (fun _ => False) W w' → Calls Tryz.prog 49 #[.agg C, .string { data := #[119, 111, 114, 100] }, .slice A1 k (c - 1)] w' (SayPost B o wv rv av pv w') from fun w' hF => by
                    have h := wordR_any B st wv rv av pv (fun q => q < W.heap.size ∧ ∃ cs, Blk W q 9 cs) A1 k (c - 1) r w' (HQ.out.2.2.1.keptF hF) (HQ.out.2.2.2.1.keptTo fun q hq => ⟨hF.block q hq.1 id, hq⟩) (fun q hq => Nat.lt_of_lt_of_le hq.1 hF.size) (Nat.le_trans HQ.out.2.2.2.2.2.2.2 hF.size) (by have := HM.out.2.1; unfold totS at this; omega)
                    rw [← Ho2.out, ← HC.out.1] at h
                    exact h)
                  rw [← hW]
                  clear hW c0
                  refine plan_fxg [0, 1, 2, 3, 4, 5, 6, 7, 8, 9] (fun (j : Nat) (v : Value) (w : World) => (match j with | 0 => v = .agg C | 1 => v = .slice (some ⟨g, 0, none⟩) (k + 1) c | 2 => v = .pointer (some ⟨g, 0, none⟩) | 3 => v = .string { data := #[119, 111, 114, 100] } | 4 => v = .slice A1 k (c - 1) | 5 => True | 6 => True | 7 => True | 8 => True | 9 => True | _ => True : Prop)) (WG B o (Own4 wv rv av pv) W (b + 1)) (fun _ _ => True) #[true, true, true, true, true, true, true, true, true, true] 0 (by kernel_rfl) (by kernel_rfl) (by kernel_rfl) (by kernel_rfl) (by kernel_rfl) (by kernel_rfl) (by kernel_rfl) (by kernel_rfl) (fun f => ⟨Frm.refl _ _, fun _ => Frm.refl _ _, ⟨zeroC, rfl, HQ.out.2.1⟩, fun h => by rw [upTo_at] at h; simp at h, fun h => by rw [upTo_at] at h; simp at h, fun h => by rw [upTo_at] at h; simp at h, fun h => by rw [upTo_at] at h; simp at h, fun h => by rw [upTo_at] at h; simp at h, fun h => by rw [upTo_at] at h; simp at h, fun h => by rw [upTo_at] at h; simp at h⟩) ?hV ?steps ?fin
                  case hV =>
                    intro j v w1 w2 h hF
                    match j, h with
                    | 0, h => exact h
                    | 1, h => exact h
                    | 2, h => exact h
                    | 3, h => exact h
                    | 4, h => exact h
                    | 5, h => exact h
                    | 6, h => exact h
                    | 7, h => exact h
                    | 8, h => exact h
                    | 9, h => exact h
                    | _ + 10, _ => trivial
                  case steps =>
                    refine steps_cons 0 rfl ?_ ?_
                    · intro f L w1 A ρ hρ hG hL hLd hd hu hA K hK
                      have e1 : ρ (.tmp 2) = .pointer (some ⟨b, 0, none⟩) := (hA 2).trans (by kernel_rfl)
                      refine fx_val hρ rfl (v := .agg C) (w' := w1) (exec_load rfl e1 (run_loadAt_row w1 b 33 33 C _ (HQ.out.1.kept hG.fr HN4.out.1) Tryz.underlying33 rfl (by rw [HC.out.2.1]; exact st_info))) (hK _ _ rfl trivial (hG.keep (by decide) _))
                    refine steps_cons 1 rfl ?_ ?_
                    · intro f L w1 A ρ hρ hG hL hLd hd hu hA K hK
                      have e1 : ρ (.tmp 6) = .slice (some ⟨g, 0, none⟩) (k + 1) c := (hA 6).trans (by kernel_rfl)
                      refine fx_val hρ rfl (v := .slice (some ⟨g, 0, none⟩) (k + 1) c) (w' := w1) (by simp [execOp, go_sem, e1]) (hK _ _ rfl trivial (hG.keep (by decide) _))
                    refine steps_cons 2 rfl ?_ ?_
                    · intro f L w1 A ρ hρ hG hL hLd hd hu hA K hK
                      have e1 : ρ (.tmp 47) = .slice (some ⟨g, 0, none⟩) (k + 1) c := (hA 47).trans ((show (puts _ f _ _).eval (.tmp 47) = f 1 from by kernel_rfl).trans (hd 1 (by kernel_rfl)))
                      refine fx_val hρ rfl (v := .pointer (some ⟨g, 0, none⟩)) (w' := w1) (by simp [execOp, go_sem, e1, hρ.c, Addr.add]) (hK _ _ rfl trivial (hG.keep (by decide) _))
                    refine steps_cons 3 rfl ?_ ?_
                    · intro f L w1 A ρ hρ hG hL hLd hd hu hA K hK
                      have e1 : ρ (.tmp 48) = .pointer (some ⟨g, 0, none⟩) := (hA 48).trans ((show (puts _ f _ _).eval (.tmp 48) = f 2 from by kernel_rfl).trans (hd 2 (by kernel_rfl)))
                      have c1 := hG.fr.cell HQ.out.2.2.2.2.2.1 HN4.out.2.1
                      refine fx_val hρ rfl (v := .string { data := #[119, 111, 114, 100] }) (w' := w1) (by simp [execOp, go_sem, e1, c1]) (hK _ _ rfl trivial (hG.keep (by decide) _))
                    refine steps_cons 4 rfl ?_ ?_
                    · intro f L w1 A ρ hρ hG hL hLd hd hu hA K hK
                      have e1 : ρ (.tmp 7) = .slice A1 k (c - 1) := (hA 7).trans (by kernel_rfl)
                      refine fx_val hρ rfl (v := .slice A1 k (c - 1)) (w' := w1) (by simp [execOp, go_sem, e1]) (hK _ _ rfl trivial (hG.keep (by decide) _))
                    refine steps_cons 5 rfl ?_ ?_
                    · intro f L w1 A ρ hρ hG hL hLd hd hu hA K hK
                      have e1 : ρ (.tmp 46) = .agg C := (hA 46).trans ((show (puts _ f _ _).eval (.tmp 46) = f 0 from by kernel_rfl).trans (hd 0 (by kernel_rfl)))
                      have e2 : ρ (.tmp 49) = .string { data := #[119, 111, 114, 100] } := (hA 49).trans ((show (puts _ f _ _).eval (.tmp 49) = f 3 from by kernel_rfl).trans (hd 3 (by kernel_rfl)))
                      have e3 : ρ (.tmp 50) = .slice A1 k (c - 1) := (hA 50).trans ((show (puts _ f _ _).eval (.tmp 50) = f 4 from by kernel_rfl).trans (hd 4 (by kernel_rfl)))
                      have hj := HCq.out w1 (hG.cl hL)
                      refine fx_call hρ rfl _ _ _ rfl (by simp [e1, e2, e3]) (Tryz.call49 _ _) hj ?_
                      rintro e w5 ⟨C', rfl, hs', h1', hF', hy'⟩
                      exact ⟨_, rfl, hK _ _ trivial trivial (hG.call hL hF' HN4.out.2.2 ⟨hs', h1', hy'⟩)⟩
                    refine steps_cons 6 rfl ?_ ?_
                    · intro f L w1 A ρ hρ hG hL hLd hd hu hA K hK
                      obtain ⟨C', e5, hp⟩ := hG.r5 (hLd 5 (by kernel_rfl))
                      have e0 : ρ (.tmp 51) = f 5 := (hA 51).trans (show (puts _ f _ _).eval (.tmp 51) = f 5 from by kernel_rfl)
                      rw [e5] at e0
                      refine fx_val hρ rfl (v := .agg C') (w' := w1) (by simp [execOp, go_sem, e0]) (hK _ _ trivial trivial (hG.ext0 hL (hLd 5 (by kernel_rfl)) hp))
                    refine steps_cons 7 rfl ?_ ?_
                    · intro f L w1 A ρ hρ hG hL hLd hd hu hA K hK
                      obtain ⟨C', e5, hp⟩ := hG.r5 (hLd 5 (by kernel_rfl))
                      have e0 : ρ (.tmp 51) = f 5 := (hA 51).trans (show (puts _ f _ _).eval (.tmp 51) = f 5 from by kernel_rfl)
                      rw [e5] at e0
                      refine fx_val hρ rfl (v := .bool o.isSome) (w' := w1) (by simp [execOp, go_sem, e0]) (hK _ _ trivial trivial (hG.ext1))
                    refine steps_cons 8 rfl ?_ ?_
                    · intro f L w1 A ρ hρ hG hL hLd hd hu hA K hK
                      obtain ⟨C', e6, hp⟩ := hG.r6 (hLd 6 (by kernel_rfl))
                      have e0 : ρ (.tmp 52) = f 6 := (hA 52).trans (show (puts _ f _ _).eval (.tmp 52) = f 6 from by kernel_rfl)
                      rw [e6] at e0
                      have e1 : ρ (.tmp 4) = .pointer (some ⟨b + 1, 0, none⟩) := (hA 4).trans (by kernel_rfl)
                      obtain ⟨cs, hcs, hbk⟩ := hG.bb
                      refine fx_skp hρ rfl (w' := w1.setRow (b + 1) C') (exec_store rfl e1 e0 (by simp only [Instr.storeAt, Instr.sureAddr, Sem.run_bind, Sem.run_pure, Result.andThen_ok, run_storeVar_row w1 (b + 1) 33 33 cs C' hbk (by rw [hp.1]; exact st_info) (by rw [hp.1]; exact hcs) hp.2.1])) (hK _ _ trivial trivial (hG.put (hG.m6 (hLd 6 (by kernel_rfl))) (hLd 6 (by kernel_rfl)) e6 hp _))
                    refine steps_cons 9 rfl ?_ ?_
                    · intro f L w1 A ρ hρ hG hL hLd hd hu hA K hK
                      have e7 := hG.r7 (hLd 7 (by kernel_rfl))
                      have e0 : ρ (.tmp 53) = f 7 := (hA 53).trans (show (puts _ f _ _).eval (.tmp 53) = f 7 from by kernel_rfl)
                      rw [e7] at e0
                      refine fx_val hρ rfl (v := .bool o.isSome) (w' := w1) (by simp [execOp, go_sem, e0]) (hK _ _ trivial trivial hG.asg)
                    exact steps_nil
                  case fin =>
                    intro f L w5 hG hLL hV
                    have h9 := hG.r9 (hLL 9 rfl)
                    obtain ⟨C', -, hbk, hp⟩ := hG.r8 (hLL 8 rfl)
                    simp only [puts, dstOf, List.getElem?_cons_succ, List.getElem?_cons_zero, Option.bind_some, Act.put, List.setIfInBounds_toArray, List.set_cons_succ, List.set_cons_zero, h9]
                    have HE := Lib.hid (And.intro hG.fr (And.intro hbk hp))
                    clear hG hLL hV h9 hbk hp
                    refine plan_done (by kernel_rfl) ?_
                    go_wp2_with fail
                    refine bodyPost_ret (say_ret rfl rfl HE.out.2.1 HE.out.2.2.1 rfl) rfl ?_
                    refine ⟨C', rfl, HE.out.2.2.1, HE.out.2.2.2.1, HQ.out.2.2.2.2.1.own4.trans HE.out.1 fun q hq => ?_, HE.out.2.2.2.2⟩
                    have := Hb.out
                    exact hq.imp id fun h => by omega
                · have g0 := str_ne x [102, 111, 108, 100]
                  have g1 := str_ne x [98, 114, 111, 107, 101, 110]
                  have g2 := str_ne x [119, 111, 114, 100]
                  have g3 := str_ne x [114, 101, 97, 100]
                  rw [decide_eq_false (by rw [hx]; decide)] at g0
                  rw [decide_eq_false (by rw [hx]; decide)] at g1
                  rw [decide_eq_false (by rw [hx]; decide)] at g2
                  rw [decide_eq_true hx] at g3
                  have Ho2 := Lib.hid (show o = readB st r by rw [Ho.out, if_neg (by rw [hx]; decide), if_neg (by rw [hx]; decide), if_neg (by rw [hx]; decide), if_pos (by rw [hx]; decide)])
                  have c0 : w2.cell? ⟨g, 0, none⟩ = some (.string { data := #[114, 101, 97, 100] }) := by
                    obtain ⟨g', hg', hc⟩ := own_at HW.out.2.2.2.1 0 (by simp)
                    cases hg'
                    have hc' : w2.cell? ⟨g, 0, none⟩ = some (.string (ba x)) := hc
                    rw [hc', hx]
                    rfl
                  clear hx
                  generalize ba x = S at *
                  go_upto_region 14 with fail
                  clear g0 g1 g2 g3
                  refine plan_begin (by kernel_rfl) 10 (by kernel_rfl) ?_
                  obtain ⟨W, hW⟩ : ∃ W, W = w2.drew := ⟨_, rfl⟩
                  have HQ := Lib.hid (show Blk W b 33 C ∧ Blk W (b + 1) 33 zeroC ∧ Lsts W B st wv rv av pv ∧ SAt W (fun q => q < W.heap.size ∧ ∃ cs, Blk W q 9 cs) A1 k (c - 1) r ∧ Frm (fun _ => False) w W ∧ W.cell? ⟨g, 0, none⟩ = some (.string { data := #[114, 101, 97, 100] }) ∧ (∃ cs, Blk W g 9 cs) ∧ B ≤ W.heap.size from hW ▸ ⟨HW.out.1.drew, HW.out.2.1.drew, HL2.out.1.keptF (Frm.refl _ w2).drew, HR.out, HW.out.2.2.1.drew, c0, own_blk HW.out.2.2.2.1 g rfl, HL2.out.2⟩)
                  have HN4 := Lib.hid (show (¬ (Own4 wv rv av pv b ∨ b = b + 1)) ∧ (¬ (Own4 wv rv av pv g ∨ g = b + 1)) ∧ ¬ Own4 wv rv av pv (b + 1) from by
                    obtain ⟨cs, hcs⟩ := HQ.out.2.2.2.2.2.2.1
                    refine ⟨fun h => h.elim (HQ.out.2.2.1.not4 HQ.out.1 (by decide) (by decide) (by decide)) (by omega), fun h => h.elim (HQ.out.2.2.1.not4 hcs (by decide) (by decide) (by decide)) fun e => ?_, HQ.out.2.2.1.not4 HQ.out.2.1 (by decide) (by decide) (by decide)⟩
                    rw [e] at hcs
                    exact absurd rfl (hcs.ne_ HQ.out.2.1 (by decide)))
                  have HCq := Lib.hid (show ∀ w', Frm (fun _ => False) W w' → Calls Tryz.prog 49 #[.agg C, .string { data := #[114, 101, 97, 100] }, .slice A1 k (c - 1)] w' (SayPost B o wv rv av pv w') from fun w' hF => by
                    have h := readR_any B st wv rv av pv (fun q => q < W.heap.size ∧ ∃ cs, Blk W q 9 cs) A1 k (c - 1) r w' (HQ.out.2.2.1.keptF hF) (HQ.out.2.2.2.1.keptTo fun q hq => ⟨hF.block q hq.1 id, hq⟩) (fun q hq => Nat.lt_of_lt_of_le hq.1 hF.size) (Nat.le_trans HQ.out.2.2.2.2.2.2.2 hF.size) (by have := HM.out.2.1; unfold totS at this; omega)
                    rw [← Ho2.out, ← HC.out.1] at h
                    exact h)
                  rw [← hW]
                  clear hW c0
                  refine plan_fxg [0, 1, 2, 3, 4, 5, 6, 7, 8, 9] (fun (j : Nat) (v : Value) (w : World) => (match j with | 0 => v = .agg C | 1 => v = .slice (some ⟨g, 0, none⟩) (k + 1) c | 2 => v = .pointer (some ⟨g, 0, none⟩) | 3 => v = .string { data := #[114, 101, 97, 100] } | 4 => v = .slice A1 k (c - 1) | 5 => True | 6 => True | 7 => True | 8 => True | 9 => True | _ => True : Prop)) (WG B o (Own4 wv rv av pv) W (b + 1)) (fun _ _ => True) #[true, true, true, true, true, true, true, true, true, true] 0 (by kernel_rfl) (by kernel_rfl) (by kernel_rfl) (by kernel_rfl) (by kernel_rfl) (by kernel_rfl) (by kernel_rfl) (by kernel_rfl) (fun f => ⟨Frm.refl _ _, fun _ => Frm.refl _ _, ⟨zeroC, rfl, HQ.out.2.1⟩, fun h => by rw [upTo_at] at h; simp at h, fun h => by rw [upTo_at] at h; simp at h, fun h => by rw [upTo_at] at h; simp at h, fun h => by rw [upTo_at] at h; simp at h, fun h => by rw [upTo_at] at h; simp at h, fun h => by rw [upTo_at] at h; simp at h, fun h => by rw [upTo_at] at h; simp at h⟩) ?hV ?steps ?fin
                  case hV =>
                    intro j v w1 w2 h hF
                    match j, h with
                    | 0, h => exact h
                    | 1, h => exact h
                    | 2, h => exact h
                    | 3, h => exact h
                    | 4, h => exact h
                    | 5, h => exact h
                    | 6, h => exact h
                    | 7, h => exact h
                    | 8, h => exact h
                    | 9, h => exact h
                    | _ + 10, _ => trivial
                  case steps =>
                    refine steps_cons 0 rfl ?_ ?_
                    · intro f L w1 A ρ hρ hG hL hLd hd hu hA K hK
                      have e1 : ρ (.tmp 2) = .pointer (some ⟨b, 0, none⟩) := (hA 2).trans (by kernel_rfl)
                      refine fx_val hρ rfl (v := .agg C) (w' := w1) (exec_load rfl e1 (run_loadAt_row w1 b 33 33 C _ (HQ.out.1.kept hG.fr HN4.out.1) Tryz.underlying33 rfl (by rw [HC.out.2.1]; exact st_info))) (hK _ _ rfl trivial (hG.keep (by decide) _))
                    refine steps_cons 1 rfl ?_ ?_
                    · intro f L w1 A ρ hρ hG hL hLd hd hu hA K hK
                      have e1 : ρ (.tmp 6) = .slice (some ⟨g, 0, none⟩) (k + 1) c := (hA 6).trans (by kernel_rfl)
                      refine fx_val hρ rfl (v := .slice (some ⟨g, 0, none⟩) (k + 1) c) (w' := w1) (by simp [execOp, go_sem, e1]) (hK _ _ rfl trivial (hG.keep (by decide) _))
                    refine steps_cons 2 rfl ?_ ?_
                    · intro f L w1 A ρ hρ hG hL hLd hd hu hA K hK
                      have e1 : ρ (.tmp 47) = .slice (some ⟨g, 0, none⟩) (k + 1) c := (hA 47).trans ((show (puts _ f _ _).eval (.tmp 47) = f 1 from by kernel_rfl).trans (hd 1 (by kernel_rfl)))
                      refine fx_val hρ rfl (v := .pointer (some ⟨g, 0, none⟩)) (w' := w1) (by simp [execOp, go_sem, e1, hρ.c, Addr.add]) (hK _ _ rfl trivial (hG.keep (by decide) _))
                    refine steps_cons 3 rfl ?_ ?_
                    · intro f L w1 A ρ hρ hG hL hLd hd hu hA K hK
                      have e1 : ρ (.tmp 48) = .pointer (some ⟨g, 0, none⟩) := (hA 48).trans ((show (puts _ f _ _).eval (.tmp 48) = f 2 from by kernel_rfl).trans (hd 2 (by kernel_rfl)))
                      have c1 := hG.fr.cell HQ.out.2.2.2.2.2.1 HN4.out.2.1
                      refine fx_val hρ rfl (v := .string { data := #[114, 101, 97, 100] }) (w' := w1) (by simp [execOp, go_sem, e1, c1]) (hK _ _ rfl trivial (hG.keep (by decide) _))
                    refine steps_cons 4 rfl ?_ ?_
                    · intro f L w1 A ρ hρ hG hL hLd hd hu hA K hK
                      have e1 : ρ (.tmp 7) = .slice A1 k (c - 1) := (hA 7).trans (by kernel_rfl)
                      refine fx_val hρ rfl (v := .slice A1 k (c - 1)) (w' := w1) (by simp [execOp, go_sem, e1]) (hK _ _ rfl trivial (hG.keep (by decide) _))
                    refine steps_cons 5 rfl ?_ ?_
                    · intro f L w1 A ρ hρ hG hL hLd hd hu hA K hK
                      have e1 : ρ (.tmp 46) = .agg C := (hA 46).trans ((show (puts _ f _ _).eval (.tmp 46) = f 0 from by kernel_rfl).trans (hd 0 (by kernel_rfl)))
                      have e2 : ρ (.tmp 49) = .string { data := #[114, 101, 97, 100] } := (hA 49).trans ((show (puts _ f _ _).eval (.tmp 49) = f 3 from by kernel_rfl).trans (hd 3 (by kernel_rfl)))
                      have e3 : ρ (.tmp 50) = .slice A1 k (c - 1) := (hA 50).trans ((show (puts _ f _ _).eval (.tmp 50) = f 4 from by kernel_rfl).trans (hd 4 (by kernel_rfl)))
                      have hj := HCq.out w1 (hG.cl hL)
                      refine fx_call hρ rfl _ _ _ rfl (by simp [e1, e2, e3]) (Tryz.call49 _ _) hj ?_
                      rintro e w5 ⟨C', rfl, hs', h1', hF', hy'⟩
                      exact ⟨_, rfl, hK _ _ trivial trivial (hG.call hL hF' HN4.out.2.2 ⟨hs', h1', hy'⟩)⟩
                    refine steps_cons 6 rfl ?_ ?_
                    · intro f L w1 A ρ hρ hG hL hLd hd hu hA K hK
                      obtain ⟨C', e5, hp⟩ := hG.r5 (hLd 5 (by kernel_rfl))
                      have e0 : ρ (.tmp 51) = f 5 := (hA 51).trans (show (puts _ f _ _).eval (.tmp 51) = f 5 from by kernel_rfl)
                      rw [e5] at e0
                      refine fx_val hρ rfl (v := .agg C') (w' := w1) (by simp [execOp, go_sem, e0]) (hK _ _ trivial trivial (hG.ext0 hL (hLd 5 (by kernel_rfl)) hp))
                    refine steps_cons 7 rfl ?_ ?_
                    · intro f L w1 A ρ hρ hG hL hLd hd hu hA K hK
                      obtain ⟨C', e5, hp⟩ := hG.r5 (hLd 5 (by kernel_rfl))
                      have e0 : ρ (.tmp 51) = f 5 := (hA 51).trans (show (puts _ f _ _).eval (.tmp 51) = f 5 from by kernel_rfl)
                      rw [e5] at e0
                      refine fx_val hρ rfl (v := .bool o.isSome) (w' := w1) (by simp [execOp, go_sem, e0]) (hK _ _ trivial trivial (hG.ext1))
                    refine steps_cons 8 rfl ?_ ?_
                    · intro f L w1 A ρ hρ hG hL hLd hd hu hA K hK
                      obtain ⟨C', e6, hp⟩ := hG.r6 (hLd 6 (by kernel_rfl))
                      have e0 : ρ (.tmp 52) = f 6 := (hA 52).trans (show (puts _ f _ _).eval (.tmp 52) = f 6 from by kernel_rfl)
                      rw [e6] at e0
                      have e1 : ρ (.tmp 4) = .pointer (some ⟨b + 1, 0, none⟩) := (hA 4).trans (by kernel_rfl)
                      obtain ⟨cs, hcs, hbk⟩ := hG.bb
                      refine fx_skp hρ rfl (w' := w1.setRow (b + 1) C') (exec_store rfl e1 e0 (by simp only [Instr.storeAt, Instr.sureAddr, Sem.run_bind, Sem.run_pure, Result.andThen_ok, run_storeVar_row w1 (b + 1) 33 33 cs C' hbk (by rw [hp.1]; exact st_info) (by rw [hp.1]; exact hcs) hp.2.1])) (hK _ _ trivial trivial (hG.put (hG.m6 (hLd 6 (by kernel_rfl))) (hLd 6 (by kernel_rfl)) e6 hp _))
                    refine steps_cons 9 rfl ?_ ?_
                    · intro f L w1 A ρ hρ hG hL hLd hd hu hA K hK
                      have e7 := hG.r7 (hLd 7 (by kernel_rfl))
                      have e0 : ρ (.tmp 53) = f 7 := (hA 53).trans (show (puts _ f _ _).eval (.tmp 53) = f 7 from by kernel_rfl)
                      rw [e7] at e0
                      refine fx_val hρ rfl (v := .bool o.isSome) (w' := w1) (by simp [execOp, go_sem, e0]) (hK _ _ trivial trivial hG.asg)
                    exact steps_nil
                  case fin =>
                    intro f L w5 hG hLL hV
                    have h9 := hG.r9 (hLL 9 rfl)
                    obtain ⟨C', -, hbk, hp⟩ := hG.r8 (hLL 8 rfl)
                    simp only [puts, dstOf, List.getElem?_cons_succ, List.getElem?_cons_zero, Option.bind_some, Act.put, List.setIfInBounds_toArray, List.set_cons_succ, List.set_cons_zero, h9]
                    have HE := Lib.hid (And.intro hG.fr (And.intro hbk hp))
                    clear hG hLL hV h9 hbk hp
                    refine plan_done (by kernel_rfl) ?_
                    go_wp2_with fail
                    refine bodyPost_ret (say_ret rfl rfl HE.out.2.1 HE.out.2.2.1 rfl) rfl ?_
                    refine ⟨C', rfl, HE.out.2.2.1, HE.out.2.2.2.1, HQ.out.2.2.2.2.1.own4.trans HE.out.1 fun q hq => ?_, HE.out.2.2.2.2⟩
                    have := Hb.out
                    exact hq.imp id fun h => by omega
              · have Hn2 := Lib.hid (show x ≠ [119, 111, 114, 100] from fun e => hwr (.inl e))
                have Hn3 := Lib.hid (show x ≠ [114, 101, 97, 100] from fun e => hwr (.inr e))
                clear hwr
                have g0 := str_ne x [102, 111, 108, 100]
                rw [decide_eq_false Hn0.out] at g0
                have g1 := str_ne x [98, 114, 111, 107, 101, 110]
                rw [decide_eq_false Hn1.out] at g1
                have g2 := str_ne x [119, 111, 114, 100]
                rw [decide_eq_false Hn2.out] at g2
                have g3 := str_ne x [114, 101, 97, 100]
                rw [decide_eq_false Hn3.out] at g3
                have g4 := str_ne x [97, 110, 115, 119, 101, 114, 115]
                rw [decide_eq_false Hn4.out] at g4
                have g5 := str_ne x [112, 108, 97, 110]
                rw [decide_eq_false Hn5.out] at g5
                have Ho2 := Lib.hid (show o = (numsB r).bind (countsB st x) by rw [Ho.out, if_neg (fun e => Hn0.out (e.trans (by decide))), if_neg (fun e => Hn1.out (e.trans (by decide))), if_neg (fun e => Hn2.out (e.trans (by decide))), if_neg (fun e => Hn3.out (e.trans (by decide))), if_neg (fun e => Hn4.out (e.trans (by decide))), if_neg (fun e => Hn5.out (e.trans (by decide)))])
                have q0 := str_ne x [99, 111, 110, 102]
                have q1 := str_ne x [112, 105, 99, 107]
                have q2 := str_ne x [99, 97, 110, 99, 101, 108]
                have q3 := str_ne x [109, 111, 115, 116]
                have HQ := Lib.hid (And.intro q0 (And.intro q1 (And.intro q2 q3)))
                clear q0 q1 q2 q3
                obtain ⟨S, hS⟩ : ∃ S, S = ba x := ⟨_, rfl⟩
                rw [← hS] at g0 g1 g2 g3 g4 g5 ⊢
                have HSx := Lib.hid hS
                clear hS
                go_wp2_with fail
                refine (numbersR_any (fun q => q < w2.heap.size ∧ ∃ cs, Blk w2 q 9 cs) A1 k (c - 1) r w2 HR.out (fun q h => h.1) hr9).mono ?_
                rintro e w3 ⟨v, he, hown, hF⟩
                have c0 : w3.cell? ⟨g, 0, none⟩ = some (.string S) := by
                  obtain ⟨g', hg', hc⟩ := own_at HW.out.2.2.2.1 0 (by simp)
                  cases hg'
                  rw [HSx.out]
                  exact hF.cell hc id
                have H3 := Lib.hid (And.intro (HW.out.1.kept hF id) (And.intro (HW.out.2.1.kept hF id) (And.intro (HW.out.2.2.1.trans' hF) (And.intro (HL2.out.1.keptF hF) (Nat.le_trans HL2.out.2 hF.size)))))
                clear hF g0 g1 g2 g3 g4 g5
                cases hnb : numsB r with
                | none =>
                  rw [hnb] at he
                  obtain rfl : e = .returned (.tuple #[v, .bool false]) := he
                  have Ho3 := Lib.hid (show o = none by rw [Ho2.out, hnb]; rfl)
                  clear hnb hown
                  go_wp2_with (first | (refine wpList_loadT (by rfl) 33 (.tmp 2) (by rfl) b (by rfl) C _ _ H3.out.1 Tryz.underlying33 (by rfl) (by rw [HC.out.2.1]; exact st_info) ?_) | (refine wpList_store_rowT rfl 33 (.tmp 4) (.tmp 75) rfl rfl (b + 1) C rfl rfl _ _ H3.out.2.1 (by rw [HC.out.2.1]; exact st_info) (by rw [HC.out.2.1]; rfl) HC.out.2.2 ?_))
                  refine bodyPost_ret (say_ret rfl rfl (Blk.setRow H3.out.2.1 _) HC.out.2.1 rfl) rfl ?_
                  exact SayPost.no Ho3.out HC.out.2.1 HC.out.2.2 (frm_set H3.out.2.2.1.own4 (by have := Hb.out; omega))
                | some ns =>
                  rw [hnb] at he hown
                  obtain ⟨A5, c5, rfl, -, -⟩ := own_form hown
                  obtain rfl : e = .returned (.tuple #[.slice A5 ns.length c5, .bool true]) := he
                  have Ho3 := Lib.hid (show o = countsB st x ns by rw [Ho2.out, hnb]; rfl)
                  have HNs := Lib.hid (show w3.ownsRow w2.heap.size 3 1 (.slice A5 ns.length c5) ns.length (ivs ns) from hown)
                  have Hnb := Lib.hid hnb
                  clear hnb hown
                  obtain ⟨m, hm⟩ : ∃ m, m = ns.length := ⟨_, rfl⟩
                  rw [← hm]
                  have Hm := Lib.hid hm
                  clear hm
                  by_cases hx : x = [99, 111, 110, 102]
                  · by_cases hl : m = 7
                    · obtain ⟨a0, a1, a2, a3, a4, a5, a6, rfl⟩ := list7 ns (by rw [← Hm.out]; exact hl)
                      have Ho4 := Lib.hid (show o = some { st with conf := [a0, a1, a2, a3, a4, a5, a6] } by
                        rw [Ho3.out]
                        unfold countsB
                        rw [if_pos ⟨by rw [hx]; decide, rfl⟩])
                      obtain ⟨q0, q1, q2, q3⟩ := HQ.out
                      rw [decide_eq_true hx] at q0
                      rw [decide_eq_false (by rw [hx]; decide)] at q1
                      rw [decide_eq_false (by rw [hx]; decide)] at q2
                      rw [decide_eq_false (by rw [hx]; decide)] at q3
                      rw [← HSx.out] at q0 q1 q2 q3
                      have e7 : ((m : Int) == 7) = true := by simp; omega
                      obtain ⟨g5, rfl, d0⟩ := own_at HNs.out 0 (by simp [ivs])
                      replace d0 : w3.cell? ⟨g5, 0, none⟩ = some (.int .i64 a0) := d0
                      obtain ⟨g6, hg6, d1⟩ := own_at HNs.out 1 (by simp [ivs])
                      cases hg6
                      replace d1 : w3.cell? ⟨g5, 1, none⟩ = some (.int .i64 a1) := d1
                      obtain ⟨g6, hg6, d2⟩ := own_at HNs.out 2 (by simp [ivs])
                      cases hg6
                      replace d2 : w3.cell? ⟨g5, 2, none⟩ = some (.int .i64 a2) := d2
                      obtain ⟨g6, hg6, d3⟩ := own_at HNs.out 3 (by simp [ivs])
                      cases hg6
                      replace d3 : w3.cell? ⟨g5, 3, none⟩ = some (.int .i64 a3) := d3
                      obtain ⟨g6, hg6, d4⟩ := own_at HNs.out 4 (by simp [ivs])
                      cases hg6
                      replace d4 : w3.cell? ⟨g5, 4, none⟩ = some (.int .i64 a4) := d4
                      obtain ⟨g6, hg6, d5⟩ := own_at HNs.out 5 (by simp [ivs])
                      cases hg6
                      replace d5 : w3.cell? ⟨g5, 5, none⟩ = some (.int .i64 a5) := d5
                      obtain ⟨g6, hg6, d6⟩ := own_at HNs.out 6 (by simp [ivs])
                      cases hg6
                      replace d6 : w3.cell? ⟨g5, 6, none⟩ = some (.int .i64 a6) := d6
                      subst hl
                      clear hx
                      go_upto_region 24 with fail
                      refine plan_begin (by kernel_rfl) 25 (by kernel_rfl) ?_
                      obtain ⟨W, hW⟩ : ∃ W, W = w3.drew := ⟨_, rfl⟩
                      have hb4 : Blk W b 33 C := hW ▸ H3.out.1.drew
                      have H4 := Lib.hid (show Blk W b 33 C ∧ Blk W (b + 1) 33 zeroC ∧ Frm (fun _ => False) w W ∧ Lsts W B st wv rv av pv from hW ▸ ⟨H3.out.1.drew, H3.out.2.1.drew, H3.out.2.2.1.drew, H3.out.2.2.2.1.keptF (Frm.refl _ w3).drew⟩)
                      replace d0 : W.cell? ⟨g5, 0, none⟩ = some (.int .i64 a0) := hW ▸ d0
                      have f2 := hb4.frozen 2
                      have c2 : W.cell? ⟨b, 2, none⟩ = some (.int .i64 (st.conf.getD 0 0)) := by rw [hb4.cell, HC.out.1]; rfl
                      replace d1 : W.cell? ⟨g5, 1, none⟩ = some (.int .i64 a1) := hW ▸ d1
                      have f3 := hb4.frozen 3
                      have c3 : W.cell? ⟨b, 3, none⟩ = some (.int .i64 (st.conf.getD 1 0)) := by rw [hb4.cell, HC.out.1]; rfl
                      replace d2 : W.cell? ⟨g5, 2, none⟩ = some (.int .i64 a2) := hW ▸ d2
                      have f4 := hb4.frozen 4
                      have c4 : W.cell? ⟨b, 4, none⟩ = some (.int .i64 (st.conf.getD 2 0)) := by rw [hb4.cell, HC.out.1]; rfl
                      replace d3 : W.cell? ⟨g5, 3, none⟩ = some (.int .i64 a3) := hW ▸ d3
                      have f5 := hb4.frozen 5
                      have c5 : W.cell? ⟨b, 5, none⟩ = some (.int .i64 (st.conf.getD 3 0)) := by rw [hb4.cell, HC.out.1]; rfl
                      replace d4 : W.cell? ⟨g5, 4, none⟩ = some (.int .i64 a4) := hW ▸ d4
                      have f6 := hb4.frozen 6
                      have c6 : W.cell? ⟨b, 6, none⟩ = some (.int .i64 (st.conf.getD 4 0)) := by rw [hb4.cell, HC.out.1]; rfl
                      replace d5 : W.cell? ⟨g5, 5, none⟩ = some (.int .i64 a5) := hW ▸ d5
                      have f7 := hb4.frozen 7
                      have c7 : W.cell? ⟨b, 7, none⟩ = some (.int .i64 (st.conf.getD 5 0)) := by rw [hb4.cell, HC.out.1]; rfl
                      replace d6 : W.cell? ⟨g5, 6, none⟩ = some (.int .i64 a6) := hW ▸ d6
                      have f8 := hb4.frozen 8
                      have c8 : W.cell? ⟨b, 8, none⟩ = some (.int .i64 (st.conf.getD 6 0)) := by rw [hb4.cell, HC.out.1]; rfl
                      rw [← hW]
                      clear hW hb4
                      refine plan_still 25 0 24 1 (by kernel_rfl) (by kernel_rfl) (by kernel_rfl) (by kernel_rfl) (by kernel_rfl) (by kernel_rfl) (by kernel_rfl) (fun Kp hKp => ?_)
                      simp only [List.append_eq, List.cons_append, List.nil_append, List.take_succ_cons, List.take_zero, List.drop_succ_cons, List.drop_zero, List.drop_nil, List.take_nil]
                      repeat still_step
                      refine wpStill_nil ?_
                      refine hKp _ ?_
                      clear hKp Kp
                      refine plan_one 24 (by kernel_rfl) rfl ?_
                      intro K2 hK2
                      go_wp2_with fail
                      have hbw := Hb.out
                      have hb5 := (((((((H4.out.1.set_ 2 (.int .i64 a0)).set_ 3 (.int .i64 a1)).set_ 4 (.int .i64 a2)).set_ 5 (.int .i64 a3)).set_ 6 (.int .i64 a4)).set_ 7 (.int .i64 a5)).set_ 8 (.int .i64 a6))
                      have hr5 := (((((((H4.out.2.1.far (p := ⟨b, 2, none⟩) (by show b + 1 ≠ b; omega) (.int .i64 a0)).far (p := ⟨b, 3, none⟩) (by show b + 1 ≠ b; omega) (.int .i64 a1)).far (p := ⟨b, 4, none⟩) (by show b + 1 ≠ b; omega) (.int .i64 a2)).far (p := ⟨b, 5, none⟩) (by show b + 1 ≠ b; omega) (.int .i64 a3)).far (p := ⟨b, 6, none⟩) (by show b + 1 ≠ b; omega) (.int .i64 a4)).far (p := ⟨b, 7, none⟩) (by show b + 1 ≠ b; omega) (.int .i64 a5)).far (p := ⟨b, 8, none⟩) (by show b + 1 ≠ b; omega) (.int .i64 a6))
                      have hl5 := (((((((H4.out.2.2.2.setC (i := 2) (u := .int .i64 a0) H4.out.1).setC (i := 3) (u := .int .i64 a1) (H4.out.1.set_ 2 (.int .i64 a0))).setC (i := 4) (u := .int .i64 a2) ((H4.out.1.set_ 2 (.int .i64 a0)).set_ 3 (.int .i64 a1))).setC (i := 5) (u := .int .i64 a3) (((H4.out.1.set_ 2 (.int .i64 a0)).set_ 3 (.int .i64 a1)).set_ 4 (.int .i64 a2))).setC (i := 6) (u := .int .i64 a4) ((((H4.out.1.set_ 2 (.int .i64 a0)).set_ 3 (.int .i64 a1)).set_ 4 (.int .i64 a2)).set_ 5 (.int .i64 a3))).setC (i := 7) (u := .int .i64 a5) (((((H4.out.1.set_ 2 (.int .i64 a0)).set_ 3 (.int .i64 a1)).set_ 4 (.int .i64 a2)).set_ 5 (.int .i64 a3)).set_ 6 (.int .i64 a4))).setC (i := 8) (u := .int .i64 a6) ((((((H4.out.1.set_ 2 (.int .i64 a0)).set_ 3 (.int .i64 a1)).set_ 4 (.int .i64 a2)).set_ 5 (.int .i64 a3)).set_ 6 (.int .i64 a4)).set_ 7 (.int .i64 a5)))
                      have hf5 := (((((((H4.out.2.2.1.setCell ⟨b, 2, none⟩ (.inr (by show w.heap.size ≤ b; omega)) (.int .i64 a0)).setCell ⟨b, 3, none⟩ (.inr (by show w.heap.size ≤ b; omega)) (.int .i64 a1)).setCell ⟨b, 4, none⟩ (.inr (by show w.heap.size ≤ b; omega)) (.int .i64 a2)).setCell ⟨b, 5, none⟩ (.inr (by show w.heap.size ≤ b; omega)) (.int .i64 a3)).setCell ⟨b, 6, none⟩ (.inr (by show w.heap.size ≤ b; omega)) (.int .i64 a4)).setCell ⟨b, 7, none⟩ (.inr (by show w.heap.size ≤ b; omega)) (.int .i64 a5)).setCell ⟨b, 8, none⟩ (.inr (by show w.heap.size ≤ b; omega)) (.int .i64 a6))
                      obtain ⟨C1, hC1⟩ : ∃ C1, C1 = stCells { st with conf := [a0, a1, a2, a3, a4, a5, a6] } wv rv av pv := ⟨_, rfl⟩
                      rw [show (((((((C.setIfInBounds 2 (.int .i64 a0)).setIfInBounds 3 (.int .i64 a1)).setIfInBounds 4 (.int .i64 a2)).setIfInBounds 5 (.int .i64 a3)).setIfInBounds 6 (.int .i64 a4)).setIfInBounds 7 (.int .i64 a5)).setIfInBounds 8 (.int .i64 a6)) = C1 by rw [hC1, HC.out.1]; rfl] at hb5
                      generalize (((((((W.setCell ⟨b, 2, none⟩ (.int .i64 a0)).setCell ⟨b, 3, none⟩ (.int .i64 a1)).setCell ⟨b, 4, none⟩ (.int .i64 a2)).setCell ⟨b, 5, none⟩ (.int .i64 a3)).setCell ⟨b, 6, none⟩ (.int .i64 a4)).setCell ⟨b, 7, none⟩ (.int .i64 a5)).setCell ⟨b, 8, none⟩ (.int .i64 a6)) = w4 at *
                      have hl6 := hl5.same (st' := { st with conf := [a0, a1, a2, a3, a4, a5, a6] }) rfl rfl rfl rfl
                      have HC1 := Lib.hid (And.intro hC1 (show C1.size = 18 ∧ C1.all (·.oneCell') = true by rw [hC1]; exact ⟨rfl, hl6.one⟩))
                      have H5 := Lib.hid (And.intro hb5 (And.intro hr5 (And.intro hf5 hl6)))
                      clear hb5 hr5 hl5 hl6 hf5 hbw hC1 c2 f2 d0 c3 f3 d1 c4 f4 d2 c5 f5 d3 c6 f6 d4 c7 f7 d5 c8 f8 d6
                      refine plan_done (by kernel_rfl) ?_
                      go_wp2_with (first | (refine wpList_loadT (by rfl) 33 (.tmp 2) (by rfl) b (by rfl) C1 _ _ H5.out.1 Tryz.underlying33 (by rfl) (by rw [HC1.out.2.1]; exact st_info) ?_) | (refine wpList_store_rowT rfl 33 (.tmp 4) (.tmp 158) rfl rfl (b + 1) C1 rfl rfl _ _ H5.out.2.1 (by rw [HC1.out.2.1]; exact st_info) (by rw [HC1.out.2.1]; rfl) HC1.out.2.2 ?_))
                      refine bodyPost_ret (say_ret rfl rfl (Blk.setRow H5.out.2.1 _) HC1.out.2.1 rfl) rfl ?_
                      rw [HC1.out.1]
                      exact SayPost.yes Ho4.out (frm_set H5.out.2.2.1.own4 (by have := Hb.out; omega)) (H5.out.2.2.2.setStory H5.out.2.1)
                    · have Ho4 := Lib.hid (show o = none by
                        rw [Ho3.out]
                        unfold countsB
                        rw [if_neg (fun e => hl (by have := Hm.out; have := e.2; omega)), if_neg (fun e => absurd e.1 (by rw [hx]; decide)), if_neg (fun e => absurd e.1 (by rw [hx]; decide)), if_neg (fun e => absurd e.1 (by rw [hx]; decide))])
                      obtain ⟨q0, q1, q2, q3⟩ := HQ.out
                      rw [decide_eq_true hx] at q0
                      rw [decide_eq_false (by rw [hx]; decide)] at q1
                      rw [decide_eq_false (by rw [hx]; decide)] at q2
                      rw [decide_eq_false (by rw [hx]; decide)] at q3
                      rw [← HSx.out] at q0 q1 q2 q3
                      have e7 : ((m : Int) == 7) = false := by simp; omega
                      clear hx hl
                      go_wp2_with (first | (refine wpList_loadT (by rfl) 33 (.tmp 2) (by rfl) b (by rfl) C _ _ H3.out.1 Tryz.underlying33 (by rfl) (by rw [HC.out.2.1]; exact st_info) ?_) | (refine wpList_store_rowT rfl 33 (.tmp 4) (.tmp 76) rfl rfl (b + 1) C rfl rfl _ _ H3.out.2.1 (by rw [HC.out.2.1]; exact st_info) (by rw [HC.out.2.1]; rfl) HC.out.2.2 ?_))
                      refine bodyPost_ret (say_ret rfl rfl (Blk.setRow H3.out.2.1 _) HC.out.2.1 rfl) rfl ?_
                      exact SayPost.no Ho4.out HC.out.2.1 HC.out.2.2 (frm_set H3.out.2.2.1.own4 (by have := Hb.out; omega))
                  · have N0 := Lib.hid hx
                    clear hx
                    by_cases hx : x = [112, 105, 99, 107]
                    · by_cases hl : 0 < m
                      · have Ho4 := Lib.hid (show o = some { st with picks := st.picks ++ ns } by
                          rw [Ho3.out]
                          unfold countsB
                          rw [if_neg (fun e => absurd e.1 (by rw [hx]; decide)), if_pos ⟨by rw [hx]; decide, by rw [← Hm.out]; exact hl⟩])
                        obtain ⟨q0, q1, q2, q3⟩ := HQ.out
                        rw [decide_eq_false (by rw [hx]; decide)] at q0
                        rw [decide_eq_true hx] at q1
                        rw [decide_eq_false (by rw [hx]; decide)] at q2
                        rw [decide_eq_false (by rw [hx]; decide)] at q3
                        rw [← HSx.out] at q0 q1 q2 q3
                        have e0 : decide ((m : Int) > 0) = true := decide_eq_true (by omega)
                        have e0n : decide (0 < m) = true := decide_eq_true (by omega)
                        obtain ⟨i0, hi, hz0, hz1, hz2⟩ := info_parts infoI
                        obtain ⟨Ap, cp, hpv, -, -⟩ := own_form H3.out.2.2.2.1.picks
                        obtain ⟨np, hnp⟩ : ∃ n, n = st.picks.length := ⟨_, rfl⟩
                        rw [← hnp] at hpv
                        have hpo := H3.out.2.2.2.1.picks
                        rw [← hnp, hpv] at hpo
                        have hnm : np + m ≤ 1000000 := by
                          have h1 := HA.out.2.2
                          have h2 : r.length + 1 ≤ line.length := HA.out.1.2
                          have h3 := HM.out.2.1
                          have h4 := numsB_len r ns Hnb.out
                          have h5 := Hm.out
                          unfold totS at h3
                          omega
                        have cf : w3.cell? ⟨b, 12, none⟩ = some (.slice Ap np cp) := by rw [H3.out.1.cell, HC.out.1, ← hpv]; rfl
                        have hsn : Sl w3 (InW w3) (.slice A5 m c5) (ivs ns) := by rw [Hm.out]; exact Sl.of_own HNs.out fun _ _ h => h
                        have HP := Lib.hid (And.intro hpv (And.intro hnp (And.intro hpo (And.intro hsn hnm))))
                        clear hx hl hpv hnp hpo hsn
                        go_upto_region 31 with (at_builtin; go_loud (refine wpList_append_sl (by rfl) _ _ 26 (by rfl) B 3 i0 (.int .i64 0) 8 Tryz.underlying26 hi hz0 hz1 hz2 (by rfl) (.slice Ap np cp) np _ (by rfl) HP.out.2.2.1 (InW w3) _ (ivs ns) (by rfl) HP.out.2.2.2.1 (ivs_one ns) (by have := Hm.out; unfold maxLen; simp [ivs]; omega) (by have := Hm.out; simp [ivs]; omega) H3.out.2.2.2.2 ?_); go_loud (intro A6 N6 c6 w6 HN hNc hc6 hown hg hat; have hF6 : Frm (fun q => (Value.slice Ap np cp).ownBlock = some q) w3 w6 := Frm.grown (Frm.refl (fun q => (Value.slice Ap np cp).ownBlock = some q) w3) hg fun q hq => .inl hq; have hb6 := H3.out.1.kept hF6 (fun hk => own_blk_ne HP.out.2.2.1 H3.out.1 (by decide) hk); have hr6 := H3.out.2.1.kept hF6 (fun hk => own_blk_ne HP.out.2.2.1 H3.out.2.1 (by decide) hk); have hc6' : w6.cell? ⟨b, 12, none⟩ = some (.slice Ap np cp) := (by rw [hb6.cell, HC.out.1, ← HP.out.1] <;> rfl); have hz6 := hb6.frozen 12; have H6 := Lib.hid (And.intro hown (And.intro hF6 (And.intro HN (And.intro hb6 hr6)))); clear hown hg hat hF6 hb6 hr6))
                        obtain ⟨hown, hF6, HN, hb6, hr6⟩ := H6.out
                        have hN6 : N6 = st.picks.length + ns.length := by rw [HN.out, HP.out.2.1]; simp [ivs]
                        have hbw := Hb.out
                        have hF6' : Frm (fun q => pv.ownBlock = some q) w3 w6 := by rw [HP.out.1]; exact hF6
                        have hb7 := hb6.set_ 12 (.slice A6 N6 c6)
                        have hr7 := hr6.far (p := ⟨b, 12, none⟩) (by show b + 1 ≠ b; omega) (.slice A6 N6 c6)
                        have hl7 := (push_pick H3.out.2.2.2.1 hF6' hown hN6).setC (i := 12) (u := .slice A6 N6 c6) hb6
                        have hf7 : Frm (Own4 wv rv av pv) w (w6.setCell ⟨b, 12, none⟩ (.slice A6 N6 c6)) := (H3.out.2.2.1.own4.trans' (hF6'.mono fun q h => .inl (.inr (.inr (.inr h))))).setCell ⟨b, 12, none⟩ (.inr (by show w.heap.size ≤ b; omega)) _
                        obtain ⟨C1, hC1⟩ : ∃ C1, C1 = stCells { st with picks := st.picks ++ ns } wv rv av (.slice A6 N6 c6) := ⟨_, rfl⟩
                        rw [show C.setIfInBounds 12 (.slice A6 N6 c6) = C1 by rw [hC1, HC.out.1]; rfl] at hb7
                        generalize w6.setCell ⟨b, 12, none⟩ (.slice A6 N6 c6) = w4 at *
                        have HC1 := Lib.hid (And.intro hC1 (show C1.size = 18 ∧ C1.all (·.oneCell') = true by rw [hC1]; exact ⟨rfl, hl7.one⟩))
                        have H4 := Lib.hid (And.intro hb7 (And.intro hr7 (And.intro hf7 hl7)))
                        clear hown hF6 HN hb6 hr6 hN6 hbw hF6' hb7 hr7 hl7 hf7 hC1 H6 cf
                        go_wp2_with (first | (refine wpList_loadT (by rfl) 33 (.tmp 2) (by rfl) b (by rfl) C1 _ _ H4.out.1 Tryz.underlying33 (by rfl) (by rw [HC1.out.2.1]; exact st_info) ?_) | (refine wpList_store_rowT rfl 33 (.tmp 4) (.tmp 158) rfl rfl (b + 1) C1 rfl rfl _ _ H4.out.2.1 (by rw [HC1.out.2.1]; exact st_info) (by rw [HC1.out.2.1]; rfl) HC1.out.2.2 ?_))
                        refine bodyPost_ret (say_ret rfl rfl (Blk.setRow H4.out.2.1 _) HC1.out.2.1 rfl) rfl ?_
                        rw [HC1.out.1]
                        exact SayPost.yes Ho4.out (frm_set H4.out.2.2.1 (by have := Hb.out; omega)) (H4.out.2.2.2.setStory H4.out.2.1)
                      · have Ho4 := Lib.hid (show o = none by
                          rw [Ho3.out]
                          unfold countsB
                          rw [if_neg (fun e => absurd e.1 (by rw [hx]; decide)), if_neg (fun e => hl (by have := Hm.out; have := e.2; omega)), if_neg (fun e => absurd e.1 (by rw [hx]; decide)), if_neg (fun e => absurd e.1 (by rw [hx]; decide))])
                        obtain ⟨q0, q1, q2, q3⟩ := HQ.out
                        rw [decide_eq_false (by rw [hx]; decide)] at q0
                        rw [decide_eq_true hx] at q1
                        rw [decide_eq_false (by rw [hx]; decide)] at q2
                        rw [decide_eq_false (by rw [hx]; decide)] at q3
                        rw [← HSx.out] at q0 q1 q2 q3
                        have e0 : decide ((m : Int) > 0) = false := decide_eq_false (by omega)
                        have e0n : decide (0 < m) = false := decide_eq_false (by omega)
                        clear hx hl
                        go_wp2_with (first | (refine wpList_loadT (by rfl) 33 (.tmp 2) (by rfl) b (by rfl) C _ _ H3.out.1 Tryz.underlying33 (by rfl) (by rw [HC.out.2.1]; exact st_info) ?_) | (refine wpList_store_rowT rfl 33 (.tmp 4) (.tmp 76) rfl rfl (b + 1) C rfl rfl _ _ H3.out.2.1 (by rw [HC.out.2.1]; exact st_info) (by rw [HC.out.2.1]; rfl) HC.out.2.2 ?_))
                        refine bodyPost_ret (say_ret rfl rfl (Blk.setRow H3.out.2.1 _) HC.out.2.1 rfl) rfl ?_
                        exact SayPost.no Ho4.out HC.out.2.1 HC.out.2.2 (frm_set H3.out.2.2.1.own4 (by have := Hb.out; omega))
                    · have N1 := Lib.hid hx
                      clear hx
                      by_cases hx : x = [99, 97, 110, 99, 101, 108]
                      · by_cases hl : m = 1
                        · obtain ⟨v, rfl⟩ : ∃ v, ns = [v] := by
                            have h1 := Hm.out
                            match ns, h1 with
                            | [v], _ => exact ⟨v, rfl⟩
                            | [], h1 => simp at h1; omega
                            | _ :: _ :: _, h1 => simp at h1; omega
                          obtain ⟨g5, rfl, d0⟩ := own_at HNs.out 0 (by simp [ivs])
                          replace d0 : w3.cell? ⟨g5, 0, none⟩ = some (.int .i64 v) := d0
                          have Ho4 := Lib.hid (show o = some { st with cancel := v } by
                            rw [Ho3.out]
                            unfold countsB
                            rw [if_neg (fun e => absurd e.1 (by rw [hx]; decide)), if_neg (fun e => absurd e.1 (by rw [hx]; decide)), if_pos ⟨by rw [hx]; decide, rfl⟩]
                            rfl)
                          obtain ⟨q0, q1, q2, q3⟩ := HQ.out
                          rw [decide_eq_false (by rw [hx]; decide)] at q0
                          rw [decide_eq_false (by rw [hx]; decide)] at q1
                          rw [decide_eq_true hx] at q2
                          rw [decide_eq_false (by rw [hx]; decide)] at q3
                          rw [← HSx.out] at q0 q1 q2 q3
                          have e1 : ((m : Int) == 1) = true := by simp; omega
                          have hb3 := H3.out.1
                          have cf : w3.cell? ⟨b, 16, none⟩ = some (.int .i64 st.cancel) := by rw [hb3.cell, HC.out.1]; rfl
                          have ff := hb3.frozen 16
                          subst hl
                          clear hb3 hx
                          go_upto_region 31 with fail
                          have hb4 := H3.out.1.set_ 16 (.int .i64 v)
                          have hr4 := H3.out.2.1.far (p := ⟨b, 16, none⟩) (by show b + 1 ≠ b; omega) (.int .i64 v)
                          have hl4 := H3.out.2.2.2.1.setC (i := 16) (u := .int .i64 v) H3.out.1
                          have hbw := Hb.out
                          have hf4 := H3.out.2.2.1.setCell ⟨b, 16, none⟩ (.inr (by show w.heap.size ≤ b; omega)) (.int .i64 v)
                          obtain ⟨C1, hC1⟩ : ∃ C1, C1 = stCells { st with cancel := v } wv rv av pv := ⟨_, rfl⟩
                          rw [show C.setIfInBounds 16 (.int .i64 v) = C1 by rw [hC1, HC.out.1]; rfl] at hb4
                          generalize w3.setCell ⟨b, 16, none⟩ (.int .i64 v) = w4 at *
                          have HC1 := Lib.hid (And.intro hC1 (show C1.size = 18 ∧ C1.all (·.oneCell') = true by rw [hC1]; exact ⟨rfl, (hl4.same (st' := { st with cancel := v }) rfl rfl rfl rfl).one⟩))
                          have H4 := Lib.hid (And.intro hb4 (And.intro hr4 (And.intro hf4 hl4)))
                          clear hb4 hr4 hl4 hbw hf4 hC1 cf ff
                          go_wp2_with (first | (refine wpList_loadT (by rfl) 33 (.tmp 2) (by rfl) b (by rfl) C1 _ _ H4.out.1 Tryz.underlying33 (by rfl) (by rw [HC1.out.2.1]; exact st_info) ?_) | (refine wpList_store_rowT rfl 33 (.tmp 4) (.tmp 158) rfl rfl (b + 1) C1 rfl rfl _ _ H4.out.2.1 (by rw [HC1.out.2.1]; exact st_info) (by rw [HC1.out.2.1]; rfl) HC1.out.2.2 ?_))
                          refine bodyPost_ret (say_ret rfl rfl (Blk.setRow H4.out.2.1 _) HC1.out.2.1 rfl) rfl ?_
                          rw [HC1.out.1]
                          exact SayPost.yes Ho4.out (frm_set H4.out.2.2.1.own4 (by have := Hb.out; omega)) ((H4.out.2.2.2.same (st' := { st with cancel := v }) rfl rfl rfl rfl).setStory H4.out.2.1)
                        · have Ho4 := Lib.hid (show o = none by
                            rw [Ho3.out]
                            unfold countsB
                            rw [if_neg (fun e => absurd e.1 (by rw [hx]; decide)), if_neg (fun e => absurd e.1 (by rw [hx]; decide)), if_neg (fun e => hl (by have := Hm.out; have := e.2; omega)), if_neg (fun e => absurd e.1 (by rw [hx]; decide))])
                          obtain ⟨q0, q1, q2, q3⟩ := HQ.out
                          rw [decide_eq_false (by rw [hx]; decide)] at q0
                          rw [decide_eq_false (by rw [hx]; decide)] at q1
                          rw [decide_eq_true hx] at q2
                          rw [decide_eq_false (by rw [hx]; decide)] at q3
                          rw [← HSx.out] at q0 q1 q2 q3
                          have e1 : ((m : Int) == 1) = false := by simp; omega
                          clear hx hl
                          go_wp2_with (first | (refine wpList_loadT (by rfl) 33 (.tmp 2) (by rfl) b (by rfl) C _ _ H3.out.1 Tryz.underlying33 (by rfl) (by rw [HC.out.2.1]; exact st_info) ?_) | (refine wpList_store_rowT rfl 33 (.tmp 4) (.tmp 76) rfl rfl (b + 1) C rfl rfl _ _ H3.out.2.1 (by rw [HC.out.2.1]; exact st_info) (by rw [HC.out.2.1]; rfl) HC.out.2.2 ?_))
                          refine bodyPost_ret (say_ret rfl rfl (Blk.setRow H3.out.2.1 _) HC.out.2.1 rfl) rfl ?_
                          exact SayPost.no Ho4.out HC.out.2.1 HC.out.2.2 (frm_set H3.out.2.2.1.own4 (by have := Hb.out; omega))
                      · have N2 := Lib.hid hx
                        clear hx
                        by_cases hx : x = [109, 111, 115, 116]
                        · by_cases hl : m = 1
                          · obtain ⟨v, rfl⟩ : ∃ v, ns = [v] := by
                              have h1 := Hm.out
                              match ns, h1 with
                              | [v], _ => exact ⟨v, rfl⟩
                              | [], h1 => simp at h1; omega
                              | _ :: _ :: _, h1 => simp at h1; omega
                            obtain ⟨g5, rfl, d0⟩ := own_at HNs.out 0 (by simp [ivs])
                            replace d0 : w3.cell? ⟨g5, 0, none⟩ = some (.int .i64 v) := d0
                            have Ho4 := Lib.hid (show o = some { st with most := v } by
                              rw [Ho3.out]
                              unfold countsB
                              rw [if_neg (fun e => absurd e.1 (by rw [hx]; decide)), if_neg (fun e => absurd e.1 (by rw [hx]; decide)), if_neg (fun e => absurd e.1 (by rw [hx]; decide)), if_pos ⟨by rw [hx]; decide, rfl⟩]
                              rfl)
                            obtain ⟨q0, q1, q2, q3⟩ := HQ.out
                            rw [decide_eq_false (by rw [hx]; decide)] at q0
                            rw [decide_eq_false (by rw [hx]; decide)] at q1
                            rw [decide_eq_false (by rw [hx]; decide)] at q2
                            rw [decide_eq_true hx] at q3
                            rw [← HSx.out] at q0 q1 q2 q3
                            have e1 : ((m : Int) == 1) = true := by simp; omega
                            have hb3 := H3.out.1
                            have cf : w3.cell? ⟨b, 17, none⟩ = some (.int .i64 st.most) := by rw [hb3.cell, HC.out.1]; rfl
                            have ff := hb3.frozen 17
                            subst hl
                            clear hb3 hx
                            go_upto_region 31 with fail
                            have hb4 := H3.out.1.set_ 17 (.int .i64 v)
                            have hr4 := H3.out.2.1.far (p := ⟨b, 17, none⟩) (by show b + 1 ≠ b; omega) (.int .i64 v)
                            have hl4 := H3.out.2.2.2.1.setC (i := 17) (u := .int .i64 v) H3.out.1
                            have hbw := Hb.out
                            have hf4 := H3.out.2.2.1.setCell ⟨b, 17, none⟩ (.inr (by show w.heap.size ≤ b; omega)) (.int .i64 v)
                            obtain ⟨C1, hC1⟩ : ∃ C1, C1 = stCells { st with most := v } wv rv av pv := ⟨_, rfl⟩
                            rw [show C.setIfInBounds 17 (.int .i64 v) = C1 by rw [hC1, HC.out.1]; rfl] at hb4
                            generalize w3.setCell ⟨b, 17, none⟩ (.int .i64 v) = w4 at *
                            have HC1 := Lib.hid (And.intro hC1 (show C1.size = 18 ∧ C1.all (·.oneCell') = true by rw [hC1]; exact ⟨rfl, (hl4.same (st' := { st with most := v }) rfl rfl rfl rfl).one⟩))
                            have H4 := Lib.hid (And.intro hb4 (And.intro hr4 (And.intro hf4 hl4)))
                            clear hb4 hr4 hl4 hbw hf4 hC1 cf ff
                            go_wp2_with (first | (refine wpList_loadT (by rfl) 33 (.tmp 2) (by rfl) b (by rfl) C1 _ _ H4.out.1 Tryz.underlying33 (by rfl) (by rw [HC1.out.2.1]; exact st_info) ?_) | (refine wpList_store_rowT rfl 33 (.tmp 4) (.tmp 158) rfl rfl (b + 1) C1 rfl rfl _ _ H4.out.2.1 (by rw [HC1.out.2.1]; exact st_info) (by rw [HC1.out.2.1]; rfl) HC1.out.2.2 ?_))
                            refine bodyPost_ret (say_ret rfl rfl (Blk.setRow H4.out.2.1 _) HC1.out.2.1 rfl) rfl ?_
                            rw [HC1.out.1]
                            exact SayPost.yes Ho4.out (frm_set H4.out.2.2.1.own4 (by have := Hb.out; omega)) ((H4.out.2.2.2.same (st' := { st with most := v }) rfl rfl rfl rfl).setStory H4.out.2.1)
                          · have Ho4 := Lib.hid (show o = none by
                              rw [Ho3.out]
                              unfold countsB
                              rw [if_neg (fun e => absurd e.1 (by rw [hx]; decide)), if_neg (fun e => absurd e.1 (by rw [hx]; decide)), if_neg (fun e => absurd e.1 (by rw [hx]; decide)), if_neg (fun e => hl (by have := Hm.out; have := e.2; omega))])
                            obtain ⟨q0, q1, q2, q3⟩ := HQ.out
                            rw [decide_eq_false (by rw [hx]; decide)] at q0
                            rw [decide_eq_false (by rw [hx]; decide)] at q1
                            rw [decide_eq_false (by rw [hx]; decide)] at q2
                            rw [decide_eq_true hx] at q3
                            rw [← HSx.out] at q0 q1 q2 q3
                            have e1 : ((m : Int) == 1) = false := by simp; omega
                            clear hx hl
                            go_wp2_with (first | (refine wpList_loadT (by rfl) 33 (.tmp 2) (by rfl) b (by rfl) C _ _ H3.out.1 Tryz.underlying33 (by rfl) (by rw [HC.out.2.1]; exact st_info) ?_) | (refine wpList_store_rowT rfl 33 (.tmp 4) (.tmp 76) rfl rfl (b + 1) C rfl rfl _ _ H3.out.2.1 (by rw [HC.out.2.1]; exact st_info) (by rw [HC.out.2.1]; rfl) HC.out.2.2 ?_))
                            refine bodyPost_ret (say_ret rfl rfl (Blk.setRow H3.out.2.1 _) HC.out.2.1 rfl) rfl ?_
                            exact SayPost.no Ho4.out HC.out.2.1 HC.out.2.2 (frm_set H3.out.2.2.1.own4 (by have := Hb.out; omega))
                        · have N3 := Lib.hid hx
                          clear hx
                          have Ho4 := Lib.hid (show o = none by
                            rw [Ho3.out]
                            unfold countsB
                            rw [if_neg (fun e => N0.out (e.1.trans (by decide))), if_neg (fun e => N1.out (e.1.trans (by decide))), if_neg (fun e => N2.out (e.1.trans (by decide))), if_neg (fun e => N3.out (e.1.trans (by decide)))])
                          obtain ⟨q0, q1, q2, q3⟩ := HQ.out
                          rw [decide_eq_false N0.out] at q0
                          rw [decide_eq_false N1.out] at q1
                          rw [decide_eq_false N2.out] at q2
                          rw [decide_eq_false N3.out] at q3
                          rw [← HSx.out] at q0 q1 q2 q3
                          clear HQ
                          go_wp2_with (first | (refine wpList_loadT (by rfl) 33 (.tmp 2) (by rfl) b (by rfl) C _ _ H3.out.1 Tryz.underlying33 (by rfl) (by rw [HC.out.2.1]; exact st_info) ?_) | (refine wpList_store_rowT rfl 33 (.tmp 4) (.tmp 76) rfl rfl (b + 1) C rfl rfl _ _ H3.out.2.1 (by rw [HC.out.2.1]; exact st_info) (by rw [HC.out.2.1]; rfl) HC.out.2.2 ?_))
                          refine bodyPost_ret (say_ret rfl rfl (Blk.setRow H3.out.2.1 _) HC.out.2.1 rfl) rfl ?_
                          exact SayPost.no Ho4.out HC.out.2.1 HC.out.2.2 (frm_set H3.out.2.2.1.own4 (by have := Hb.out; omega))
end Go.Proofs.YtpcdbkaeijhmfaaGreatDoor
