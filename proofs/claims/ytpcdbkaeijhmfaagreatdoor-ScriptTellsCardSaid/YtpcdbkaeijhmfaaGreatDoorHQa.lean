/- The document's script: plan. -/
import Derived.Test.YtpcdbkaeijhmfaaGreatDoorGJ
namespace Go.Proofs.YtpcdbkaeijhmfaaGreatDoor
set_option maxRecDepth 100000
set_option linter.unusedVariables false
set_option linter.unusedSimpArgs false
open Go.RowKit
attribute [local go_sem] Oper.semAt_some
theorem SayPost.no {B : Nat} {o : Option St} {wv rv av pv : Value} {w w' : World} {C : Array Value} (h : o = none) (hs : C.size = 18) (h1 : C.all (·.oneCell') = true) (hF : Frm (Own4 wv rv av pv) w w') : SayPost B o wv rv av pv w (.returned (.tuple #[.agg C, .bool false])) w' := by
  subst h
  exact ⟨C, rfl, hs, h1, hF, fun st' h => by cases h⟩
theorem SayPost.yes {B : Nat} {o : Option St} {st' : St} {wv rv av pv wv' rv' av' pv' : Value} {w w' : World} (h : o = some st') (hF : Frm (Own4 wv rv av pv) w w') (hL : Lsts w' B st' wv' rv' av' pv') : SayPost B o wv rv av pv w (.returned (.tuple #[.agg (stCells st' wv' rv' av' pv'), .bool true])) w' := by
  subst h
  exact ⟨_, rfl, rfl, hL.one, hF, fun st2 h2 => by cases h2; exact ⟨_, _, _, _, rfl, hL⟩⟩
theorem Lsts.setStory {w : World} {b B : Nat} {st : St} {wv rv av pv : Value} {cs D : Array Value} (h : Lsts w B st wv rv av pv) (hb : Blk w b 33 cs) : Lsts (w.setRow b D) B st wv rv av pv := by
  have hF : Frm (fun q => q = b) w (w.setRow b D) := (Frm.refl (fun q => q = b) w).setRow (.inl rfl) _
  exact ⟨h.words.setStory hb, h.reads.setStory hb, hF.own h.answers (fun q hq e => own_blk_ne h.answers hb (by decide) (by rw [hq, e])), hF.own h.picks (fun q hq e => own_blk_ne h.picks hb (by decide) (by rw [hq, e])), h.apart⟩
theorem frm_set {K : Nat → Prop} {w w1 : World} {b : Nat} {C : Array Value} (h : Frm K w w1) (hb : w.heap.size ≤ b) : Frm K w (w1.setRow b C) := h.trans (K' := fun q => q = b) ((Frm.refl (fun q => q = b) w1).setRow (.inl rfl) _) fun q hq => .inr (by omega)
theorem Lsts.setC {w : World} {b i B : Nat} {st : St} {cs : Array Value} {wv rv av pv u : Value} (h : Lsts w B st wv rv av pv) (hb : Blk w b 33 cs) : Lsts (w.setCell ⟨b, i, none⟩ u) B st wv rv av pv := by
  have hF : Frm (fun q => q = b) w (w.setCell ⟨b, i, none⟩ u) := (Frm.refl (fun q => q = b) w).setCell ⟨b, i, none⟩ (.inl rfl) _
  have h1 := h.words.set_ (i := i) (u := u) hb (by decide) (by decide)
  have h2 := h.reads.set_ (i := i) (u := u) hb (by decide) (by decide)
  have h3 := hF.own h.answers (fun q hq e => own_blk_ne h.answers hb (by decide) (by rw [hq, e]))
  have h4 := hF.own h.picks (fun q hq e => own_blk_ne h.picks hb (by decide) (by rw [hq, e]))
  exact ⟨h1, h2, h3, h4, h.apart⟩
theorem SAt.tail1 {w : World} {K : Nat → Prop} {g o n c : Nat} {x : By} {ws : List By} (h : SAt w K (some ⟨g, o, none⟩) (n + 1) c (x :: ws)) : SAt w K (some ⟨g, o + 1, none⟩) n (c - 1) ws := by
  obtain ⟨hn, hnc, hcm⟩ := h.len
  refine ⟨?_, fun y hy => h.2 y (List.mem_cons_of_mem _ hy)⟩
  obtain ⟨A', n', c', e, h1, h2, h3, h4⟩ := h.1
  cases e
  obtain ⟨g', o', e2, hK, hc⟩ := h4.resolve_left (by omega)
  cases e2
  refine ⟨_, n, c - 1, rfl, by simp at hn ⊢; omega, by omega, by omega, .inr ⟨g, o + 1, rfl, hK, fun i hi => ?_⟩⟩
  have := hc (i + 1) (by simp at hi ⊢; omega)
  rw [show o + 1 + i = o + (i + 1) by omega, this]
  simp [svb]
theorem nums_two {a b : By} {ns : List Int} (h : numsB [a, b] = some ns) : ∃ p m, ns = [p, m] := by
  simp only [numsB] at h
  cases ha : numB a with
  | none => rw [ha] at h; cases h
  | some p =>
    cases hb : numB b with
    | none => rw [ha, hb] at h; cases h
    | some m => rw [ha, hb] at h; cases h; exact ⟨p, m, rfl⟩
theorem u32_inn (n : Int) (h0 : 0 ≤ n) (h : n < 4294967296) : IntKind.u32.wrap n = n := by
  simp [IntKind.wrap, IntKind.bits, IntKind.signed]
  omega
set_option maxHeartbeats 8000000 in
theorem planR_any (B : Nat) (st : St) (wv rv av pv : Value) (K : Nat → Prop) (A : Option Addr) (n c : Nat) (ws : List By) (w : World) (hL : Lsts w B st wv rv av pv) (hs : SAt w K A n c ws) (hK : ∀ q, K q → q < w.heap.size) :
    Calls Tryz.prog 51 #[.agg (stCells st wv rv av pv), .slice A n c] w (SayPost B (planB st ws) wv rv av pv w) := by
  obtain ⟨o, ho⟩ : ∃ o, o = planB st ws := ⟨_, rfl⟩
  rw [← ho]
  rw [planB_eq] at ho
  obtain ⟨hn, hnc, hcm⟩ := hs.len
  have hL0 := hL.oneC
  obtain ⟨C, hC⟩ : ∃ C, C = stCells st wv rv av pv := ⟨_, rfl⟩
  rw [← hC] at hL0 ⊢
  have HC := Lib.hid (And.intro hC (And.intro hL0.2 hL0.1))
  have HB0 := Lib.hid (show Blk ((w.alloc (.cells C 33)).alloc (.cells zeroC 33)) w.heap.size 33 C ∧ Blk ((w.alloc (.cells C 33)).alloc (.cells zeroC 33)) (w.heap.size + 1) 33 zeroC ∧ Frm (fun _ => False) w ((w.alloc (.cells C 33)).alloc (.cells zeroC 33)) from
    ⟨(Blk.new w 33 C).alloc _, by have h := Blk.new (w.alloc (.cells C 33)) 33 zeroC; rw [World.size_alloc] at h; exact h, ((Frm.refl _ w).alloc _).alloc _⟩)
  have H := Lib.hid (And.intro hL (And.intro hs hK))
  clear hL hC hL0
  by_cases h3 : n = 3
  · subst h3
    obtain ⟨x0, x1, x2, rfl⟩ : ∃ x0 x1 x2, ws = [x0, x1, x2] := by
      match ws, hn with
      | [x0, x1, x2], _ => exact ⟨x0, x1, x2, rfl⟩
    obtain ⟨y, g, o', hy, -, rfl, hKg, hc0⟩ := hs.at_ 0 (by omega)
    obtain rfl : x0 = y := by simpa using hy
    rw [Nat.add_zero] at hc0
    have HT := Lib.hid (SAt.tail1 hs)
    have Hho := Lib.hid ho
    clear hs hy ho hn hK hKg
    go_enter Tryz.func51, Tryz.ntmps51
    go_upto_region 1 with fail
    rw [show (#[.bool false, .slice none 0 0, .int .i64 0, .int .i64 0, .int .i64 0, .int .i64 0, .int .i64 0, .int .i64 0, .int .i64 0, .bool false, .slice none 0 0, .slice none 0 0, .slice none 0 0, .int .u8 0, .int .u32 0, .int .i64 0, .int .i64 0, .int .i64 0] : Array Value) = zeroC from rfl]
    obtain ⟨b, hb⟩ : ∃ b, b = w.heap.size := ⟨_, rfl⟩
    have HB := HB0
    rw [← hb] at HB ⊢
    clear HB0
    generalize (w.alloc (.cells C 33)).alloc (.cells zeroC 33) = w1 at *
    have Hb := Lib.hid hb
    clear hb
    have c0 : w1.cell? ⟨g, o', none⟩ = some (.string (ba x0)) := HB.out.2.2.cell hc0 id
    clear hc0
    go_wp2_with fail
    refine (kind_any x0 w1).mono ?_
    rintro e w2 ⟨hk, hw2⟩
    obtain rfl := hw2.symm
    clear c0
    have hnum := numbersR_any (InW w1) (some ⟨g, o' + 1, none⟩) 2 (c - 1) [x1, x2] w1 (HT.out.keptTo fun q hq => ⟨HB.out.2.2.block q (H.out.2.2 q hq) id, Nat.lt_of_lt_of_le (H.out.2.2 q hq) HB.out.2.2.size⟩) (fun _ h => h) (by simp)
    have Hnum := Lib.hid hnum
    clear hnum
    obtain ⟨ok, hkb⟩ : ∃ ok, kindB x0 = ok := ⟨_, rfl⟩
    rw [hkb] at hk
    cases ok with
    | none =>
      obtain rfl : e = .returned (.tuple #[.int .u8 0, .bool false]) := hk
      have Ho := Lib.hid (show o = none by rw [Hho.out, hkb])
      clear hkb
      go_wp2_with fail
      refine Hnum.out.mono ?_
      rintro e w3 ⟨v, rfl, -, hF⟩
      have HB3 := Lib.hid (And.intro (HB.out.1.kept hF id) (HB.out.2.1.kept hF id))
      have HF3 := Lib.hid (HB.out.2.2.trans' hF)
      clear hF
      go_wp2_with (first | (refine wpList_loadT (by rfl) 33 (.tmp 2) (by rfl) b (by rfl) C _ _ HB3.out.1 Tryz.underlying33 (by rfl) (by rw [HC.out.2.1]; exact st_info) ?_) | (refine wpList_store_rowT rfl 33 (.tmp 4) (.tmp 45) rfl rfl (b + 1) C rfl rfl _ _ HB3.out.2 (by rw [HC.out.2.1]; exact st_info) (by rw [HC.out.2.1]; rfl) HC.out.2.2 ?_))
      refine bodyPost_ret (say_ret rfl rfl (Blk.setRow HB3.out.2 _) HC.out.2.1 rfl) rfl ?_
      exact SayPost.no Ho.out HC.out.2.1 HC.out.2.2 (frm_set (HF3.out.mono fun _ h => h.elim) (by have := Hb.out; omega))
    | some kk =>
      obtain ⟨rfl, hk5⟩ : e = .returned (.tuple #[.int .u8 kk, .bool true]) ∧ kk < 5 := hk
      have Hk := Lib.hid (And.intro hkb hk5)
      clear hk5 hkb
      go_wp2_with fail
      refine Hnum.out.mono ?_
      rintro e w3 ⟨v, he, hown, hF⟩
      have HB3 := Lib.hid (And.intro (HB.out.1.kept hF id) (HB.out.2.1.kept hF id))
      have HF3 := Lib.hid (HB.out.2.2.trans' hF)
      clear hF
      have Ho1 := Lib.hid (show o = match numsB [x1, x2] with | some [n, m] => if 0 ≤ n ∧ n ≤ 4294967295 then some { st with kind := kk, seed := n.toNat, last := m } else none | _ => none by
        rw [Hho.out, Hk.out.1]
        rcases numsB [x1, x2] with _ | ns
        · rfl
        · match ns with
          | [] => rfl
          | [_] => rfl
          | [_, _] => rfl
          | _ :: _ :: _ :: _ => rfl)
      cases hnb : numsB [x1, x2] with
      | none =>
        rw [hnb] at he
        obtain rfl : e = .returned (.tuple #[v, .bool false]) := he
        have Ho := Lib.hid (show o = none by rw [Ho1.out, hnb])
        clear hnb hown
        go_wp2_with (first | (refine wpList_loadT (by rfl) 33 (.tmp 2) (by rfl) b (by rfl) C _ _ HB3.out.1 Tryz.underlying33 (by rfl) (by rw [HC.out.2.1]; exact st_info) ?_) | (refine wpList_store_rowT rfl 33 (.tmp 4) (.tmp 45) rfl rfl (b + 1) C rfl rfl _ _ HB3.out.2 (by rw [HC.out.2.1]; exact st_info) (by rw [HC.out.2.1]; rfl) HC.out.2.2 ?_))
        refine bodyPost_ret (say_ret rfl rfl (Blk.setRow HB3.out.2 _) HC.out.2.1 rfl) rfl ?_
        exact SayPost.no Ho.out HC.out.2.1 HC.out.2.2 (frm_set (HF3.out.mono fun _ h => h.elim) (by have := Hb.out; omega))
      | some ns =>
        obtain ⟨p, m, rfl⟩ : ∃ p m, ns = [p, m] := nums_two hnb
        rw [hnb] at hown he
        obtain ⟨A5, c5, rfl, -, -⟩ := own_form hown
        obtain ⟨g5, rfl, d0⟩ := own_at hown 0 (by simp [ivs])
        obtain ⟨g6, hg6, d1⟩ := own_at hown 1 (by simp [ivs])
        cases hg6
        replace d0 : w3.cell? ⟨g5, 0, none⟩ = some (.int .i64 p) := d0
        replace d1 : w3.cell? ⟨g5, 1, none⟩ = some (.int .i64 m) := d1
        have Ho2 := Lib.hid (show o = if 0 ≤ p ∧ p ≤ 4294967295 then some { st with kind := kk, seed := p.toNat, last := m } else none by rw [Ho1.out, hnb])
        obtain rfl : e = .returned (.tuple #[.slice (some ⟨g5, 0, none⟩) 2 c5, .bool true]) := he
        clear hnb hown
        by_cases hp0 : p < 0
        · have e1 : decide (p < 0) = true := decide_eq_true hp0
          have Ho := Lib.hid (show o = none by rw [Ho2.out, if_neg (by omega)])
          clear hp0
          go_wp2_with (first | (refine wpList_loadT (by rfl) 33 (.tmp 2) (by rfl) b (by rfl) C _ _ HB3.out.1 Tryz.underlying33 (by rfl) (by rw [HC.out.2.1]; exact st_info) ?_) | (refine wpList_store_rowT rfl 33 (.tmp 4) (.tmp 45) rfl rfl (b + 1) C rfl rfl _ _ HB3.out.2 (by rw [HC.out.2.1]; exact st_info) (by rw [HC.out.2.1]; rfl) HC.out.2.2 ?_))
          refine bodyPost_ret (say_ret rfl rfl (Blk.setRow HB3.out.2 _) HC.out.2.1 rfl) rfl ?_
          exact SayPost.no Ho.out HC.out.2.1 HC.out.2.2 (frm_set (HF3.out.mono fun _ h => h.elim) (by have := Hb.out; omega))
        · have e1 : decide (p < 0) = false := decide_eq_false hp0
          by_cases hp1 : 4294967296 ≤ p
          · have e2 : decide (p ≥ 4294967296) = true := decide_eq_true hp1
            have Ho := Lib.hid (show o = none by rw [Ho2.out, if_neg (by omega)])
            clear hp0 hp1
            go_wp2_with (first | (refine wpList_loadT (by rfl) 33 (.tmp 2) (by rfl) b (by rfl) C _ _ HB3.out.1 Tryz.underlying33 (by rfl) (by rw [HC.out.2.1]; exact st_info) ?_) | (refine wpList_store_rowT rfl 33 (.tmp 4) (.tmp 45) rfl rfl (b + 1) C rfl rfl _ _ HB3.out.2 (by rw [HC.out.2.1]; exact st_info) (by rw [HC.out.2.1]; rfl) HC.out.2.2 ?_))
            refine bodyPost_ret (say_ret rfl rfl (Blk.setRow HB3.out.2 _) HC.out.2.1 rfl) rfl ?_
            exact SayPost.no Ho.out HC.out.2.1 HC.out.2.2 (frm_set (HF3.out.mono fun _ h => h.elim) (by have := Hb.out; omega))
          · have e2 : decide (p ≥ 4294967296) = false := decide_eq_false hp1
            have Ho := Lib.hid (show o = some { st with kind := kk, seed := p.toNat, last := m } by rw [Ho2.out, if_pos (by omega)])
            have hwr : IntKind.u32.wrap p = p := u32_inn p (by omega) (by omega)
            have Hp := Lib.hid (show 0 ≤ p by omega)
            clear hp0 hp1
            go_upto_region 7 with fail
            refine plan_begin (by kernel_rfl) 12 (by kernel_rfl) ?_
            obtain ⟨W, hW⟩ : ∃ W, W = w3.drew := ⟨_, rfl⟩
            replace d0 : W.cell? ⟨g5, 0, none⟩ = some (.int .i64 p) := hW ▸ d0
            replace d1 : W.cell? ⟨g5, 1, none⟩ = some (.int .i64 m) := hW ▸ d1
            have hb4 : Blk W b 33 C := hW ▸ HB3.out.1.drew
            have HB4 := Lib.hid (show Blk W b 33 C ∧ Blk W (b + 1) 33 zeroC ∧ Frm (fun _ => False) w W from hW ▸ ⟨HB3.out.1.drew, HB3.out.2.drew, HF3.out.drew⟩)
            rw [← hW]
            have f13 := hb4.frozen 13
            have f14 := hb4.frozen 14
            have f15 := hb4.frozen 15
            have c13 : W.cell? ⟨b, 13, none⟩ = some (.int .u8 st.kind) := by rw [hb4.cell, HC.out.1]; rfl
            have c14 : W.cell? ⟨b, 14, none⟩ = some (.int .u32 st.seed) := by rw [hb4.cell, HC.out.1]; rfl
            have c15 : W.cell? ⟨b, 15, none⟩ = some (.int .i64 st.last) := by rw [hb4.cell, HC.out.1]; rfl
            clear hW hb4
            refine plan_still 12 0 11 1 (by kernel_rfl) (by kernel_rfl) (by kernel_rfl) (by kernel_rfl) (by kernel_rfl) (by kernel_rfl) (by kernel_rfl) (fun Kp hKp => ?_)
            simp only [List.append_eq, List.cons_append, List.nil_append, List.take_succ_cons, List.take_zero, List.drop_succ_cons, List.drop_zero, List.drop_nil, List.take_nil]
            repeat still_step
            refine wpStill_nil ?_
            refine hKp _ ?_
            clear hKp Kp
            refine plan_one 11 (by kernel_rfl) rfl ?_
            intro K2 hK2
            go_wp2_with fail
            obtain ⟨st', hst⟩ : ∃ s : St, s = { st with kind := kk, seed := p.toNat, last := m } := ⟨_, rfl⟩
            obtain ⟨C', hC'⟩ : ∃ C', C' = stCells st' wv rv av pv := ⟨_, rfl⟩
            have hCC : ((C.setIfInBounds 13 (.int .u8 kk)).setIfInBounds 14 (.int .u32 p)).setIfInBounds 15 (.int .i64 m) = C' := by
              rw [hC', hst, HC.out.1]
              unfold stCells
              simp only [Int.toNat_of_nonneg Hp.out]
              rfl
            have hl0 := H.out.1.keptF HB4.out.2.2
            have hb5 := ((HB4.out.1.set_ 13 (.int .u8 kk)).set_ 14 (.int .u32 p)).set_ 15 (.int .i64 m)
            rw [hCC] at hb5
            have hl5 := ((hl0.setC (i := 13) (u := .int .u8 kk) HB4.out.1).setC (i := 14) (u := .int .u32 p) (HB4.out.1.set_ 13 _)).setC (i := 15) (u := .int .i64 m) ((HB4.out.1.set_ 13 _).set_ 14 _)
            have hr5 := ((HB4.out.2.1.far (p := ⟨b, 13, none⟩) (by show b + 1 ≠ b; omega) (.int .u8 kk)).far (p := ⟨b, 14, none⟩) (by show b + 1 ≠ b; omega) (.int .u32 p)).far (p := ⟨b, 15, none⟩) (by show b + 1 ≠ b; omega) (.int .i64 m)
            have hbw := Hb.out
            have hf5 := ((HB4.out.2.2.setCell ⟨b, 13, none⟩ (.inr (by show w.heap.size ≤ b; omega)) (.int .u8 kk)).setCell ⟨b, 14, none⟩ (.inr (by show w.heap.size ≤ b; omega)) (.int .u32 p)).setCell ⟨b, 15, none⟩ (.inr (by show w.heap.size ≤ b; omega)) (.int .i64 m)
            generalize ((W.setCell ⟨b, 13, none⟩ (.int .u8 kk)).setCell ⟨b, 14, none⟩ (.int .u32 p)).setCell ⟨b, 15, none⟩ (.int .i64 m) = W6 at *
            have hl6 := (hl5.same (st' := st') (by rw [hst]) (by rw [hst]) (by rw [hst]) (by rw [hst]))
            have HC6 := Lib.hid (And.intro hC' (show C'.size = 18 ∧ C'.all (·.oneCell') = true by rw [hC']; exact ⟨rfl, hl6.one⟩))
            have H6 := Lib.hid (And.intro hb5 (And.intro hr5 (And.intro hf5 (And.intro hl6 (show o = some st' by rw [Ho.out, hst])))))
            clear hst hC' hCC hl0 hb5 hl5 hr5 hbw hf5 hl6 c13 c14 c15 f13 f14 f15 d0 d1 e1 e2 hwr
            refine plan_done (by kernel_rfl) ?_
            go_wp2_with (first | (refine wpList_loadT (by rfl) 33 (.tmp 2) (by rfl) b (by rfl) C' _ _ H6.out.1 Tryz.underlying33 (by rfl) (by rw [HC6.out.2.1]; exact st_info) ?_) | (refine wpList_store_rowT rfl 33 (.tmp 4) (.tmp 57) rfl rfl (b + 1) C' rfl rfl _ _ H6.out.2.1 (by rw [HC6.out.2.1]; exact st_info) (by rw [HC6.out.2.1]; rfl) HC6.out.2.2 ?_))
            refine bodyPost_ret (say_ret rfl rfl (Blk.setRow H6.out.2.1 _) HC6.out.2.1 rfl) rfl ?_
            rw [HC6.out.1]
            exact SayPost.yes H6.out.2.2.2.2 (frm_set (H6.out.2.2.1.mono fun _ h => h.elim) (by have := Hb.out; omega)) (H6.out.2.2.2.1.setStory H6.out.2.1)
  · have Ho := Lib.hid (show o = none by
      rw [ho]
      match ws, hn with
      | [], _ => rfl
      | [_], _ => rfl
      | [_, _], _ => rfl
      | [_, _, _], hn => exact absurd hn h3
      | _ :: _ :: _ :: _ :: _, _ => rfl)
    have e3 : ((n : Int) != 3) = true := by simp; omega
    clear ho h3 hn hs hK
    go_enter Tryz.func51, Tryz.ntmps51
    go_upto_region 1 with fail
    rw [show (#[.bool false, .slice none 0 0, .int .i64 0, .int .i64 0, .int .i64 0, .int .i64 0, .int .i64 0, .int .i64 0, .int .i64 0, .bool false, .slice none 0 0, .slice none 0 0, .slice none 0 0, .int .u8 0, .int .u32 0, .int .i64 0, .int .i64 0, .int .i64 0] : Array Value) = zeroC from rfl]
    obtain ⟨b, hb⟩ : ∃ b, b = w.heap.size := ⟨_, rfl⟩
    have HB := HB0
    rw [← hb] at HB ⊢
    clear HB0
    generalize (w.alloc (.cells C 33)).alloc (.cells zeroC 33) = w1 at *
    have Hb := Lib.hid hb
    clear hb
    go_wp2_with (first | (refine wpList_loadT (by rfl) 33 (.tmp 2) (by rfl) b (by rfl) C _ _ HB.out.1 Tryz.underlying33 (by rfl) (by rw [HC.out.2.1]; exact st_info) ?_) | (refine wpList_store_rowT rfl 33 (.tmp 4) (.tmp 13) rfl rfl (b + 1) C rfl rfl _ _ HB.out.2.1 (by rw [HC.out.2.1]; exact st_info) (by rw [HC.out.2.1]; rfl) HC.out.2.2 ?_))
    refine bodyPost_ret (say_ret rfl rfl (Blk.setRow HB.out.2.1 _) HC.out.2.1 rfl) rfl ?_
    exact SayPost.no Ho.out HC.out.2.1 HC.out.2.2 (frm_set (HB.out.2.2.mono fun _ h => h.elim) (by have := Hb.out; omega))
end Go.Proofs.YtpcdbkaeijhmfaaGreatDoor
