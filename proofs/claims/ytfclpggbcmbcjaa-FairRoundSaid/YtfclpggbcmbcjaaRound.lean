/- The walk of teasellaw25.FairRound. -/
import Derived.Test.YtfclpggbcmbcjaaFm
import Derived.Test.YtfclpggbcmbcjaaWk
import Derived.Deep.DeepCutAuto
import Derived.Deep.CutBlock
import Derived.BigQuiet
namespace Go.Proofs.Ytfclpggbcmbcjaa
open Go.RowKit
theorem cells_tn (ys : List Tn) (i : Nat) (h : i < ys.length) : (WT.cellsOf ys)[i * 2]? = some ys[i].v ∧ (WT.cellsOf ys)[i * 2 + 1]? = some (.int .i64 ys[i].x) := by
  induction ys generalizing i with
  | nil => simp at h
  | cons y ys ih =>
    cases i with
    | zero => exact ⟨rfl, rfl⟩
    | succ i =>
      have := ih i (by simpa using h)
      have e : WT.cellsOf (y :: ys) = y.v :: .int .i64 y.x :: WT.cellsOf ys := rfl
      rw [e, show (i + 1) * 2 = i * 2 + 2 from by omega]
      simpa using this
theorem cells_len (ys : List Tn) : (WT.cellsOf ys).length = ys.length * 2 := by
  induction ys with
  | nil => rfl
  | cons y ys ih =>
    have e : WT.cellsOf (y :: ys) = y.v :: .int .i64 y.x :: WT.cellsOf ys := rfl
    rw [e, List.length_cons, List.length_cons, ih, List.length_cons]; omega
theorem tat_own {w : World} {base : Nat} {v : Value} {ys : List Tn} (ho : w.ownsRow base 34 2 v ys.length (WT.cellsOf ys)) (hg : ∀ y ∈ ys, tGood base y w) (hw : ∀ y ∈ ys, (∀ x ∈ y.l, Wf x) ∧ y.l.length ≤ 1000000) :
    ∃ A c, v = .slice A ys.length c ∧ TAt w A ys.length c (ys.map fun y => (y.v, y.l, y.x)) := by
  obtain ⟨A, c, rfl, hc, hm⟩ := own_form ho
  refine ⟨A, c, rfl, by simp, hc, hm, fun i hi => ?_⟩
  simp at hi
  have hl := cells_len ys
  have h0 := cells_tn ys i hi
  obtain ⟨g, rfl, c0⟩ := own_at ho (i * 2) (by omega)
  obtain ⟨g', e, c1⟩ := own_at ho (i * 2 + 1) (by omega)
  cases e
  rw [← List.getElem?_eq_getElem, h0.1] at c0
  rw [← List.getElem?_eq_getElem, h0.2] at c1
  simp only [List.getElem_map]
  have hy := hg _ (List.getElem_mem hi)
  exact ⟨g, 0, rfl, World.block_lt_of_cell? _ _ c0, by simpa using c0, by simpa using c1, (OSl.of_own hy (K := fun _ => True) fun _ _ => trivial).sl.mono fun q hq => hq.lt, hw _ (List.getElem_mem hi)⟩
theorem play_len (s : Int) (ls : List (List Int)) : ∀ z, (playL 3 s z ls).length ≤ ls.length := by
  induction ls generalizing s with
  | nil => intro z; simp [playL]
  | cons l ls ih =>
    intro z
    cases hp : pickK 3 s z l with
    | none => rw [playL_none hp]; have := ih s z; simp; omega
    | some px => obtain ⟨x, s'⟩ := px; rw [playL_some hp]; have := ih s' x; simp; omega
theorem play_sub (s : Int) (ls : List (List Int)) : ∀ z, ∀ t ∈ playL 3 s z ls, t.1 ∈ ls := by
  induction ls generalizing s with
  | nil => intro z t ht; cases ht
  | cons l ls ih =>
    intro z t ht
    cases hp : pickK 3 s z l with
    | none => rw [playL_none hp] at ht; exact List.mem_cons_of_mem _ (ih s z t ht)
    | some px =>
      obtain ⟨x, s'⟩ := px
      rw [playL_some hp] at ht
      rcases List.mem_cons.1 ht with rfl | ht
      · exact List.mem_cons_self
      · exact List.mem_cons_of_mem _ (ih s' x t ht)
/-- Lists that were made so far. -/
def LsAt (B : Nat) (wr : World) (t : Value) (k : Nat) : Prop :=
  ∃ ls : List (Value × List Int), ls.length = k ∧ wr.ownsRow B 25 1 t k (ls.map (·.1)) ∧ ∀ p ∈ ls, Sl wr (TK wr (fun q => B ≤ q) 3) p.1 (p.2.map iv) ∧ p.2.length ≤ 8 ∧ ∀ y ∈ p.2, 0 ≤ y ∧ y ≤ 7
theorem LsAt.snoc {B k n1 : Nat} {wo wr w1 : World} {t v7 t1 : Value} {ls : List (Value × List Int)} {xs : List Int} {o : Obj} (hk : ls.length = k) (hol : wo.ownsRow B 25 1 t k (ls.map (·.1))) (hal : ∀ p ∈ ls, Sl wo (TK wo (fun q => B ≤ q) 3) p.1 (p.2.map iv) ∧ p.2.length ≤ 8 ∧ ∀ y ∈ p.2, 0 ≤ y ∧ y ≤ 7)
    (hF : Frm (fun _ => False) wo wr) (hB : B ≤ wo.heap.size) (h7 : wr.ownsRow wo.heap.size 3 1 v7 xs.length (xs.map iv)) (hx : xs.length ≤ 8 ∧ ∀ y ∈ xs, 0 ≤ y ∧ y ≤ 7) (hn : n1 = k + 1) (h1 : w1.ownsRow B 25 1 t1 n1 (ls.map (·.1) ++ [v7])) (hg : (wr.alloc o).grownBy w1 t.ownBlock) : LsAt B w1 t1 (k + 1) := by
  subst hn
  have hF2 : Frm (fun q => t.ownBlock = some q) wr w1 := ((Frm.refl _ wr).alloc o).grown hg fun q hq => .inl hq
  have hol2 := hF.own hol fun _ _ => id
  have hne : ∀ g, TK wr (fun _ => True) 3 g → ¬ t.ownBlock = some g := fun g hg he => by
    obtain ⟨-, cs, fr, ho⟩ := hg
    exact own_ne hol2 ho (by decide) he
  have hk2 : ∀ g, TK wr (fun q => B ≤ q) 3 g → w1.heap[g]? = wr.heap[g]? ∧ TK w1 (fun q => B ≤ q) 3 g := fun g hg => by
    have e := hF2.block g hg.lt (hne g ⟨trivial, hg.2⟩)
    exact ⟨e, hg.kept e id⟩
  refine ⟨ls ++ [(v7, xs)], by simp [hk], by simpa using h1, fun p hp => ?_⟩
  rcases List.mem_append.1 hp with hp | hp
  · obtain ⟨q1, q2⟩ := hal p hp
    refine ⟨(q1.keptTo (w' := wr) (K' := TK wr (fun q => B ≤ q) 3) fun g hg => ?_).keptTo hk2, q2⟩
    have e := hF.block g hg.lt id
    exact ⟨e, hg.kept e id⟩
  · simp at hp
    subst hp
    exact ⟨((OSl.of_own h7 (K := fun q => B ≤ q) fun g hg => Nat.le_trans hB (h7.lt g hg).1).sl).keptTo hk2, hx⟩
theorem LsAt.lat {B k : Nat} {wr : World} {t : Value} (h : LsAt B wr t k) : ∃ A c ls, t = .slice A k c ∧ LAt wr wr.heap.size A k c ls ∧ Small8 (Lists ls) ∧ (∀ l ∈ Lists ls, l.length ≤ 8) ∧ (Lists ls).length = k := by
  obtain ⟨ls, hk, hol, hal⟩ := h
  obtain ⟨A, c, rfl, hc, hm⟩ := own_form hol
  refine ⟨A, c, ls, rfl, ⟨hk.symm, hc, hm, fun i hi => ?_⟩, fun l hl => ?_, fun l hl => ?_, by simp [Lists, hk]⟩
  · obtain ⟨g, rfl, c0⟩ := own_at hol i (by simpa using hi)
    obtain ⟨q1, q2, q3⟩ := hal _ (List.getElem_mem hi)
    exact ⟨g, 0, rfl, World.block_lt_of_cell? _ _ c0, by simpa using c0, q1.mono fun g hg => hg.lt, by omega⟩
  · obtain ⟨p, hp, rfl⟩ := List.mem_map.1 hl
    exact (hal p hp).2.2
  · obtain ⟨p, hp, rfl⟩ := List.mem_map.1 hl
    exact (hal p hp).2.1
def RPost (L : List (List Int)) (z : Int) (w : World) (e : Ending) (w' : World) : Prop :=
  ∃ A m c ts, e = .returned (.slice A m c) ∧ TAt w' A m c ts ∧ Turns ts = playL 3 0 z L ∧ Frm (fun _ => False) w w'
theorem play_round (A : Option Addr) (m c : Nat) (ls : List (Value × List Int)) (z : Int) (w : World) (h : LAt w w.heap.size A m c ls) (hm : m ≤ 80) (hs : Small8 (Lists ls)) (hl : ∀ l ∈ Lists ls, l.length ≤ 8) :
    Calls Try.prog 7 #[.agg #[.int .u8 3, .int .u32 0, .int .i64 z], .slice A m c] w (RPost (Lists ls) z w) := by
  refine (play_any 3 0 z A m c ls w h (by omega)).mono ?_
  rintro e w' ⟨v, ys, rfl, hS, ho, hg, hF⟩
  have hy : ∀ y ∈ ys, y.l ∈ Lists ls := fun y hy => by
    have h1 : tCont y ∈ playL 3 0 z (Lists ls) := by rw [← hS]; exact List.mem_map.2 ⟨y, hy, rfl⟩
    exact play_sub 0 (Lists ls) z _ h1
  obtain ⟨A', c', rfl, hT⟩ := tat_own ho hg fun y hyy => ⟨fun x hx => wf64 (by have := hs _ (hy y hyy) x hx; omega), by have := hl _ (hy y hyy); omega⟩
  exact ⟨A', _, c', _, rfl, hT, by rw [← hS]; simp [Turns, tCont], hF⟩
theorem infoI : (Try.prog.info? 3).map (fun i => (i.zero, i.size, i.bytes)) = some (some (.int .i64 0), 1, 8) := by kernel_rfl
theorem infoL : (Try.prog.info? 25).map (fun i => (i.zero, i.size, i.bytes)) = some (some (.slice none 0 0), 1, 24) := by kernel_rfl
set_option maxRecDepth 100000 in
set_option maxHeartbeats 4000000 in
theorem round_law_any (A : Option Addr) (n c : Nat) (l : List UInt8) (z : Int) (w : World) (h : Sl w (fun q => q < w.heap.size) (.slice A n c) (bv l)) :
    Calls Try.prog 3 #[.slice A n c, .int .i64 z] w fun e w' => e = .returned (.bool true) ∧ Frm (fun _ => False) w w' := by
  obtain ⟨A', n', c', he, hn, hc, hm, hrow⟩ := id h
  cases he
  rw [bv_length] at hn
  have H := Lib.hid (And.intro hn hrow)
  clear h hn hrow
  obtain ⟨iI, hiI, hzI0, hzI1, hzI2⟩ := info_parts infoI
  obtain ⟨iL, hiL, hzL0, hzL1, hzL2⟩ := info_parts infoL
  by_cases hbig : 80 < n
  · have hb : decide (80 < n) = true := by simpa using hbig
    go_enter Try.func3, Try.ntmps3
    go_wp2_with fail
    refine (wakes_any _).mono ?_
    rintro e w' ⟨rfl, hF⟩
    go_wp2_with fail
    go_ret
    exact ⟨rfl, hF⟩
  · have hb : decide (80 < n) = false := by simpa using hbig
    have hn80 : n ≤ 80 := by omega
    clear hbig
    go_enter Try.func3, Try.ntmps3
    go_wp2_with fail
    go_loopw [5, 6] (fun t i wr => ∃ k : Nat, k ≤ n ∧ i = .int .i64 k ∧ Hid (LsAt w.heap.size wr t k ∧ Frm (fun _ => False) w wr)) (fun _ i _ => n - (intOf i).toNat)
    case atStart => exact ⟨0, Nat.zero_le _, rfl, Lib.hid ⟨⟨[], rfl, World.ownsRow_nil _ _ _ _, by simp⟩, Frm.refl _ _⟩⟩
    case round =>
      obtain ⟨k, hk, rfl, hT⟩ := hrel
      by_cases hlt : k < n
      · obtain ⟨hn, hrow⟩ := H.out
        obtain ⟨g, o, rfl, hg, hcs⟩ := hrow.resolve_left (by omega)
        have hkl : k < l.length := by omega
        have c0 : w.cell? ⟨g, o + k, none⟩ = some (.int .u8 (l[k].toNat : Int)) := by have := hcs k (by simpa using hkl); simpa [bv] using this
        obtain ⟨u, hu⟩ : ∃ u : UInt8, u = l[k] := ⟨_, rfl⟩
        rw [← hu] at c0
        have C0 := Lib.hid c0
        obtain ⟨wo, rfl⟩ : ∃ wo : World, wo = wr := ⟨_, rfl⟩
        clear hu hcs hrow hn hkl c0
        go_wp2_with fail
        go_loopw [7, 8] (fun t i wi => ∃ q : Nat, q ≤ 8 ∧ i = .int .i64 q ∧ ∃ xs : List Int, Hid (xs.length ≤ q ∧ ∀ y ∈ xs, 0 ≤ y ∧ y ≤ 7) ∧ wi.ownsRow wo.heap.size 3 1 t xs.length (xs.map iv) ∧ Frm (fun _ => False) wo wi) (fun _ i _ => 8 - (intOf i).toNat)
        case atStart => exact ⟨0, by omega, rfl, [], Lib.hid ⟨by simp, by simp⟩, World.ownsRow_nil _ _ _ _, Frm.refl _ _⟩
        case round =>
          obtain ⟨q, hq, rfl, xs, hxs, hown, hF⟩ := hrel
          have hz := hF.size
          have cw : wr.cell? ⟨g, o + k, none⟩ = some (.int .u8 (u.toNat : Int)) := hF.cell (hT.out.2.cell C0.out id) id
          by_cases hq8 : q < 8
          · have hd8 : decide (q < 8) = true := by simpa using hq8
            have hxl : xs.length ≤ 8 := by have := hxs.out.1; omega
            have hqr : 0 ≤ (q : Int) ∧ (q : Int) ≤ 7 := by omega
            go_wp2_with (at_builtin; refine wpList_append_sl (by rfl) _ _ 25 (by rfl) wo.heap.size 3 iI (.int .i64 0) 8 Try.underlying25 hiI hzI0 hzI1 hzI2 (by rfl) _ xs.length _ (by rfl) (hown.alloc _) (fun q => q = wr.heap.size) _ [.int .i64 q] (by rfl) (Sl.blk1 wr _ _) (by simp [Value.oneCell']) (by unfold maxLen; simp; omega) (by simp; omega) (by simp; omega) ?_; intro A1 N1 c1 w1 HN hNc1 hc1 hown1 hg1 hat1)
            · go_roundw
              case rel => exact ⟨q + 1, by omega, by go_num, xs ++ [(q : Int)], Lib.hid ⟨by have := hxs.out.1; simp; omega, fun y hy => by
                rcases List.mem_append.1 hy with h | h
                · exact hxs.out.2 y h
                · simp at h; subst h; omega⟩, by have := HN.out; simp only [List.length_singleton] at this; subst this; simpa [iv] using hown1, (hF.alloc _).grown hg1 fun q hq => .inr (hown.lt q hq).1⟩
              case measure => simp [intOf]; omega
            · go_roundw
              case rel => exact ⟨q + 1, by omega, by go_num, xs, Lib.hid ⟨by have := hxs.out.1; omega, hxs.out.2⟩, hown, hF⟩
              case measure => simp [intOf]; omega
          · obtain rfl : q = 8 := by omega
            obtain ⟨ls, hls, hol, hal⟩ := hT.out.1
            have HL := Lib.hid hal
            obtain ⟨vls, hvls⟩ : ∃ vls : List Value, vls = ls.map (·.1) := ⟨_, rfl⟩
            rw [← hvls] at hol
            have HV := Lib.hid (And.intro hvls hls)
            clear hvls hls hal
            obtain ⟨A7, c7, rfl, hc7, -⟩ := own_form hown
            have hol2 := hF.own hol (fun _ _ => id)
            have Ho := Lib.hid hol
            clear hol
            go_wp2_with (at_builtin; go_loud (refine wpList_append_sl (by rfl) _ _ 24 (by rfl) w.heap.size 25 iL (.slice none 0 0) 24 Try.underlying24 hiL hzL0 hzL1 hzL2 (by rfl) _ k _ (by rfl) (hol2.alloc _) (fun q => q = wr.heap.size) _ [.slice A7 xs.length c7] (by rfl) (Sl.blk1 wr _ _) (by simp [Value.oneCell']) (by unfold maxLen; simp; omega) (by simp; omega) (by have := hT.out.2.size; simp; omega) ?_); intro A1 N1 c1 w1 HN hNc1 hc1 hown1 hg1 hat1)
            go_roundw
            case rel => exact ⟨k + 1, by omega, by go_num, Lib.hid ⟨LsAt.snoc HV.out.2 (by rw [← HV.out.1]; exact Ho.out) HL.out hF hT.out.2.size hown hxs.out (by have := HN.out; simpa using this) (by rw [← HV.out.1]; exact hown1) hg1, (hT.out.2.trans hF fun _ h => h.elim).trans (((Frm.refl _ _).alloc _).grown hg1 fun g hg => .inl hg) fun g hg => .inr (Ho.out.lt g hg).1⟩⟩
            case measure => simp [intOf]; omega
      · obtain rfl : k = n := by omega
        obtain ⟨A5, c5, ls, rfl, hL, hs8, hl8, hlen⟩ := hT.out.1.lat
        have hpl := play_round A5 k c5 ls z wr hL hn80 hs8 hl8
        have hmm := play_len 0 (Lists ls) z
        have hrun := play_wait 0 z (Lists ls) hs8
        have hmemb := play_mem 0 (Lists ls) hs8 z
        have hwin := play_window 0 z (Lists ls) hs8
        have HP := Lib.hid hpl
        rw [hlen] at hmm
        unfold RPost at HP
        generalize playL 3 0 z (Lists ls) = PL at *
        have HQ := Lib.hid (And.intro hmm (And.intro hrun (And.intro hmemb hwin)))
        clear hpl hL hs8 hl8 hlen hmm hrun hmemb hwin
        go_wp2_with fail
        refine HP.out.mono ?_
        rintro e w4 ⟨A9, m, c9, ts, rfl, hTA, hTS, hF4⟩
        have hm80 : m ≤ 80 := by have := HQ.out.1; rw [← hTS] at this; have h2 := hTA.1; simp [Turns] at this; omega
        obtain ⟨-, hmc, hcm, -⟩ := id hTA
        have HF4 := Lib.hid (hT.out.2.trans hF4 fun _ h => h.elim)
        have HT := Lib.hid (And.intro hTA hTS)
        clear hTA hTS hF4 hT HP
        go_wp2_with fail
        go_loopw [10] (fun i wr => ∃ i' q : Nat, i' ≤ m ∧ i = .int .i64 i' ∧ wr = w4.drewN q) (fun i _ => m - (intOf i).toNat)
        case atStart => exact ⟨0, 0, Nat.zero_le _, rfl, rfl⟩
        case round =>
          obtain ⟨i, q, him, rfl, rfl⟩ := hrel
          by_cases hlt : i < m
          · obtain ⟨⟨hmt, -, -, hx⟩, hTS⟩ := HT.out
            have hil : i < ts.length := by omega
            obtain ⟨g, o, rfl, hg, d0, d1, hsl, -, -⟩ := hx i hil
            have hmem := HQ.out.2.2.1 (ts[i].2) (by rw [← hTS]; exact List.mem_map.2 ⟨_, List.getElem_mem hil, rfl⟩)
            have hin : ∀ a, Calls Try.prog 8 #[ts[i].1, .int .i64 ts[i].2.2] (w4.drewN a) fun e w' => e = .returned (.bool true) ∧ w4.drewN a = w' := fun a =>
              (in_any _ _ _ ts[i].2.2 (w4.drewN a) (hsl.kept (w' := w4.drewN a) fun _ _ => rfl)).mono (by rintro e w' ⟨rfl, rfl⟩; exact ⟨by rw [decide_eq_true hmem.1], rfl⟩)
            have hi0 : 0 ≤ (i : Int) := by omega
            have Hin := Lib.hid hin
            clear hmt hx hmem hin hsl hg
            generalize ts[i] = t at *
            obtain ⟨v, l1, p⟩ := t
            dsimp only at d0 d1 Hin
            clear hTS
            go_upto_region 18 with fail
            go_quiet ((go_at_call 8; first | exact quiet_left (Hin.out _) | exact quiet_add_left (Hin.out _)))
            obtain ⟨W, hW⟩ : ∃ W : World, W = (w4.drewN q).drewN nq := ⟨_, rfl⟩
            rw [← hW]
            have hWF : Frm (fun _ => False) w4 W := by rw [hW]; exact ((Frm.refl _ w4).drewN q).drewN nq
            have HTW := Lib.hid (HT.out.1.kept hWF)
            have HW : Hid (∃ a, W = w4.drewN a) := Lib.hid ⟨_, by rw [hW, World.drewN_drewN]⟩
            clear hW hWF Hin d0 d1
            go_wp2_with fail
            go_loop [11] (fun x => ∃ x' : Nat, x' ≤ 8 ∧ x = .int .i64 x') (fun x => 8 - (intOf x).toNat)
            case atStart => exact ⟨0, by omega, rfl⟩
            case round =>
              obtain ⟨x, hx8, rfl⟩ := hrel
              by_cases hxl : x < 8
              · have hd8 : decide (x < 8) = true := by simpa using hxl
                obtain ⟨ab0, hab0⟩ : ∃ ab0 : Bool, decide ((i : Int) + 8 ≤ (m : Int)) = ab0 := ⟨_, rfl⟩
                have HA0 : Hid (ab0 = true → i + 8 ≤ m) := Lib.hid fun h => by rw [h] at hab0; have := of_decide_eq_true hab0; omega
                go_upto_region 24 with fail
                clear hab0
                go_wp2_with fail
                go_loop [12, 13, 14] (fun a p j => ∃ (j' : Nat) (ab pb : Bool), i ≤ j' ∧ j' ≤ m ∧ j' ≤ i + 8 ∧ j = .int .i64 j' ∧ a = .bool ab ∧ p = .bool pb ∧ Hid (ab = true → pb = false → i + 8 ≤ m ∧ ∀ r (hr : r < PL.length), i ≤ r → r < j' → wtB PL[r] x = true)) (fun _ _ j => i + 8 - (intOf j).toNat)
                case atStart => exact ⟨i, ab0, false, Nat.le_refl _, by omega, by omega, rfl, rfl, rfl, Lib.hid fun h _ => ⟨HA0.out h, fun r _ h1 h2 => by omega⟩⟩
                case round =>
                  clear HA0
                  obtain ⟨j, ab, pb, hij, hjm, hj8, rfl, rfl, rfl, hr⟩ := hrel
                  by_cases hlj : j < i + 8 ∧ j < m
                  · obtain ⟨hl1, hl2⟩ := hlj
                    obtain ⟨hmt, -, -, hx⟩ := HTW.out
                    have hjl : j < ts.length := by omega
                    obtain ⟨g2, o2, he2, -, e0, e1, hsl2, -, -⟩ := hx j hjl
                    cases he2
                    have hin := in_any _ _ _ (x : Int) W hsl2
                    have hPj : Hid (∀ hr : j < PL.length, PL[j] = ts[j].2) := Lib.hid fun hr => by have := HT.out.2; simp only [← this]; simp [Turns]
                    have Hin := Lib.hid hin
                    unfold InPost at Hin
                    clear hx hin hsl2
                    generalize ts[j] = t2 at *
                    obtain ⟨v2, l2, p2⟩ := t2
                    dsimp only at e0 e1 Hin
                    clear hmt hjl
                    obtain ⟨r, hrr⟩ : ∃ r : Bool, decide ((x : Int) ∈ l2) = r := ⟨_, rfl⟩
                    rw [hrr] at Hin
                    have HR : Hid (∀ (hr : j < PL.length), r = true → (p2 == (x : Int)) = false → wtB PL[j] x = true) := Lib.hid fun hr h1 h2 => by
                      rw [hPj.out hr]
                      rw [h1] at hrr
                      simp at hrr h2
                      simp [wtB, hrr, h2]
                    have HN : Hid (∀ pb2 : Bool, (pb = true → pb2 = true) → (pb2 = false → (p2 == (x : Int)) = false) → ab = true → r = true → pb2 = false → i + 8 ≤ m ∧ ∀ r (hr : r < PL.length), i ≤ r → r < j + 1 → wtB PL[r] x = true) := Lib.hid fun pb2 h1 h2 h3 h4 h5 => by
                      have hpb : pb = false := by cases pb with
                        | true => have := h1 rfl; rw [h5] at this; cases this
                        | false => rfl
                      obtain ⟨k1, k2⟩ := hr.out h3 hpb
                      refine ⟨k1, fun r' hr' k3 k4 => ?_⟩
                      by_cases hrj : r' = j
                      · subst hrj; exact HR.out hr' h4 (h2 h5)
                      · exact k2 r' hr' k3 (by omega)
                    clear hrr hr
                    cases ab with
                    | false =>
                      cases pb with
                      | true =>
                        go_wp2_with fail
                        go_round
                        case rel => exact ⟨j + 1, false, true, by omega, by omega, by omega, by go_num, rfl, rfl, Lib.hid fun h => by cases h⟩
                        case measure => simp [intOf]; omega
                      | false =>
                        go_wp2_with fail
                        go_round
                        case rel => exact ⟨j + 1, false, _, by omega, by omega, by omega, by go_num, rfl, rfl, Lib.hid fun h => by cases h⟩
                        case measure => simp [intOf]; omega
                    | true =>
                      cases pb with
                      | true =>
                        go_wp2_with fail
                        refine Hin.out.mono ?_
                        rintro e w' ⟨rfl, rfl⟩
                        go_wp2_with fail
                        go_round
                        case rel => exact ⟨j + 1, r, true, by omega, by omega, by omega, by go_num, rfl, rfl, Lib.hid fun _ h => by cases h⟩
                        case measure => simp [intOf]; omega
                      | false =>
                        go_wp2_with fail
                        refine Hin.out.mono ?_
                        rintro e w' ⟨rfl, rfl⟩
                        go_wp2_with fail
                        go_round
                        case rel => exact ⟨j + 1, r, _, by omega, by omega, by omega, by go_num, rfl, rfl, Lib.hid fun h1 h2 => HN.out _ (fun h => by cases h) (fun h => h) (by first | rfl | trivial) h1 h2⟩
                        case measure => simp [intOf]; omega
                  · have hfin : Hid (ab = true → pb = true) := Lib.hid fun h1 => by
                      cases pb with
                      | true => rfl
                      | false =>
                        obtain ⟨h2, h3⟩ := hr.out h1 rfl
                        have := HQ.out.2.1 x i 8 (by have := HT.out.2; have h5 := HT.out.1.1; rw [← this]; simp [Turns]; omega) fun r hr2 h4 h5 => h3 r hr2 h4 (by omega)
                        omega
                    clear hr
                    have hl3 : decide (j < i + 8) = true → decide (j < m) = false := fun h => by have := of_decide_eq_true h; simp; omega
                    by_cases hl1 : j < i + 8
                    · have hl2 : ¬ j < m := fun h => hlj ⟨hl1, h⟩
                      clear hlj hl3
                      cases ab with
                      | false =>
                        go_wp2_with fail
                        go_round
                        case rel => exact ⟨x + 1, by omega, by go_num⟩
                        case measure => simp [intOf]; omega
                      | true =>
                        obtain rfl := hfin.out rfl
                        go_wp2_with fail
                        go_round
                        case rel => exact ⟨x + 1, by omega, by go_num⟩
                        case measure => simp [intOf]; omega
                    · clear hlj hl3
                      cases ab with
                      | false =>
                        go_wp2_with fail
                        go_round
                        case rel => exact ⟨x + 1, by omega, by go_num⟩
                        case measure => simp [intOf]; omega
                      | true =>
                        obtain rfl := hfin.out rfl
                        go_wp2_with fail
                        go_round
                        case rel => exact ⟨x + 1, by omega, by go_num⟩
                        case measure => simp [intOf]; omega
              · obtain rfl : x = 8 := by omega
                go_wp2_with fail
                go_roundw
                case rel => obtain ⟨a, ha⟩ := HW.out; exact ⟨i + 1, a, by omega, by go_num, ha⟩
                case measure => simp [intOf]; omega
          · obtain rfl : i = m := by omega
            have hTq : TAt (w4.drewN q) (A9) i c9 ts := HT.out.1.kept ((Frm.refl _ w4).drewN q)
            have hwd := window_any A9 i c9 ts _ hTq (by omega)
            have Hwd := Lib.hid hwd
            unfold WinPost at Hwd
            rw [HT.out.2] at Hwd
            have h7 := HQ.out.2.2.2
            generalize (waitL PL).2.1 = T at *
            clear hwd hTq
            have hd7 : decide (T + 1 ≤ 8) = true := by simp; omega
            go_wp2_with fail
            (with_reducible refine Hwd.out.mono ?_)
            rintro e w5 ⟨rfl, hF5⟩
            have HF5 := Lib.hid ((HF4.out.drewN q).trans hF5 fun _ h => h.elim)
            clear hF5 Hwd
            go_wp2_with fail
            refine (wakes_any _).mono ?_
            rintro e w6 ⟨rfl, hF⟩
            go_wp2_with fail
            go_ret
            exact ⟨rfl, HF5.out.trans hF fun _ h => h.elim⟩
end Go.Proofs.Ytfclpggbcmbcjaa
