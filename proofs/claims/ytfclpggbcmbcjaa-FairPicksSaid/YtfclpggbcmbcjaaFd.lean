/- The turns of a plan: what they come to; the iterator, as a contract. -/
import Derived.Test.YtfclpggbcmbcjaaFb
import Derived.Test.YtfclpggbcmbcjaaCli
import Derived.Test.YtfclpggbcmbcjaaRange
import Derived.RangeFuncBound
import Derived.RangeFuncLeaves
import Derived.RangeFuncFrom
import Derived.RangeFuncBox
import Derived.Maps.AppendAt
import Derived.Shelf.Abstract
import Derived.Shelf.RegionOpen
import Derived.OwnWalkIn
import Derived.TacticsInMore
import Derived.LoopNIn
import Derived.LoopIn
import Derived.Deep.Onto
namespace Go.Proofs.Ytfclpggbcmbcjaa
open Go.RowKit Go.Shelf
attribute [local go_sem] Oper.semAt_some
/-- A turn that is handed over: its slice, its numbers, who was picked. -/
structure Tn where
  v : Value
  l : List Int
  x : Int
def tEnc (t : Tn) : Value := .agg #[t.v, .int .i64 t.x]
def tCells (t : Tn) : List Value := [t.v, .int .i64 t.x]
def tGood (B : Nat) (t : Tn) (W : World) : Prop := W.ownsRow B 3 1 t.v t.l.length (t.l.map iv)
theorem tGood_own {B : Nat} (t : Tn) (X Y : World) (row : Option Nat) (h : tGood B t X) (hg : X.grownBy Y row) (hrow : ∀ r, row = some r → ∃ o : Obj, X.heap[r]? = some o ∧ o.isCells = false) : tGood B t Y :=
  World.ownsRow.kept h hg (by
    rcases h.2 with ⟨h', _⟩ | ⟨g, cap, cur, h', _, hgb, _⟩
    · rw [h']; exact .inl rfl
    · refine .inr fun e => ?_
      rw [h'] at e
      obtain ⟨o, ho, hc⟩ := hrow g e.symm
      rw [hgb] at ho; cases ho; cases hc)
theorem tGood_frm {B : Nat} {K : Nat → Prop} (t : Tn) {X Y : World} (h : tGood B t X) (hF : Frm K X Y) (hK : ∀ q, B ≤ q → ¬ K q) : tGood B t Y :=
  hF.own h fun q hq => hK q (h.lt q hq).1
theorem tGood_typed {B : Nat} {K : Nat → Prop} (t : Tn) {X Y : World} (h : tGood B t X) (hF : Frm K X Y) (hK : ∀ q, K q → ∃ cs ty fr, X.heap[q]? = some (.cells cs ty fr) ∧ ty ≠ 3) : tGood B t Y :=
  hF.own h fun q hq hk => by
    obtain ⟨cs, ty, fr, ho, hne⟩ := hK q hk
    exact own_ne h ho (Ne.symm hne) hq
def tCont (t : Tn) : List Int × Int := (t.l, t.x)
def playL (k : Int) : Int → Int → List (List Int) → List (List Int × Int)
  | _, _, [] => []
  | s, z, l :: ls => match pickK k s z l with
    | none => playL k s z ls
    | some (x, s') => (l, x) :: playL k s' x ls
/-- A slice of lists, all below p. -/
def LAt (w : World) (p : Nat) (A : Option Addr) (m c : Nat) (ls : List (Value × List Int)) : Prop :=
  m = ls.length ∧ m ≤ c ∧ c ≤ 9223372036854775807 ∧ ∀ i (h : i < ls.length), ∃ g o, A = some ⟨g, o, none⟩ ∧ g < p ∧ w.cell? ⟨g, o + i, none⟩ = some ls[i].1 ∧ Sl w (fun q => q < p) ls[i].1 (ls[i].2.map iv) ∧ ls[i].2.length ≤ 1000000
def keepB (b : Nat) (X Y : World) : Prop := Frm (fun q => q = b) X Y
def keepN (n₀ : Nat) (X Y : World) : Prop := Frm (fun q => n₀ ≤ q) X Y
def Lists (ls : List (Value × List Int)) : List (List Int) := ls.map (·.2)
theorem playL_none {k s z : Int} {l : List Int} {ls : List (List Int)} (h : pickK k s z l = none) : playL k s z (l :: ls) = playL k s z ls := by simp [playL, h]
theorem playL_some {k s z x s' : Int} {l : List Int} {ls : List (List Int)} (h : pickK k s z l = some (x, s')) : playL k s z (l :: ls) = (l, x) :: playL k s' x ls := by simp [playL, h]
set_option maxRecDepth 100000 in
set_option maxHeartbeats 2000000 in
theorem turns1_in (n : Nat) (hn : 2 ≤ n) (l Bl Bw b p n₀ : Nat) (kk s z : Int) (A : Option Addr) (m c : Nat) (ls : List (Value × List Int)) (J : List Tn → World → Prop) (hJ : ∀ pre X Y, J pre X → keepB b X Y → J pre Y)
    (hY : ∀ pre x W1, J pre W1 → tGood n₀ x W1 → pre.length < m → YieldAt Fence.wide (n - 1) Try.prog l #[tEnc x] W1 fun e W' => e = .returned (.bool true) ∧ J (pre ++ [x]) W' ∧ keepN n₀ W1 W')
    (W : World) (hBl : W.cell? ⟨Bl, 0, none⟩ = some (.slice A m c)) (hBw : W.cell? ⟨Bw, 0, none⟩ = some (.pointer (some ⟨b, 0, none⟩))) (hP : PlanAt W b 47 kk s z) (hL : LAt W p A m c ls)
    (hlt : Bl < n₀ ∧ Bw < n₀ ∧ b < n₀ ∧ p ≤ b ∧ p ≤ n₀ ∧ Bl ≠ b ∧ Bw ≠ b ∧ n₀ ≤ W.heap.size) (h0 : J [] W) :
    CallsIn Fence.wide n Try.prog 18 #[.func (.yield l) #[] #[], .pointer (some ⟨Bl, 0, none⟩), .pointer (some ⟨Bw, 0, none⟩)] W fun e W' => (∃ v, e = .returned v) ∧
      ∃ ys, ys.map tCont = playL kk s z (Lists ls) ∧ J ys W' := by
  obtain ⟨hm, hmc, hcm, hx⟩ := hL
  refine callsIn_of_wp Try.func18 rfl trivial ?_ rfl
  simp only [Try.ntmps18, List.size_toArray, List.length_cons, List.length_nil, Nat.reduceAdd, Nat.reduceSub, Array.replicate_succ, Array.replicate_zero, List.push_toArray, List.append_toArray, List.nil_append, List.cons_append]
  have HL := Lib.hid (And.intro hm (And.intro hx hlt))
  have HT : Hid (∃ pre si zi, J pre W ∧ PlanAt W b 47 kk si zi ∧ Frm (fun q => q = b ∨ n₀ ≤ q) W W ∧ playL kk s z (Lists ls) = pre.map tCont ++ playL kk si zi ((Lists ls).drop 0) ∧ pre.length ≤ 0) := Lib.hid ⟨[], s, z, h0, hP, Frm.refl _ _, rfl, Nat.le_refl _⟩
  clear hx hlt hP h0
  gi_wp2
  gi_loopw [10] (fun i wr => ∃ k : Nat, k ≤ m ∧ i = .int .i64 k ∧ Hid (∃ pre si zi, J pre wr ∧ PlanAt wr b 47 kk si zi ∧ Frm (fun q => q = b ∨ n₀ ≤ q) W wr ∧ playL kk s z (Lists ls) = pre.map tCont ++ playL kk si zi ((Lists ls).drop k) ∧ pre.length ≤ k)) (fun i _ => m - (intOf i).toNat)
  case atStart => exact ⟨0, Nat.zero_le _, rfl, HT⟩
  case round =>
    clear HT
    obtain ⟨k, hk, rfl, hT⟩ := hrel
    by_cases hlt : k < m
    · obtain ⟨pre, si, zi, hJp, hPi, hF, hpl, hlen⟩ := hT.out
      obtain ⟨hm, hx, q1, q2, q3, q4, q5, q6, q7, q8⟩ := HL.out
      have hkl : k < ls.length := by omega
      obtain ⟨g, o, rfl, hg, hc, hsl, hsz⟩ := hx k hkl
      have cw := hF.cell hBw (by show ¬ (Bw = b ∨ n₀ ≤ Bw); omega)
      have cl := hF.cell hc (by show ¬ (g = b ∨ n₀ ≤ g); omega)
      have hsl2 : Sl wr (fun q => q < p) ls[k].1 (ls[k].2.map iv) := hsl.kept fun q hq => hF.block q (by omega) (by show ¬ (q = b ∨ n₀ ≤ q); omega)
      have hdr : (Lists ls).drop k = ls[k].2 :: (Lists ls).drop (k + 1) := by
        have hkl' : k < (Lists ls).length := by simpa [Lists] using hkl
        rw [List.drop_eq_getElem_cons hkl']
        simp [Lists]
      rw [hdr] at hpl
      generalize ls[k].1 = v at *
      generalize ls[k].2 = li at *
      obtain ⟨A2, n2, c2, rfl, hn2, hc2, hm2, -⟩ := id hsl2
      have hpick := pick_any b 47 (.slice A2 n2 c2) (fun q => q < p) li kk si zi wr hsl2 hsz (fun q hq => by omega) hPi
      have Hp := Lib.hid hpick
      have Hr := Lib.hid (And.intro hJp (And.intro hPi (And.intro hF (And.intro hpl (And.intro hlen (And.intro hsl2 hsz))))))
      clear hT hx hJp hPi hF hpl hlen hsl hsl2 hsz hpick hn2 hm q1 q2 q3 q4 q5 q6 q7 q8 hdr hkl hc hg
      gi_wp2_with fail
      refine ⟨trivial, fun _ => by omega, ?_⟩
      refine (callsIn_wide.2 Hp.out).mono ?_
      clear Hp
      generalize hpk : pickK kk si zi li = pk at *
      have Hk := Lib.hid hpk
      clear hpk
      cases pk with
      | none =>
        rintro e w2 ⟨rfl, rfl⟩
        gi_wp2_with fail
        go_roundw
        case rel => exact ⟨k + 1, by omega, by go_num, Lib.hid (by
          obtain ⟨h1, h2, h3, h4, h5, _⟩ := Hr.out
          rw [playL_none Hk.out] at h4
          exact ⟨pre, si, zi, h1, h2, h3, h4, by omega⟩)⟩
        case measure => simp [intOf]; omega
      | some px =>
        obtain ⟨x, s'⟩ := px
        rintro e w2 ⟨rfl, hP2, hF2⟩
        have hsl2 : Sl w2 (fun q => q < p) (.slice A2 n2 c2) (li.map iv) := Hr.out.2.2.2.2.2.1.kept fun q hq => hF2.block q (by have := Hr.out.2.2.1.size; have := HL.out; omega) (by have := HL.out; show ¬ q = b; omega)
        have hcl := clone_i (fun q => q < p) (.slice A2 n2 c2) (li.map iv) li.length w2 (by
          obtain ⟨A', n', c', e1, e2, e3, e4, e5⟩ := hsl2
          exact ⟨A', n', c', e1, by omega, e3, e4, e5⟩) (by simp) (fun q hq => by have := hF2.size; have := Hr.out.2.2.1.size; have := HL.out; omega) (by intro u hu; obtain ⟨y, _, rfl⟩ := List.mem_map.1 hu; rfl) Hr.out.2.2.2.2.2.2
        have Hcl := Lib.hid hcl
        have H2 := Lib.hid (And.intro hP2 hF2)
        clear hcl hsl2 hP2 hF2
        gi_wp2_with fail
        refine ⟨trivial, fun _ => by omega, ?_⟩
        refine (callsIn_wide.2 Hcl.out).mono ?_
        rintro e w3 ⟨v3, rfl, ho3, hF3⟩
        have hpre : pre.length < m := by have := Hr.out.2.2.2.2.1; omega
        have hJ3 := hJ _ _ _ (hJ _ _ _ Hr.out.1 H2.out.2) (hF3.mono (K' := fun q => q = b) fun _ h => h.elim)
        have hY3 := hY pre ⟨v3, li, x⟩ w3 hJ3 (by
          have h1 : tGood w2.heap.size ⟨v3, li, x⟩ w3 := ho3
          exact World.ownsRow.mono h1 (by have := H2.out.2.size; have := Hr.out.2.2.1.size; have := HL.out; omega)) hpre
        obtain ⟨A3, c3, rfl, -, -⟩ := own_form ho3
        have HP3 := Lib.hid (And.intro (Blk.kept H2.out.1 hF3 id) hF3)
        simp only [tEnc] at hY3
        obtain ⟨fn, tmps, assign, body, hy, hRd⟩ := hY3
        clear ho3 hJ3 Hcl hF3
        gi_wp2
        refine ⟨fun _ => by omega, hRd.mono ?_⟩
        rintro e w4 ⟨rfl, hJ4, hk4⟩
        have H4 := Lib.hid (And.intro hJ4 hk4)
        clear hJ4 hk4
        gi_wp2
        go_roundw
        case rel => exact ⟨k + 1, by omega, by go_num, Lib.hid (by
          obtain ⟨h1, h2, h3, h4, h5, _⟩ := Hr.out
          rw [playL_some Hk.out] at h4
          refine ⟨pre ++ [⟨.slice A3 li.length c3, li, x⟩], s', x, H4.out.1, Blk.kept HP3.out.1 H4.out.2 (by have := HL.out; show ¬ n₀ ≤ b; omega), ?_, by rw [h4]; simp [tCont], by simp; omega⟩
          have f2 := h3.trans H2.out.2 fun q hq => .inl (.inl hq)
          have f3 := f2.trans HP3.out.2 fun q hq => hq.elim
          exact f3.trans H4.out.2 fun q hq => .inl (.inr hq))⟩
        case measure => simp [intOf]; omega
    · obtain rfl : k = m := by omega
      have HTT := hT
      clear hT
      gi_wp2
      go_end0
      obtain ⟨pre, si, zi, hJp, hPi, hF, hpl, hlen⟩ := HTT.out
      refine ⟨⟨_, rfl⟩, pre, ?_, hJp⟩
      rw [List.drop_eq_nil_of_le (by have := HL.out.1; simp [Lists]; omega)] at hpl
      simpa [playL] using hpl.symm
end Go.Proofs.Ytfclpggbcmbcjaa
