/- What Parse answers, as cells and lists; a story's conf and sizes. The document's script: stories by value; plan. The document's script: all numbers of a run. -/
import Derived.Test.YtpcdbkaeijhmfaaGreatDoorHWk
import Derived.Test.YtpcdbkaeijhmfaaGreatDoorGF
import Derived.Test.YtpcdbkaeijhmfaaGreatDoorHQt
import Derived.Test.YtpcdbkaeijhmfaaGreatDoorGH
import Derived.Test.YtpcdbkaeijhmfaaGreatDoorGA
import Derived.Test.YtpcdbkaeijhmfaaGreatDoorHSm
namespace Go.Proofs.YtpcdbkaeijhmfaaGreatDoor
set_option maxRecDepth 100000
set_option linter.unusedVariables false
set_option linter.unusedSimpArgs false
open Go.RowKit
/-- A story's cells that were answered, its lists in memory of their own from B on. -/
def Ans (B : Nat) (st : St) (C : Array Value) (w : World) : Prop := ∃ wv rv av pv, C = stCells st wv rv av pv ∧ Lsts w B st wv rv av pv
section
variable {B : Nat} {st : St} {C : Array Value} {w w' : World}
theorem Ans.kept (h : Ans B st C w) (hF : Frm (fun _ => False) w w') : Ans B st C w' := by
  obtain ⟨wv, rv, av, pv, e, h⟩ := h
  exact ⟨wv, rv, av, pv, e, h.keptF hF⟩
theorem Ans.mono {B' : Nat} (h : Ans B st C w) (hB : B' ≤ B) : Ans B' st C w := by
  obtain ⟨wv, rv, av, pv, e, h⟩ := h
  exact ⟨wv, rv, av, pv, e, h.mono hB⟩
theorem Ans.one (h : Ans B st C w) : C.all (·.oneCell') = true := by
  obtain ⟨wv, rv, av, pv, rfl, h⟩ := h
  exact h.one
theorem Ans.size (h : Ans B st C w) : C.size = 18 := by
  obtain ⟨wv, rv, av, pv, rfl, h⟩ := h
  rfl
theorem Ans.read (h : Ans B st C w) : ∃ wv rv av pv, C = stCells st wv rv av pv ∧ LsR w (InW w) st wv rv av pv := by
  obtain ⟨wv, rv, av, pv, e, h⟩ := h
  exact ⟨wv, rv, av, pv, e, h.read (K := InW w) fun _ _ h => h⟩
theorem TxR.setStory {b : Nat} {cs D : Array Value} {v : Value} {L : List By} (h : TxR w B v L) (hb : Blk w b 33 cs) : TxR (w.setRow b D) B v L := by
  refine h.kept ((Frm.refl (fun q => q = b) w).setRow (.inl rfl) _) (fun q hq e => ?_) fun q cs hc e => ?_
  · subst e
    obtain ⟨vs, h3, -⟩ := h
    exact own_blk_ne h3 hb (by decide) hq
  · subst e
    unfold Blk at hc hb
    rw [hb] at hc
    injection hc with hc
    injection hc with _ hc
    exact absurd hc (by decide)
/-- The story's cells are laid into a block of stories. -/
theorem Ans.lay {b : Nat} {cs D : Array Value} (h : Ans B st C w) (hb : Blk w b 33 cs) : Ans B st C (w.setRow b D) := by
  obtain ⟨wv, rv, av, pv, e, h⟩ := h
  have hF : Frm (fun q => q = b) w (w.setRow b D) := (Frm.refl (fun q => q = b) w).setRow (.inl rfl) _
  exact ⟨wv, rv, av, pv, e, h.words.setStory hb, h.reads.setStory hb, hF.own h.answers (fun q hq e => own_blk_ne h.answers hb (by decide) (by rw [hq, e])), hF.own h.picks (fun q hq e => own_blk_ne h.picks hb (by decide) (by rw [hq, e])), h.apart⟩
end
theorem ans_zero (B : Nat) (w : World) : Ans B zeroSt zeroC w :=
  ⟨.slice none 0 0, .slice none 0 0, .slice none 0 0, .slice none 0 0, rfl, TxR.nil w B, TxR.nil w B, World.ownsRow_nil _ _ _ _, World.ownsRow_nil _ _ _ _, fun q h => by cases h⟩
theorem conf_ans : ∀ (l : List By) (s s' : St), answB s l = some s' → s'.conf = s.conf
  | [], s, s', h => by cases h; rfl
  | w :: r, s, s', h => by
    unfold answB at h
    split at h
    · exact (conf_ans r _ _ h).trans rfl
    · split at h
      · exact (conf_ans r _ _ h).trans rfl
      · cases h
theorem conf_say (s s' : St) (l : List By) (h : sayW s l = some s') (hc : s.conf.length = 7) : s'.conf.length = 7 := by
  cases l with
  | nil => cases h; exact hc
  | cons w r =>
    unfold sayW at h
    simp only at h
    split at h
    · cases h; exact hc
    · split at h
      · split at h
        · cases h; exact hc
        · cases h
      · split at h
        · split at h
          · cases h; exact hc
          · cases h
        · split at h
          · unfold wordB at h
            split at h
            · rw [Option.map_eq_some_iff] at h
              obtain ⟨b, -, rfl⟩ := h
              exact hc
            · cases h
          · split at h
            · unfold readB at h
              split at h
              · rw [Option.map_eq_some_iff] at h
                obtain ⟨b, -, rfl⟩ := h
                exact hc
              · cases h
            · split at h
              · split at h
                · cases h
                · rw [conf_ans _ _ _ h]; exact hc
              · split at h
                · unfold planB at h
                  split at h
                  · split at h
                    · split at h
                      · cases h; exact hc
                      · cases h
                    · cases h
                  · cases h
                · rw [Option.bind_eq_some_iff] at h
                  obtain ⟨ns, h1, h2⟩ := h
                  unfold countsB at h2
                  split at h2
                  · rename_i h7; cases h2; exact h7.2
                  · split at h2
                    · cases h2; exact hc
                    · split at h2
                      · cases h2; exact hc
                      · split at h2
                        · cases h2; exact hc
                        · cases h2
theorem conf_says : ∀ (ls : List By) (s s' : St) (n : Nat), saysB s n ls = .inl s' → s.conf.length = 7 → s'.conf.length = 7 ∧ totS s' ≤ totS s + (ls.map (·.length)).sum
  | [], s, s', n, h, hc => by cases h; exact ⟨hc, by simp⟩
  | l :: r, s, s', n, h, hc => by
    unfold saysB at h
    cases hs : sayB s l with
    | none => rw [hs] at h; cases h
    | some s1 =>
      rw [hs] at h
      have h1 := conf_says r s1 s' (n + 1) h (conf_say s s1 _ hs hc)
      have h2 := sayB_tot s s1 l hs
      exact ⟨h1.1, by rw [List.map_cons, List.sum_cons]; omega⟩
theorem lines_sum (t : By) : ((linesB t).map (·.length)).sum ≤ t.length := by
  have h := linesGo_sum t [] 1
  have e : ∀ (ls : List By) (n : Nat), sumL (numd n ls) = (ls.map (·.length)).sum := by
    intro ls
    induction ls with
    | nil => intro n; rfl
    | cons l ls ih => intro n; have := ih (n + 1); simp only [sumL, numd, List.map_cons, List.sum_cons] at this ⊢; omega
  rw [e] at h
  simpa [linesB] using h
theorem conf_parse (t : By) (s : St) (h : parseB t = .ok s) : s.conf.length = 7 ∧ totS s ≤ t.length := by
  unfold parseB at h
  split at h
  · cases h
  · cases hs : saysB newSt 1 (linesB t) with
    | inr n => rw [hs] at h; cases h
    | inl s1 =>
      rw [hs] at h
      cases h
      have h1 := conf_says _ _ _ _ hs rfl
      have h2 := lines_sum t
      exact ⟨h1.1, by have := h1.2; simp [newSt, zeroSt, totS] at this ⊢; omega⟩
/-- What Parse answers: the story's cells, a number, an error. -/
theorem parse_res {t : By} {w w' : World} {e : Ending} (hP : ParsePost t w e w') : ∃ (C : Array Value) (n : Nat) (er : Int) (st : St), e = .returned (.tuple #[.agg C, .int .i64 n, .int .i64 er]) ∧ Ans w.heap.size st C w' ∧ Frm (fun _ => False) w w' ∧ st.conf.length = 7 ∧ totS st ≤ t.length ∧
    match parseB t with | .ok s => st = s ∧ n = 0 ∧ er = 0 | .line k => st = zeroSt ∧ n = k ∧ er = 300 | .great => st = zeroSt ∧ n = 0 ∧ er = 301 := by
  obtain ⟨hF, hP⟩ := hP
  cases h : parseB t with
  | great =>
    rw [h] at hP
    exact ⟨_, 0, 301, zeroSt, hP, ans_zero _ _, hF, rfl, Nat.zero_le _, rfl, rfl, rfl⟩
  | line k =>
    rw [h] at hP
    exact ⟨_, k, 300, zeroSt, hP, ans_zero _ _, hF, rfl, Nat.zero_le _, rfl, rfl, rfl⟩
  | ok s =>
    rw [h] at hP
    obtain ⟨wv, rv, av, pv, e, hL⟩ := hP
    obtain ⟨h1, h2⟩ := conf_parse t s h
    exact ⟨_, 0, 0, s, e, ⟨wv, rv, av, pv, rfl, hL⟩, hF, h1, h2, rfl, rfl, rfl⟩
theorem parse_ok {t : By} {st : St} {w w' : World} {e : Ending} (h : parseB t = .ok st) (hP : ParsePost t w e w') : ∃ C, e = .returned (.tuple #[.agg C, .int .i64 0, .int .i64 0]) ∧ Ans 0 st C w' ∧ Frm (fun _ => False) w w' := by
  obtain ⟨C, n, er, s, rfl, hA, hF, -, -, hm⟩ := parse_res hP
  rw [h] at hm
  obtain ⟨rfl, rfl, rfl⟩ := hm
  exact ⟨C, rfl, hA.mono (Nat.zero_le _), hF⟩
end Go.Proofs.YtpcdbkaeijhmfaaGreatDoor
namespace Go.Proofs.YtpcdbkaeijhmfaaGreatDoor
set_option maxRecDepth 100000
set_option linter.unusedVariables false
set_option linter.unusedSimpArgs false
open Go.RowKit
attribute [local go_sem] Oper.semAt_some
/-- The blocks of a story's four lists. -/
def Own4 (wv rv av pv : Value) (q : Nat) : Prop := wv.ownBlock = some q ∨ rv.ownBlock = some q ∨ av.ownBlock = some q ∨ pv.ownBlock = some q
/-- What a line's function answers, of a story by value: the new one, its lists in memory from B on. -/
def SayPost (B : Nat) (o : Option St) (wv rv av pv : Value) (w : World) (e : Ending) (w' : World) : Prop :=
  ∃ C', e = .returned (.tuple #[.agg C', .bool o.isSome]) ∧ C'.size = 18 ∧ C'.all (·.oneCell') = true ∧ Frm (Own4 wv rv av pv) w w' ∧ ∀ st', o = some st' → ∃ wv' rv' av' pv', C' = stCells st' wv' rv' av' pv' ∧ Lsts w' B st' wv' rv' av' pv'
theorem results_cs {P : Program} {fn : Func} {p u : Tmp} {ty : TypeId} (h : fn.results = #[.cell p ty, .tmp u]) (tmps : Array Value) (w : World) (g : Nat) (t : TypeId) (cs : Array Value) (fr : Nat × Nat) (d : TypeDesc)
    (hp : tmps.getD p undef = .pointer (some ⟨g, 0, none⟩)) (hg : w.heap[g]? = some (.cells cs t fr))
    (hu : P.underlying ty = some d) (hd : (match d with | .struct _ | .array _ _ => true | _ => false) = true) (hi : (P.info? ty).map (·.size) = some cs.size) :
    (results fn tmps).run P w = .ok (.tuple #[.agg cs, tmps.getD u undef]) w := by
  have hp' : tmps[p]?.getD undef = .pointer (some ⟨g, 0, none⟩) := by simpa using hp
  simp [results, h, hp', asAddr, run_loadVar_row w g t ty cs fr d hg hu hd hi]
/-- A story's result: the cell that is loaded, and a bool. -/
theorem say_ret {fn : Func} {p u : Tmp} (h : fn.results = #[.cell p 33, .tmp u]) {tmps : Array Value} {w : World} {g : Nat} {cs : Array Value} {y : Bool} (hp : tmps.getD p undef = .pointer (some ⟨g, 0, none⟩)) (hb : Blk w g 33 cs) (hs : cs.size = 18) (hu : tmps.getD u undef = .bool y) :
    (results fn tmps).run Tryz.prog w = .ok (.tuple #[.agg cs, .bool y]) w := by
  rw [results_cs h tmps w g 33 cs (0, 0) _ hp hb Tryz.underlying33 rfl (by rw [hs]; exact st_info), hu]
theorem Lsts.oneC {w : World} {B : Nat} {st : St} {wv rv av pv : Value} (h : Lsts w B st wv rv av pv) : (stCells st wv rv av pv).all (·.oneCell') = true ∧ (stCells st wv rv av pv).size = 18 := ⟨h.one, rfl⟩
/-- What a plan's line makes. -/
theorem planB_eq (st : St) (ws : List By) : planB st ws = match ws with
    | [k, a, b] => match kindB k, numsB [a, b] with
      | some k, some [n, m] => if 0 ≤ n ∧ n ≤ 4294967295 then some { st with kind := k, seed := n.toNat, last := m } else none
      | _, _ => none
    | _ => none := by
  match ws with
  | [] => rfl
  | [_] => rfl
  | [_, _] => rfl
  | [k, a, b] =>
    unfold planB
    simp only [numsB]
    cases kindB k <;> cases numB a <;> cases numB b <;> rfl
  | _ :: _ :: _ :: _ :: _ => rfl
end Go.Proofs.YtpcdbkaeijhmfaaGreatDoor
namespace Go.Proofs.YtpcdbkaeijhmfaaGreatDoor
set_option maxRecDepth 100000
set_option linter.unusedVariables false
set_option linter.unusedSimpArgs false
open Go.RowKit
attribute [local go_sem] Oper.semAt_some
def toldL (a0 a1 a2 a3 a4 a5 a6 : Int) (st : St) : List Int := [a0, a1, a2, a3, a4, a5, a6, st.last, st.cancel, st.most] ++ st.picks
def ToldPost (l : List Int) (w : World) (e : Ending) (w' : World) : Prop := ∃ A c, e = .returned (.slice A l.length c) ∧ w'.ownsRow w.heap.size 3 1 (.slice A l.length c) l.length (ivs l) ∧ Frm (fun _ => False) w w'
theorem own_newI (w : World) (cs : Array Value) (hc : cs.size ≤ 1000) : (w.alloc (.cells cs 3)).ownsRow w.heap.size 3 1 (.slice (some ⟨w.heap.size, 0, none⟩) cs.size cs.size) cs.size cs.toList :=
  ⟨by simp, .inr ⟨w.heap.size, cs.size, cs, rfl, Nat.le_refl _, Blk.new w 3 cs, Nat.le_refl _, by unfold maxLen; omega, by simp, by rw [Nat.mul_one, ← Array.length_toList, List.take_length]⟩⟩
set_option maxHeartbeats 3200000 in
theorem told_any (st : St) (a0 a1 a2 a3 a4 a5 a6 : Int) (rv av pv : Value) (w : World) (h : Sl w (InW w) pv (ivs st.picks)) (hl : st.picks.length ≤ 100000) :
    Calls Tryz.prog 30 #[.agg (runCells a0 a1 a2 a3 a4 a5 a6 st rv av pv).toArray] w (ToldPost (toldL a0 a1 a2 a3 a4 a5 a6 st) w) := by
  obtain ⟨i0, hi, hz0, hz1, hz2⟩ := info_parts infoI
  obtain ⟨Ap, np, cp, rfl, hn, hn1, hn2, -⟩ := id h
  have hnp : np = st.picks.length := by rw [ivs, List.length_map] at hn; exact hn
  obtain ⟨D, hD⟩ : ∃ D, D = runCells a0 a1 a2 a3 a4 a5 a6 st rv av (.slice Ap np cp) := ⟨_, rfl⟩
  rw [← hD]
  have HB0 := Lib.hid (Blk.new w 31 D.toArray)
  have HF0 := Lib.hid (show Frm (fun _ => False) w (w.alloc (.cells D.toArray 31)) from (Frm.refl _ w).alloc _)
  have H := Lib.hid (And.intro h (And.intro hl hnp))
  have hn9 : np ≤ 100000 := by omega
  have HD := Lib.hid hD
  clear h hl hnp hn hD
  go_enter Tryz.func30, Tryz.ntmps30
  go_upto_region 1 with fail
  obtain ⟨b, hb⟩ : ∃ b, b = w.heap.size := ⟨_, rfl⟩
  have HB := Lib.hid (show Blk (w.alloc (.cells D.toArray 31)) b 31 D.toArray from hb ▸ HB0.out)
  have Hb := Lib.hid hb
  rw [← hb]
  clear hb HB0
  generalize w.alloc (.cells D.toArray 31) = w1 at *
  have cA : ∀ (k : Nat) v, D[k]? = some v → w1.cell? ⟨b, k, none⟩ = some v := fun k v hv => by rw [HB.out.cell, List.getElem?_toArray]; exact hv
  have c0 : w1.cell? ⟨b, 0, none⟩ = some (.int .i64 a0) := cA 0 _ (by rw [HD.out]; rfl)
  have c1 : w1.cell? ⟨b, 1, none⟩ = some (.int .i64 a1) := cA 1 _ (by rw [HD.out]; rfl)
  have c2 : w1.cell? ⟨b, 2, none⟩ = some (.int .i64 a2) := cA 2 _ (by rw [HD.out]; rfl)
  have c3 : w1.cell? ⟨b, 3, none⟩ = some (.int .i64 a3) := cA 3 _ (by rw [HD.out]; rfl)
  have c4 : w1.cell? ⟨b, 4, none⟩ = some (.int .i64 a4) := cA 4 _ (by rw [HD.out]; rfl)
  have c5 : w1.cell? ⟨b, 5, none⟩ = some (.int .i64 a5) := cA 5 _ (by rw [HD.out]; rfl)
  have c6 : w1.cell? ⟨b, 6, none⟩ = some (.int .i64 a6) := cA 6 _ (by rw [HD.out]; rfl)
  have c10 : w1.cell? ⟨b, 10, none⟩ = some (.slice Ap np cp) := cA 10 _ (by rw [HD.out]; rfl)
  have c13 : w1.cell? ⟨b, 13, none⟩ = some (.int .i64 st.last) := cA 13 _ (by rw [HD.out]; rfl)
  have c14 : w1.cell? ⟨b, 14, none⟩ = some (.int .i64 st.cancel) := cA 14 _ (by rw [HD.out]; rfl)
  have c15 : w1.cell? ⟨b, 15, none⟩ = some (.int .i64 st.most) := cA 15 _ (by rw [HD.out]; rfl)
  clear cA
  go_upto_region 2 with fail
  obtain ⟨Z, hZ⟩ : ∃ Z : Array Value, Z = #[.int .i64 a0, .int .i64 a1, .int .i64 a2, .int .i64 a3, .int .i64 a4, .int .i64 a5, .int .i64 a6] := ⟨_, rfl⟩
  have hX : Frm (fun _ => False) w1 (w1.alloc (.cells Z 24)) := (Frm.refl _ w1).alloc _
  have hBZ := Blk.new w1 24 Z
  rw [← hZ]
  obtain ⟨e, he⟩ : ∃ e, e = w1.heap.size := ⟨_, rfl⟩
  rw [← he] at hBZ ⊢
  clear he
  generalize w1.alloc (.cells Z 24) = w2 at *
  have z0 : w2.cell? ⟨e, 0, none⟩ = some (.int .i64 a0) := by rw [hBZ.cell, hZ]; rfl
  have z1 : w2.cell? ⟨e, 1, none⟩ = some (.int .i64 a1) := by rw [hBZ.cell, hZ]; rfl
  have z2 : w2.cell? ⟨e, 2, none⟩ = some (.int .i64 a2) := by rw [hBZ.cell, hZ]; rfl
  have z3 : w2.cell? ⟨e, 3, none⟩ = some (.int .i64 a3) := by rw [hBZ.cell, hZ]; rfl
  have z4 : w2.cell? ⟨e, 4, none⟩ = some (.int .i64 a4) := by rw [hBZ.cell, hZ]; rfl
  have z5 : w2.cell? ⟨e, 5, none⟩ = some (.int .i64 a5) := by rw [hBZ.cell, hZ]; rfl
  have z6 : w2.cell? ⟨e, 6, none⟩ = some (.int .i64 a6) := by rw [hBZ.cell, hZ]; rfl
  replace c10 := hX.cell c10 id
  replace c13 := hX.cell c13 id
  replace c14 := hX.cell c14 id
  replace c15 := hX.cell c15 id
  have HF2 := Lib.hid (HF0.out.trans' hX)
  clear hX hBZ hZ c0 c1 c2 c3 c4 c5 c6 HF0
  go_upto_region 3 with fail
  obtain ⟨L, hL⟩ : ∃ L : Array Value, L = #[.int .i64 a0, .int .i64 a1, .int .i64 a2, .int .i64 a3, .int .i64 a4, .int .i64 a5, .int .i64 a6, .int .i64 st.last, .int .i64 st.cancel, .int .i64 st.most] := ⟨_, rfl⟩
  have hX : Frm (fun _ => False) w2 (w2.alloc (.cells L 3)) := (Frm.refl _ w2).alloc _
  have hown := own_newI w2 L (by rw [hL]; show 10 ≤ 1000; omega)
  have hown2 : (w2.alloc (.cells L 3)).ownsRow w.heap.size 3 1 (.slice (some ⟨w2.heap.size, 0, none⟩) 10 10) 10 (ivs [a0, a1, a2, a3, a4, a5, a6, st.last, st.cancel, st.most]) := World.ownsRow.mono (by rw [hL] at hown ⊢; exact hown) HF2.out.size
  rw [← hL]
  obtain ⟨q, hq⟩ : ∃ q, q = w2.heap.size := ⟨_, rfl⟩
  rw [← hq] at hown2 ⊢
  clear hq hown hL
  generalize w2.alloc (.cells L 3) = w3 at *
  replace c10 := hX.cell c10 id
  have HF3 := Lib.hid (And.intro (HF2.out.trans' hX) hown2)
  clear hX hown2 z0 z1 z2 z3 z4 z5 z6 c13 c14 c15
  go_wp2_with (at_builtin; go_loud (refine wpList_append_sl (by rfl) _ _ 26 (by rfl) w.heap.size 3 i0 (.int .i64 0) 8 Tryz.underlying26 hi hz0 hz1 hz2 (by rfl) _ 10 _ (by rfl) HF3.out.2 (InW w3) _ (ivs st.picks) (by rfl) (H.out.1.keptTo fun k hk => ⟨HF3.out.1.block k hk id, Nat.lt_of_lt_of_le hk HF3.out.1.size⟩) (ivs_one _) (by have := H.out.2.1; unfold maxLen; simp [ivs]; omega) (by have := H.out.2.1; simp [ivs]; omega) HF3.out.1.size ?_); go_loud (intro A6 N6 c6 w6 HN hNc hc6 hown hg hat))
  have HE := Lib.hid (And.intro hown (And.intro (HF3.out.1.grown hg fun q hq => .inr (HF3.out.2.lt q hq).1) HN))
  clear hown hg hat HN
  go_wp2_with fail
  go_ret
  have hN : N6 = (toldL a0 a1 a2 a3 a4 a5 a6 st).length := by rw [HE.out.2.2.out]; simp [toldL, ivs]; omega
  subst hN
  exact ⟨A6, c6, rfl, by have h1 := HE.out.1; rw [show ivs [a0, a1, a2, a3, a4, a5, a6, st.last, st.cancel, st.most] ++ ivs st.picks = ivs (toldL a0 a1 a2 a3 a4 a5 a6 st) by simp [ivs, toldL]] at h1; exact h1, HE.out.2.1⟩
end Go.Proofs.YtpcdbkaeijhmfaaGreatDoor
