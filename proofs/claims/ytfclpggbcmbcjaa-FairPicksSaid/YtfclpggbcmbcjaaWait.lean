/- Who waits longest: what it comes to, and the walk. -/
import Derived.Test.YtfclpggbcmbcjaaMap
import Derived.Deep.DeepCutAuto
import Derived.Deep.CutBlock
namespace Go.Proofs.Ytfclpggbcmbcjaa
open Go.RowKit
theorem wf64 {a : Int} (h : -9223372036854775808 ≤ a ∧ a ≤ 9223372036854775807) : Wf a := by
  simpa [Wf, Lit.wf, IntKind.min, IntKind.max, IntKind.signed, IntKind.bits] using h
/-- What is known within a turn: how long each waits now, for how many turns at most, who. -/
@[reducible] def WS : Type := (Int → Int) × Int × Int
def wstep (f : Int → Int) (p : Int) (st : WS) (n : Int) : WS :=
  if n = p then st else if st.2.1 < f n + 1 ∨ (f n + 1 = st.2.1 ∧ n < st.2.2) then (upd st.1 n (f n + 1), f n + 1, n) else (upd st.1 n (f n + 1), st.2.1, st.2.2)
def wturn (st : WS) (t : List Int × Int) : WS := t.1.foldl (wstep st.1 t.2) ((fun _ => 0), st.2.1, st.2.2)
def wstart : WS := ((fun _ => 0), 0, 0)
def waitL (ts : List (List Int × Int)) : WS := ts.foldl wturn wstart
theorem waitL_snoc (ts : List (List Int × Int)) (t : List Int × Int) : waitL (ts ++ [t]) = wturn (waitL ts) t := by simp [waitL]
/-- A slice of turns: the slice of numbers, these, who was picked. -/
def TAt (w : World) (A : Option Addr) (m c : Nat) (ts : List (Value × List Int × Int)) : Prop :=
  m = ts.length ∧ m ≤ c ∧ c ≤ 9223372036854775807 ∧ ∀ i (h : i < ts.length), ∃ g o, A = some ⟨g, o, none⟩ ∧ g < w.heap.size ∧ w.cell? ⟨g, o + i * 2, none⟩ = some ts[i].1 ∧ w.cell? ⟨g, o + i * 2 + 1, none⟩ = some (.int .i64 ts[i].2.2) ∧
    Sl w (fun q => q < w.heap.size) ts[i].1 (ts[i].2.1.map iv) ∧ (∀ x ∈ ts[i].2.1, Wf x) ∧ ts[i].2.1.length ≤ 1000000
def Turns (ts : List (Value × List Int × Int)) : List (List Int × Int) := ts.map (·.2)
/-- A bound on what is known. -/
def Bnd (k : Nat) (st : WS) : Prop := (∀ x, 0 ≤ st.1 x ∧ st.1 x ≤ k) ∧ 0 ≤ st.2.1 ∧ st.2.1 ≤ k
theorem Bnd.step {k : Nat} {st : WS} {f : Int → Int} {p n : Int} (h : Bnd (k + 1) st) (hf : ∀ x, 0 ≤ f x ∧ f x ≤ k) : Bnd (k + 1) (wstep f p st n) := by
  obtain ⟨h1, h2, h3⟩ := h
  have := hf n
  unfold wstep
  split
  · exact ⟨h1, h2, h3⟩
  · split
    · exact ⟨fun x => by show 0 ≤ upd st.1 n (f n + 1) x ∧ upd st.1 n (f n + 1) x ≤ _; unfold upd; split; omega; exact h1 x, by show (0 : Int) ≤ f n + 1; omega, by show f n + 1 ≤ ((k + 1 : Nat) : Int); omega⟩
    · exact ⟨fun x => by show 0 ≤ upd st.1 n (f n + 1) x ∧ upd st.1 n (f n + 1) x ≤ _; unfold upd; split; omega; exact h1 x, h2, h3⟩
/-- Between two turns. -/
def WOut (w : World) (ts : List (Value × List Int × Int)) (k : Nat) (vT vN vM : Value) (wr : World) : Prop :=
  ∃ b n, vT = .int .i64 (waitL (Turns (ts.take k))).2.1 ∧ vN = .int .i64 (waitL (Turns (ts.take k))).2.2 ∧ vM = .map (some b) ∧ w.heap.size ≤ b ∧ MapF wr b n (waitL (Turns (ts.take k))).1 ∧ Frm (fun _ => False) w wr ∧ Bnd k (waitL (Turns (ts.take k)))
/-- Between two numbers of a turn. -/
def WIn (w : World) (f : Int → Int) (p : Int) (s0 : WS) (l : List Int) (b b2 q K : Nat) (vT vN : Value) (wr : World) : Prop :=
  ∃ st n m, st = l.foldl (wstep f p) s0 ∧ vT = .int .i64 st.2.1 ∧ vN = .int .i64 st.2.2 ∧ MapF wr b n f ∧ MapF wr b2 m st.1 ∧ m ≤ l.length ∧ Frm (fun _ => False) w wr ∧ Bnd (K + 1) st ∧ wr.cell? ⟨q, 1, none⟩ = some (.int .i64 p)
def WaitPost (ts : List (Value × List Int × Int)) (w : World) (e : Ending) (w' : World) : Prop :=
  e = .returned (.tuple #[.int .i64 (waitL (Turns ts)).2.1, .int .i64 (waitL (Turns ts)).2.2]) ∧ Frm (fun _ => False) w w'
set_option maxRecDepth 100000 in
set_option maxHeartbeats 4000000 in
theorem wait_any (A : Option Addr) (m c : Nat) (ts : List (Value × List Int × Int)) (w : World) (h : TAt w A m c ts) (hm : m ≤ 1000000) :
    Calls Try.prog 11 #[.slice A m c] w (WaitPost ts w) := by
  obtain ⟨hmt, hmc, hcm, hx⟩ := h
  have H := Lib.hid (And.intro hmt hx)
  clear hmt hx
  have hmm := @run_makeMap Try.prog
  go_enter Try.func11, Try.ntmps11
  go_wp2_with fail
  have HT : Hid (WOut w ts 0 (.int .i64 0) (.int .i64 0) (.map (some w.heap.size)) (w.alloc (.map #[] 0))) :=
    Lib.hid ⟨w.heap.size, 0, rfl, rfl, rfl, Nat.le_refl _, MapF.new w, (Frm.refl _ w).alloc _, ⟨fun _ => ⟨Int.le_refl _, Int.le_refl _⟩, Int.le_refl _, Int.le_refl _⟩⟩
  go_loopw [2, 3, 4, 13] (fun vT vN vM i wr => ∃ k : Nat, k ≤ m ∧ i = .int .i64 k ∧ Hid (WOut w ts k vT vN vM wr)) (fun _ _ _ i _ => m - (intOf i).toNat)
  case atStart => exact ⟨0, Nat.zero_le _, rfl, HT⟩
  case round =>
    clear HT
    obtain ⟨k, hk, rfl, hT⟩ := hrel
    by_cases hlt : k < m
    · obtain ⟨b, n, rfl, rfl, rfl, hwb, hM, hF, hB⟩ := hT.out
      obtain ⟨hmt, hx⟩ := H.out
      have hkl : k < ts.length := by omega
      obtain ⟨g, o, rfl, hg, d0, d1, hsl, hwf, hl6⟩ := hx k hkl
      have c0 := hF.cell d0 id
      have c1 := hF.cell d1 id
      have hsn : waitL (Turns (ts.take (k + 1))) = wturn (waitL (Turns (ts.take k))) ts[k].2 := by
        have e : Turns (ts.take (k + 1)) = Turns (ts.take k) ++ [ts[k].2] := by unfold Turns; rw [List.take_succ_eq_append_getElem hkl, List.map_append]; rfl
        rw [e, waitL_snoc]
      have Hold : Hid (∀ (v : Value), v = ts[k].1 → ∀ i, (h : i < ts[k].2.1.length) → ∃ A' n' c', v = .slice A' n' c' ∧ (n' = 0 ∨ ∃ g o, A' = some ⟨g, o, none⟩ ∧ w.cell? ⟨g, o + i, none⟩ = some (.int .i64 (ts[k].2.1)[i]))) := Lib.hid (by
        rintro v rfl i hi
        obtain ⟨A', n', c', e1, -, -, -, e5⟩ := hsl
        refine ⟨A', n', c', e1, e5.imp id ?_⟩
        rintro ⟨g, o, e, _, hc⟩
        exact ⟨g, o, e, by have := hc i (by simpa using hi); simpa [iv] using this⟩)
      have hslr := hsl.keptTo (w' := wr) (K' := fun q => q < wr.heap.size) fun q hq => ⟨hF.block q hq id, Nat.lt_of_lt_of_le hq hF.size⟩
      generalize ts[k] = t at *
      obtain ⟨v, l, p⟩ := t
      dsimp only at c0 c1 hsl hwf hl6 hsn hslr
      generalize hS0 : waitL (Turns (ts.take k)) = s0 at *
      obtain ⟨A', n', c', rfl, hn', hc', hcm', hrow⟩ := id hslr
      rw [List.length_map] at hn'
      have hn6 : n' ≤ 1000000 := by omega
      have Hk := Lib.hid (And.intro hwb (And.intro hM (And.intro hF (And.intro hB (And.intro hsn (And.intro hn' (And.intro hrow hwf)))))))
      clear hT hwb hM hF hB hsn hn' hrow hwf hsl hslr hx hmt hkl d0 d1 hg hl6 hS0
      go_wp2_with fail
      have HI : Hid (WIn w s0.1 p ((fun _ => 0), s0.2.1, s0.2.2) (l.take 0) b (wr.heap.size + 1) wr.heap.size k (.int .i64 s0.2.1) (.int .i64 s0.2.2) ((wr.alloc (.cells #[.slice A' n' c', .int .i64 p] 34)).alloc (.map #[] 0))) := Lib.hid (by
        obtain ⟨hwb, hM, hF, hB, _⟩ := Hk.out
        have hF2 : Frm (fun _ => False) wr ((wr.alloc (.cells #[.slice A' n' c', .int .i64 p] 34)).alloc (.map #[] 0)) := ((Frm.refl _ wr).alloc _).alloc _
        have hM2 := MapF.new (wr.alloc (.cells #[.slice A' n' c', .int .i64 p] 34))
        rw [World.size_alloc] at hM2
        exact ⟨_, n, 0, rfl, rfl, rfl, hM.kept hF2 id, hM2, Nat.zero_le _, hF.trans hF2 fun _ h => h.elim, ⟨fun _ => ⟨Int.le_refl _, by show (0 : Int) ≤ ((k + 1 : Nat) : Int); omega⟩, hB.2.1, by show s0.2.1 ≤ ((k + 1 : Nat) : Int); have h : s0.2.1 ≤ (k : Int) := hB.2.2; omega⟩, ((Blk.new wr 34 #[.slice A' n' c', .int .i64 p]).alloc _).cell 1⟩)
      have HQ : Hid (w.heap.size ≤ wr.heap.size ∧ b < wr.heap.size) := Lib.hid ⟨Hk.out.2.2.1.size, Hk.out.2.1.lt⟩
      have Hf : Hid (∀ i, (h : i < l.length) → n' = 0 ∨ ∃ g o, A' = some ⟨g, o, none⟩ ∧ w.cell? ⟨g, o + i, none⟩ = some (.int .i64 l[i])) := Lib.hid (fun i hi => by
        obtain ⟨A1, n1, c1, e, h⟩ := Hold.out _ rfl i hi
        cases e
        exact h)
      generalize (wr.alloc (.cells #[.slice A' n' c', .int .i64 p] 34)).alloc (.map #[] 0) = w3 at *
      generalize wr.heap.size = q0 at *
      go_loopw [2, 3, 21] (fun vT vN i wq => ∃ q : Nat, q ≤ n' ∧ i = .int .i64 q ∧ Hid (WIn w s0.1 p ((fun _ => 0), s0.2.1, s0.2.2) (l.take q) b (q0 + 1) q0 k vT vN wq)) (fun _ _ i _ => n' - (intOf i).toNat)
      case atStart => exact ⟨0, Nat.zero_le _, rfl, HI⟩
      case round =>
        clear HI
        obtain ⟨q, hq, rfl, hI⟩ := hrel
        by_cases hql : q < n'
        · obtain ⟨st, n1, m1, hst, rfl, rfl, hM, hM2, hm1, hF, hB, hcp⟩ := hI.out
          obtain ⟨_, _, _, hB0, _, hn', _, hwf⟩ := Hk.out
          have hqx : q < l.length := by omega
          obtain ⟨gl, ol, rfl, cl⟩ := (Hf.out q hqx).resolve_left (by omega)
          have cl2 := hF.cell cl id
          have hwx := hwf l[q] (List.getElem_mem hqx)
          have hts : l.take (q + 1) = l.take q ++ [l[q]] := List.take_succ_eq_append_getElem hqx
          have hlq : (l.take q).length = q := by rw [List.length_take]; omega
          generalize l[q] = x at *
          have hfo : wstep s0.1 p st x = (l.take (q + 1)).foldl (wstep s0.1 p) ((fun _ => 0), s0.2.1, s0.2.2) := by rw [hts, List.foldl_append, ← hst]; rfl
          have hv := hB0.1 x
          have hL := hM.look hwx
          have hw1 : IntKind.i64.wrap (s0.1 x + 1) = s0.1 x + 1 := IntWalk.i64_in _ (by omega)
          obtain ⟨w5, hput, hM5, hF5⟩ := hM2.put (by omega) hwx (v := s0.1 x + 1) (wf64 (by omega))
          have hL5 := hM5.look hwx
          have hus : upd st.1 x (s0.1 x + 1) x = s0.1 x + 1 := if_pos rfl
          rw [hus] at hL5
          have HR := Lib.hid (And.intro hM (And.intro hM2 (And.intro hM5 (And.intro hF (And.intro hF5 (And.intro hB (And.intro hm1 (And.intro hlq hfo))))))))
          have Hv := Lib.hid hB0.1
          have hcp5 := hF5.cell hcp (by show ¬ q0 = q0 + 1; omega)
          clear hM hM2 hM5 hF hF5 hB hm1 hlq hfo hus hts hwx hst hwf hn' hB0 hI cl
          by_cases hxp : x = p
          · have hbx : (x == p) = true := by simpa using hxp
            have Hxp := Lib.hid hxp
            clear hput hL hL5 hw1 hcp5 hxp hv
            generalize hT2 : st.2.1 = T at *
            generalize hN2 : st.2.2 = N at *
            have HTN := Lib.hid (And.intro hT2 hN2)
            clear hT2 hN2
            go_wp2_with fail
            go_roundw
            case rel => exact ⟨q + 1, by omega, by go_num, Lib.hid (by
              obtain ⟨hM, hM2, hM5, hF, hF5, hB, hm1, hlq, hfo⟩ := HR.out
              have he : wstep s0.1 p st x = st := by unfold wstep; rw [if_pos Hxp.out]
              rw [he] at hfo
              exact ⟨st, n1, m1, hfo, by rw [HTN.out.1], by rw [HTN.out.2], hM, hM2, by rw [List.length_take] at hm1 ⊢; omega, hF, hB, hcp⟩)⟩
            case measure => simp [intOf]; omega
          · have hbx : (x == p) = false := by simpa using hxp
            have Hxp := Lib.hid hxp
            have HC : Hid (∀ (st' : WS) (vT vN : Value), wstep s0.1 p st x = st' → st'.1 = upd st.1 x (s0.1 x + 1) → vT = .int .i64 st'.2.1 → vN = .int .i64 st'.2.2 → WIn w s0.1 p ((fun _ => 0), s0.2.1, s0.2.2) (l.take (q + 1)) b (q0 + 1) q0 k vT vN w5) := Lib.hid (by
              rintro st' vT vN he h1 rfl rfl
              obtain ⟨hM, hM2, hM5, hF, hF5, hB, hm1, hlq, hfo⟩ := HR.out
              rw [he] at hfo
              have hB5 := hB.step (p := p) (n := x) Hv.out
              rw [he] at hB5
              exact ⟨st', n1, m1 + 1, hfo, rfl, rfl, hM.kept hF5 (by have := HQ.out.2; show ¬ b = q0 + 1; omega), by rw [h1]; exact hM5, by rw [List.length_take] at hm1 ⊢; omega, hF.trans hF5 fun z hz => .inr (by have := HQ.out.1; have : z = q0 + 1 := hz; omega), hB5, hcp5⟩)
            have HS : Hid (∀ st' : WS, st' = (if st.2.1 < s0.1 x + 1 ∨ (s0.1 x + 1 = st.2.1 ∧ x < st.2.2) then (upd st.1 x (s0.1 x + 1), s0.1 x + 1, x) else (upd st.1 x (s0.1 x + 1), st.2.1, st.2.2)) → wstep s0.1 p st x = st') := Lib.hid (by
              rintro st' rfl
              unfold wstep
              rw [if_neg Hxp.out])
            clear hxp hv HR Hv
            generalize hY2 : s0.1 x = y at *
            generalize hT2 : st.2.1 = T at *
            generalize hN2 : st.2.2 = N at *
            have HTN := Lib.hid (And.intro hT2 hN2)
            clear hT2 hN2 hY2
            by_cases h1 : T < y + 1
            · have hd1 : decide (T < y + 1) = true := by simpa using h1
              have he := HS.out _ (by rw [if_pos (.inl h1)])
              have HE := Lib.hid (HC.out _ (.int .i64 (y + 1)) (.int .i64 x) he rfl rfl rfl)
              clear h1 he HS HC
              go_wp2_with fail
              go_roundw
              case rel => exact ⟨q + 1, by omega, by go_num, HE⟩
              case measure => simp [intOf]; omega
            · have hd1 : decide (T < y + 1) = false := by simpa using h1
              by_cases h2 : y + 1 = T
              · have hd2 : (y + 1 == T) = true := by simpa using h2
                by_cases h3 : x < N
                · have hd3 : decide (x < N) = true := by simpa using h3
                  have he := HS.out _ (by rw [if_pos (.inr ⟨h2, h3⟩)])
                  have HE := Lib.hid (HC.out _ (.int .i64 (y + 1)) (.int .i64 x) he rfl rfl rfl)
                  clear h1 h2 h3 he HS HC
                  go_wp2_with fail
                  go_roundw
                  case rel => exact ⟨q + 1, by omega, by go_num, HE⟩
                  case measure => simp [intOf]; omega
                · have hd3 : decide (x < N) = false := by simpa using h3
                  have he := HS.out _ (by rw [if_neg (by rintro (h | ⟨_, h⟩); exact h1 h; exact h3 h)])
                  have HE := Lib.hid (HC.out _ (.int .i64 T) (.int .i64 N) he rfl rfl rfl)
                  clear h1 h2 h3 he HS HC
                  go_wp2_with fail
                  go_roundw
                  case rel => exact ⟨q + 1, by omega, by go_num, HE⟩
                  case measure => simp [intOf]; omega
              · have hd2 : (y + 1 == T) = false := by simpa using h2
                have he := HS.out _ (by rw [if_neg (by rintro (h | ⟨h, _⟩); exact h1 h; exact h2 h)])
                have HE := Lib.hid (HC.out _ (.int .i64 T) (.int .i64 N) he rfl rfl rfl)
                clear h1 h2 he HS HC
                go_wp2_with fail
                go_roundw
                case rel => exact ⟨q + 1, by omega, by go_num, HE⟩
                case measure => simp [intOf]; omega
        · obtain rfl : q = n' := by omega
          obtain ⟨st, n1, m1, hst, rfl, rfl, hM, hM2, hm1, hF, hB, hcp⟩ := hI.out
          have HE : Hid (WOut w ts (k + 1) (.int .i64 st.2.1) (.int .i64 st.2.2) (.map (some (q0 + 1))) wr) := Lib.hid (by
            obtain ⟨_, _, _, _, hsn, hn', _⟩ := Hk.out
            rw [List.take_of_length_le (by omega)] at hst
            have e : waitL (Turns (ts.take (k + 1))) = st := by rw [hsn, hst]; rfl
            refine ⟨q0 + 1, m1, ?_, ?_, rfl, by have := HQ.out.1; omega, ?_, hF, ?_⟩
            all_goals rw [e]
            · exact hM2
            · exact hB)
          clear hM hM2 hm1 hF hB hst hI hcp
          go_wp2_with fail
          go_roundw
          case rel => exact ⟨k + 1, by omega, by go_num, HE⟩
          case measure => simp [intOf]; omega
    · obtain rfl : k = m := by omega
      obtain ⟨b, n, rfl, rfl, rfl, hwb, hM, hF, hB⟩ := hT.out
      have HF := Lib.hid (And.intro hF H.out.1)
      clear hT hwb hM hF hB
      go_wp2_with fail
      go_ret2
      exact ⟨by have := HF.out.2; rw [List.take_of_length_le (by omega)]; rfl, HF.out.1⟩
end Go.Proofs.Ytfclpggbcmbcjaa
