/- script: lines, the iterator over a text's lines, each with its number. -/
import Derived.Test.YtpcdbkaeijhmfaaDoorWd
import Derived.Test.YtpcdbkaeijhmfaaDoorGr
import Derived.Test.YtpcdbkaeijhmfaaDoorRngst
namespace Go.Proofs.YtpcdbkaeijhmfaaDoor
set_option maxRecDepth 100000
set_option linter.unusedVariables false
set_option linter.unusedSimpArgs false
open Go.RowKit Go.Shelf
attribute [local go_sem] Oper.semAt_some
def lineB (t : By) : By := match t.idxOf? 10 with | some k => t.take k | none => t
def restB (t : By) : By := match t.idxOf? 10 with | some k => t.drop (k + 1) | none => []
theorem linesGo_some (t : By) : ∀ (cur : By) (k : Nat), t.idxOf? 10 = some k → linesGo cur t = (cur ++ t.take k) :: linesGo [] (t.drop (k + 1)) := by
  induction t with
  | nil => intro cur k h; simp [List.idxOf?] at h
  | cons c r ih =>
    intro cur k h
    rw [List.idxOf?, List.findIdx?_cons] at h
    rw [linesGo]
    by_cases hc : c = 10
    · subst hc
      have h' : 0 = k := by simpa using h
      subst h'
      simp
    · have hb : (c == 10) = false := by simp [hc]
      rw [hb] at h
      rw [if_neg hc]
      obtain ⟨j, hj, rfl⟩ : ∃ j, r.idxOf? 10 = some j ∧ j + 1 = k := by
        have : Option.map (· + 1) (List.findIdx? (fun x => x == 10) r) = some k := by simpa using h
        rw [Option.map_eq_some_iff] at this
        exact this
      rw [ih (cur ++ [c]) j hj]
      simp
theorem linesGo_none (t : By) : ∀ (cur : By), t.idxOf? 10 = none → linesGo cur t = if cur ++ t = [] then [] else [cur ++ t] := by
  induction t with
  | nil => intro cur _; rw [linesGo, List.append_nil]
  | cons c r ih =>
    intro cur h
    rw [List.idxOf?, List.findIdx?_cons] at h
    rw [linesGo]
    by_cases hc : c = 10
    · subst hc; simp at h
    · have hb : (c == 10) = false := by simp [hc]
      rw [hb] at h
      rw [if_neg hc, ih (cur ++ [c]) (by simpa [List.idxOf?] using h)]
      simp
theorem linesB_cons (t : By) (h : t ≠ []) : linesB t = lineB t :: linesB (restB t) := by
  unfold linesB lineB restB
  cases hk : t.idxOf? 10 with
  | some k => rw [linesGo_some t [] k hk, List.nil_append]
  | none => rw [linesGo_none t [] hk, List.nil_append, if_neg h]; rfl
theorem cut_line (t : By) : (Lib.cut t [10]).1 = lineB t ∧ (Lib.cut t [10]).2.1 = restB t := by
  unfold Lib.cut lineB restB
  rw [Lib.index_one, idx_byte]
  cases t.idxOf? 10 with
  | some k => simp
  | none => simp
theorem rest_lt (t : By) (h : t ≠ []) : (restB t).length < t.length := by
  have := List.length_pos_iff.2 h
  unfold restB
  split
  · rw [List.length_drop]; omega
  · simpa using this
theorem line_le (t : By) : (lineB t).length ≤ t.length := by
  unfold lineB
  split
  · rw [List.length_take]; omega
  · exact Nat.le_refl _
/-- Lines with their numbers. -/
def numd (n : Nat) : List By → List (Nat × By)
  | [] => []
  | l :: r => (n, l) :: numd (n + 1) r
def nEnc (x : Nat × By) : Array Value := #[.int .i64 x.1, .string (ba x.2)]
set_option maxRecDepth 100000 in
set_option maxHeartbeats 4000000 in
theorem lines1_in (n : Nat) (hn : 3 ≤ n) (l b : Nat) (t : By) (J Jx : List (Nat × By) → World → Prop) (ht : t.length ≤ 1000000) (hJ : ∀ pre X Y, J pre X → Frm (fun q => q = b) X Y → KS Y b → J pre Y) (hJx : ∀ pre X Y, Jx pre X → Frm (fun q => q = b) X Y → KS Y b → Jx pre Y)
    (hY : ∀ pre x W1, J pre W1 → (∃ r, (pre ++ [x]) ++ r = numd 1 (linesB t)) → YieldAt Fence.wide (n - 1) Tryd.prog l (nEnc x) W1 fun e W' => (e = .returned (.bool true) ∧ J (pre ++ [x]) W' ∧ Frm (fun q => q ≠ b ∧ q ≠ 0) W1 W') ∨ (e = .returned (.bool false) ∧ Jx (pre ++ [x]) W'))
    (W : World) (m : Int) (hm : W.cell? ⟨0, 0, none⟩ = some (.int .i64 m)) (hb0 : 0 < b) (hb : Blk W b 9 #[.string (ba t)]) (h0 : J [] W) :
    CallsIn Fence.wide n Tryd.prog 41 #[.func (.yield l) #[] #[], .pointer (some ⟨b, 0, none⟩)] W fun e W' => (∃ v, e = .returned v) ∧ ((∃ xs, xs = numd 1 (linesB t) ∧ J xs W') ∨ (∃ pre, (∃ r, pre ++ r = numd 1 (linesB t)) ∧ Jx pre W')) := by
  refine callsIn_of_wp Tryd.func41 rfl trivial ?_ rfl
  simp only [Tryd.ntmps41, List.size_toArray, List.length_cons, List.length_nil, Nat.reduceAdd, Nat.reduceSub, Array.replicate_succ, Array.replicate_zero, List.push_toArray, List.append_toArray, List.nil_append, List.cons_append]
  have HL := Lib.hid (And.intro ht (And.intro hJ (And.intro hJx (And.intro hY hb0))))
  have HT : Hid (∃ pre cur, (1 : Int) = ((pre.length + 1 : Nat) : Int) ∧ Blk W b 9 #[.string (ba cur)] ∧ J pre W ∧ numd 1 (linesB t) = pre ++ numd (pre.length + 1) (linesB cur) ∧ pre.length + cur.length ≤ t.length ∧ W.cell? ⟨0, 0, none⟩ = some (.int .i64 m)) := Lib.hid ⟨[], t, rfl, hb, h0, rfl, by simp, hm⟩
  clear ht hJ hJx hY hb h0 hm hb0
  gi_wp2
  gi_loopw [3] (fun tv wr => ∃ k : Int, tv = .int .i64 k ∧ Hid (∃ pre cur, k = ((pre.length + 1 : Nat) : Int) ∧ Blk wr b 9 #[.string (ba cur)] ∧ J pre wr ∧ numd 1 (linesB t) = pre ++ numd (pre.length + 1) (linesB cur) ∧ pre.length + cur.length ≤ t.length ∧ wr.cell? ⟨0, 0, none⟩ = some (.int .i64 m))) (fun _ wr => lenBox wr b)
  case atStart => exact ⟨1, rfl, HT⟩
  case round =>
    clear HT
    obtain ⟨k, rfl, hrel⟩ := hrel
    obtain ⟨pre, cur, rfl, hB, hJp, hnd, hlen, hm⟩ := hrel.out
    have hc0 : wr.cell? ⟨b, 0, none⟩ = some (.string (ba cur)) := hB.cell 0
    have hf0 := hB.frozen 0
    have hp9 : pre.length ≤ 1000000 := by have := HL.out.1; omega
    by_cases he : cur = []
    · subst he
      have hem : (ba []).toList.isEmpty = true := by rw [ba_toList]; rfl
      have HA := Lib.hid (And.intro hJp hnd)
      clear hB hJp hnd hlen hrel hm
      generalize ba [] = S at *
      gi_wp2_with fail
      refine bodyPost_end (results_none rfl _ _ _) rfl ?_
      obtain ⟨hJp, hnd⟩ := HA.out
      refine ⟨⟨_, rfl⟩, .inl ⟨pre, ?_, hJp⟩⟩
      rw [hnd]; simp [linesB, linesGo, numd]
    · have hem : (ba cur).toList.isEmpty = false := by rw [ba_toList]; simpa using he
      have hct := Tryd.strings_Cut (ba cur) ⟨#[10]⟩ m wr (by rw [ba_size]; have := HL.out.1; omega) hm
      obtain ⟨f, hf⟩ : ∃ f, f = (Lib.cut cur [10]).2.2 := ⟨_, rfl⟩
      have hct : Calls Tryd.prog 42 #[.string (ba cur), .string ⟨#[10]⟩] wr fun e w' => e = .returned (.tuple #[.string (ba (lineB cur)), .string (ba (restB cur)), .bool f]) ∧ ∃ n, w' = wr.drewN n := by
        rw [ba_data, show (ByteArray.mk #[10]).data.toList = [10] from rfl, (cut_line cur).1, (cut_line cur).2, ← hf] at hct
        exact hct
      have HA := Lib.hid (And.intro hB (And.intro hJp (And.intro hnd (And.intro hlen (And.intro hm (And.intro he (lenBox_eq hB)))))))
      clear hB hJp hnd hlen hrel hm he hf
      have Hsl := Lib.hid (And.intro (rest_lt cur HA.out.2.2.2.2.2.1) (linesB_cons cur HA.out.2.2.2.2.2.1))
      obtain ⟨L, hL⟩ : ∃ L, L = lineB cur := ⟨_, rfl⟩
      obtain ⟨R, hR⟩ : ∃ R, R = restB cur := ⟨_, rfl⟩
      rw [← hL, ← hR] at hct
      rw [← hL, ← hR] at Hsl
      have HLR := Lib.hid (And.intro hL hR)
      clear hL hR
      generalize hSL : ba L = SL at *
      generalize hSR : ba R = SR at *
      have HS := Lib.hid (And.intro hSL hSR)
      clear hSL hSR
      generalize ba cur = S at *
      gi_wp2_with fail
      refine ⟨trivial, fun _ => by omega, (callsIn_wide.2 hct).mono ?_⟩
      rintro e w0 ⟨rfl, dn, rfl⟩
      have hF0 : Frm (fun _ => False) wr (wr.drewN dn) := (Frm.refl _ wr).drewN dn
      generalize wr.drewN dn = w1 at *
      have H1 := Lib.hid (And.intro (HL.out.2.1 _ _ _ HA.out.2.1 (hF0.mono fun q h => h.elim) ⟨_, _, HA.out.1.kept hF0 id⟩) (And.intro (HA.out.1.kept hF0 id) (hF0.cell HA.out.2.2.2.2.1 id)))
      have hY1 := HL.out.2.2.2.1 pre (pre.length + 1, L) w1 H1.out.1 ⟨numd (pre.length + 2) (linesB R), by rw [HA.out.2.2.1, Hsl.out.2]; simp [numd]⟩
      simp only [nEnc] at hY1
      rw [HS.out.1, show ((pre.length + 1 : Nat) : Int) = (pre.length : Int) + 1 from rfl] at hY1
      obtain ⟨fn, tmps, assign, body, hy, hRd⟩ := hY1
      clear hct hF0 hc0 hf0
      gi_wp2_with fail
      refine ⟨fun _ => by omega, hRd.mono ?_⟩
      rintro e4 w4 (⟨rfl, hJ4, hk4⟩ | ⟨rfl, hJ4⟩)
      · have hbn : ¬ (b ≠ b ∧ b ≠ 0) := fun h => h.1 rfl
        have h0n : ¬ ((0 : Nat) ≠ b ∧ (0 : Nat) ≠ 0) := fun h => h.2 rfl
        have hB4 := H1.out.2.1.kept hk4 hbn
        have hm4 := hk4.cell H1.out.2.2 h0n
        have hc4 : w4.cell? ⟨b, 0, none⟩ = some (.string S) := hB4.cell 0
        have hf4 := hB4.frozen 0
        have H4 := Lib.hid (And.intro hJ4 (And.intro hB4 hm4))
        clear hJ4 hk4 hB4 hm4 hRd hy
        gi_wp2_with fail
        go_roundw
        case rel =>
          obtain ⟨hB, hJp, hnd, hlen, hm, he, hlb⟩ := HA.out
          rw [← HS.out.2]
          refine ⟨_, rfl, Lib.hid ⟨pre ++ [(pre.length + 1, L)], R, ?_, H4.out.2.1.set_ 0 _, HL.out.2.1 _ _ _ H4.out.1 ((Frm.refl (fun q => q = b) w4).setCell ⟨b, 0, none⟩ (.inl rfl) _) ⟨_, _, H4.out.2.1.set_ 0 _⟩, ?_, ?_, ?_⟩⟩
          · simp
          · rw [hnd, Hsl.out.2]; simp [numd]
          · have h1 := Hsl.out.1
            have g1 : (pre ++ [(pre.length + 1, L)]).length = pre.length + 1 := by simp
            omega
          · exact ((Frm.refl (fun q => q = b) w4).setCell ⟨b, 0, none⟩ (.inl rfl) _).cell H4.out.2.2 (by show ¬ 0 = b; have := HL.out.2.2.2.2; omega)
        case measure =>
          rw [← HS.out.2, lenBox_eq (H4.out.2.1.set_ 0 (.string (ba R))), HA.out.2.2.2.2.2.2]
          exact Hsl.out.1
      · clear hRd hy
        gi_wp2_with fail
        refine bodyPost_ret (results_none rfl _ _ _) rfl ?_
        refine ⟨⟨_, rfl⟩, .inr ⟨pre ++ [(pre.length + 1, L)], ⟨numd (pre.length + 2) (linesB R), ?_⟩, hJ4⟩⟩
        rw [HA.out.2.2.1, Hsl.out.2]; simp [numd]
theorem lines_any (t : By) (w : World) : Calls Tryd.prog 24 #[.string (ba t)] w fun e w' => e = .returned (.func (.func 41) #[] #[.pointer (some ⟨w.heap.size, 0, none⟩)]) ∧ w' = w.alloc (.cells #[.string (ba t)] 9) := by
  generalize ba t = S
  go_enter Tryd.func24, Tryd.ntmps24
  go_wp2
  go_ret
  exact ⟨rfl, rfl⟩
/-- Lines' iterator, as a loop's contract. -/
theorem lines_seq (n b : Nat) (hn : 3 ≤ n) (t : By) (w : World) (m : Int) (ht : t.length ≤ 1000000) (hm : w.cell? ⟨0, 0, none⟩ = some (.int .i64 m)) (hb0 : 0 < b) (hb : Blk w b 9 #[.string (ba t)]) :
    SeqWS Fence.wide n Tryd.prog 41 #[.pointer (some ⟨b, 0, none⟩)] nEnc (fun X Y => Frm (fun q => q = b) X Y ∧ KS Y b) (fun X Y => Frm (fun q => q ≠ b ∧ q ≠ 0) X Y) (fun xs => xs = numd 1 (linesB t)) (fun pre => ∃ r, pre ++ r = numd 1 (linesB t)) w := fun l J Jx W hW hJ hJx hY h0 =>
  lines1_in n hn l b t J Jx ht (fun s X Y h h1 h2 => hJ s X Y h ⟨h1, h2⟩) (fun s X Y h h1 h2 => hJx s X Y h ⟨h1, h2⟩) hY W m (hW.cell hm id) hb0 (hb.kept hW id) h0
end Go.Proofs.YtpcdbkaeijhmfaaDoor
