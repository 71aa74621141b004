/- script: great; lines, plain. script: lines, the iterator over a text's lines, each with its number. script: what a script's lines make, plain; a story kept. Rows built, loaded and stored within a fence: the list's steps. script: Parse, what its loop keeps. script: Parse. The document's script: numbers. -/
import Derived.Great.BuildSlice
import Derived.RangeFuncCalls
import Derived.Test.YtpcdbkaeijhmfaaGreatDoorHLn
import Derived.Test.YtpcdbkaeijhmfaaGreatDoorGA
import Derived.Test.YtpcdbkaeijhmfaaGreatDoorHWd
import Derived.Test.YtpcdbkaeijhmfaaGreatDoorHQn
namespace Go.Proofs.YtpcdbkaeijhmfaaGreatDoor
set_option maxRecDepth 100000
set_option linter.unusedVariables false
set_option linter.unusedSimpArgs false
open Go.RowKit
theorem linesGo_len : ∀ (t cur : By), (linesGo cur t).length = t.count 10 + (if t = [] then (if cur = [] then 0 else 1) else if t.getLast? = some 10 then 0 else 1)
  | [], cur => by
    unfold linesGo
    by_cases h : cur = [] <;> simp [h]
  | c :: r, cur => by
    unfold linesGo
    by_cases hc : c = 10
    · subst hc
      rw [if_pos rfl, List.length_cons, linesGo_len r []]
      cases r with
      | nil => simp
      | cons d r => simp [List.getLast?_cons_cons]; omega
    · rw [if_neg hc, linesGo_len r (cur ++ [c])]
      cases r with
      | nil => simp [hc]
      | cons d r => simp [List.getLast?_cons_cons, hc]
theorem linesB_len (t : By) : (linesB t).length = t.count 10 + (if t = [] then 0 else if t.getLast? = some 10 then 0 else 1) := by
  unfold linesB
  rw [linesGo_len]
  by_cases h : t = [] <;> simp [h]
def greatB (t : By) : Bool := decide (t.length > maxText ∨ (linesB t).length > maxLines)
set_option maxHeartbeats 1600000 in
theorem great_any (t : By) (w : World) (ht : t.length ≤ 9000000000000000000) : Calls Tryz.prog 15 #[.string (ba t)] w fun e w' => e = .returned (.bool (greatB t)) ∧ w = w' := by
  have hco : ∀ w, Calls Tryz.prog 37 #[.string (ba t), .string ⟨#[10]⟩] w fun e w' => e = .returned (.int .i64 (t.count 10 : Nat)) ∧ w' = w := fun w => Tryz.strings_Count_one (ba t) 10 w
  have hsu : ∀ w, Calls Tryz.prog 38 #[.string (ba t), .string ⟨#[10]⟩] w fun e w' => e = .returned (.bool (decide (t.getLast? = some 10))) ∧ w' = w := fun w => by
    have := Tryz.strings_HasSuffix (ba t) ⟨#[10]⟩ w (by rw [ba_size]; omega)
    rw [ba_data, show (⟨#[10]⟩ : ByteArray).data.toList = [10] from rfl, suffix_one] at this
    exact this
  have hsz : (ba t).size = t.length := rfl
  have hem : (ba t).toList.isEmpty = decide (t = []) := by rw [ba_toList]; cases t <;> simp
  have hcl := List.count_le_length (a := (10 : UInt8)) (l := t)
  obtain ⟨r, hr⟩ : ∃ r, r = greatB t := ⟨_, rfl⟩
  rw [← hr]
  unfold greatB at hr
  rw [linesB_len] at hr
  obtain ⟨n, hn⟩ : ∃ n, n = t.length := ⟨_, rfl⟩
  rw [← hn] at hsz ht hr hcl
  have HC := Lib.hid (And.intro hco hsu)
  generalize ba t = S at *
  generalize t.count 10 = k at *
  by_cases h1 : n > maxText
  · have Hr := Lib.hid (show r = true by rw [hr]; exact decide_eq_true (.inl h1))
    unfold maxText at h1
    clear hr hco hsu hem hn
    go_enter Tryz.func15, Tryz.ntmps15
    go_wp2_with fail
    go_ret
    exact ⟨ret_bool Hr.out.symm, rfl⟩
  · have hn9 : n ≤ 65536 := by unfold maxText at h1; omega
    by_cases h0 : t = []
    · rw [decide_eq_true h0] at hem
      have Hr := Lib.hid (show r = decide (k > 1000) by
        rw [hr, if_pos h0, decide_eq_decide]; unfold maxText maxLines; omega)
      clear hr hco hsu hn h0 h1
      go_enter Tryz.func15, Tryz.ntmps15
      go_wp2_with fail
      refine (HC.out.1 w).mono ?_
      rintro e w1 ⟨rfl, rfl⟩
      go_wp2_with fail
      all_goals
        go_ret
        refine ⟨ret_bool ?_, rfl⟩
        rw [Hr.out]
        first | rfl | (rw [decide_eq_decide]; omega)
    · rw [decide_eq_false h0] at hem
      by_cases hs : t.getLast? = some 10
      · have Hr := Lib.hid (show r = decide (k > 1000) by
          rw [hr, if_neg h0, if_pos hs, decide_eq_decide]; unfold maxText maxLines; omega)
        have Hsu := Lib.hid (show Calls Tryz.prog 38 #[.string S, .string ⟨#[10]⟩] w fun e w' => e = .returned (.bool true) ∧ w' = w by have := hsu w; rwa [decide_eq_true hs] at this)
        clear hr hco hsu hn h0 h1 hs
        go_enter Tryz.func15, Tryz.ntmps15
        go_wp2_with fail
        refine (HC.out.1 w).mono ?_
        rintro e w1 ⟨rfl, rfl⟩
        go_wp2_with fail
        refine Hsu.out.mono ?_
        rintro e w1 ⟨rfl, rfl⟩
        go_wp2_with fail
        all_goals
          go_ret
          refine ⟨ret_bool ?_, rfl⟩
          rw [Hr.out]
          first | rfl | (rw [decide_eq_decide]; omega)
      · have Hr := Lib.hid (show r = decide (k + 1 > 1000) by
          rw [hr, if_neg h0, if_neg hs, decide_eq_decide]; unfold maxText maxLines; omega)
        have Hsu := Lib.hid (show Calls Tryz.prog 38 #[.string S, .string ⟨#[10]⟩] w fun e w' => e = .returned (.bool false) ∧ w' = w by have := hsu w; rwa [decide_eq_false hs] at this)
        clear hr hco hsu hn h0 h1 hs
        go_enter Tryz.func15, Tryz.ntmps15
        go_wp2_with fail
        refine (HC.out.1 w).mono ?_
        rintro e w1 ⟨rfl, rfl⟩
        go_wp2_with fail
        refine Hsu.out.mono ?_
        rintro e w1 ⟨rfl, rfl⟩
        go_wp2_with fail
        all_goals
          go_ret
          refine ⟨ret_bool ?_, rfl⟩
          rw [Hr.out]
          first | rfl | (rw [decide_eq_decide]; omega)
end Go.Proofs.YtpcdbkaeijhmfaaGreatDoor
namespace Go.Proofs.YtpcdbkaeijhmfaaGreatDoor
set_option maxRecDepth 100000
set_option linter.unusedVariables false
set_option linter.unusedSimpArgs false
open Go.RowKit Go.Shelf
attribute [local go_sem] Oper.semAt_some
def lineB (t : By) : By := match t.idxOf? 10 with | some k => t.take k | none => t
def restB (t : By) : By := match t.idxOf? 10 with | some k => t.drop (k + 1) | none => []
theorem linesGo_some (t : By) : ∀ (cur : By) (k : Nat), t.idxOf? 10 = some k → linesGo cur t = (cur ++ t.take k) :: linesGo [] (t.drop (k + 1)) := by
  induction t with
  | nil => intro cur k h; simp [List.idxOf?] at h
  | cons c r ih =>
    intro cur k h
    rw [List.idxOf?, List.findIdx?_cons] at h
    rw [linesGo]
    by_cases hc : c = 10
    · subst hc
      have h' : 0 = k := by simpa using h
      subst h'
      simp
    · have hb : (c == 10) = false := by simp [hc]
      rw [hb] at h
      rw [if_neg hc]
      obtain ⟨j, hj, rfl⟩ : ∃ j, r.idxOf? 10 = some j ∧ j + 1 = k := by
        have : Option.map (· + 1) (List.findIdx? (fun x => x == 10) r) = some k := by simpa using h
        rw [Option.map_eq_some_iff] at this
        exact this
      rw [ih (cur ++ [c]) j hj]
      simp
theorem linesGo_none (t : By) : ∀ (cur : By), t.idxOf? 10 = none → linesGo cur t = if cur ++ t = [] then [] else [cur ++ t] := by
  induction t with
  | nil => intro cur _; rw [linesGo, List.append_nil]
  | cons c r ih =>
    intro cur h
    rw [List.idxOf?, List.findIdx?_cons] at h
    rw [linesGo]
    by_cases hc : c = 10
    · subst hc; simp at h
    · have hb : (c == 10) = false := by simp [hc]
      rw [hb] at h
      rw [if_neg hc, ih (cur ++ [c]) (by simpa [List.idxOf?] using h)]
      simp
theorem linesB_cons (t : By) (h : t ≠ []) : linesB t = lineB t :: linesB (restB t) := by
  unfold linesB lineB restB
  cases hk : t.idxOf? 10 with
  | some k => rw [linesGo_some t [] k hk, List.nil_append]
  | none => rw [linesGo_none t [] hk, List.nil_append, if_neg h]; rfl
theorem cut_line (t : By) : (Lib.cut t [10]).1 = lineB t ∧ (Lib.cut t [10]).2.1 = restB t := by
  unfold Lib.cut lineB restB
  rw [Lib.index_one, idx_byte]
  cases t.idxOf? 10 with
  | some k => simp
  | none => simp
theorem rest_lt (t : By) (h : t ≠ []) : (restB t).length < t.length := by
  have := List.length_pos_iff.2 h
  unfold restB
  split
  · rw [List.length_drop]; omega
  · simpa using this
theorem line_le (t : By) : (lineB t).length ≤ t.length := by
  unfold lineB
  split
  · rw [List.length_take]; omega
  · exact Nat.le_refl _
/-- Lines with their numbers. -/
def numd (n : Nat) : List By → List (Nat × By)
  | [] => []
  | l :: r => (n, l) :: numd (n + 1) r
def nEnc (x : Nat × By) : Array Value := #[.int .i64 x.1, .string (ba x.2)]
set_option maxRecDepth 100000 in
set_option maxHeartbeats 4000000 in
theorem lines1_in (n : Nat) (hn : 3 ≤ n) (l b : Nat) (t : By) (J Jx : List (Nat × By) → World → Prop) (ht : t.length ≤ 1000000) (hJ : ∀ pre X Y, J pre X → Frm (fun q => q = b) X Y → KS Y b → J pre Y) (hJx : ∀ pre X Y, Jx pre X → Frm (fun q => q = b) X Y → KS Y b → Jx pre Y)
    (hY : ∀ pre x W1, J pre W1 → (∃ r, (pre ++ [x]) ++ r = numd 1 (linesB t)) → YieldAt Fence.wide (n - 1) Tryz.prog l (nEnc x) W1 fun e W' => (e = .returned (.bool true) ∧ J (pre ++ [x]) W' ∧ Frm (fun q => q ≠ b ∧ q ≠ 0) W1 W') ∨ (e = .returned (.bool false) ∧ Jx (pre ++ [x]) W'))
    (W : World) (m : Int) (hm : W.cell? ⟨0, 0, none⟩ = some (.int .i64 m)) (hb0 : 0 < b) (hb : Blk W b 9 #[.string (ba t)]) (h0 : J [] W) :
    CallsIn Fence.wide n Tryz.prog 39 #[.func (.yield l) #[] #[], .pointer (some ⟨b, 0, none⟩)] W fun e W' => (∃ v, e = .returned v) ∧ ((∃ xs, xs = numd 1 (linesB t) ∧ J xs W') ∨ (∃ pre, (∃ r, pre ++ r = numd 1 (linesB t)) ∧ Jx pre W')) := by
  refine callsIn_of_wp Tryz.func39 rfl trivial ?_ rfl
  simp only [Tryz.ntmps39, List.size_toArray, List.length_cons, List.length_nil, Nat.reduceAdd, Nat.reduceSub, Array.replicate_succ, Array.replicate_zero, List.push_toArray, List.append_toArray, List.nil_append, List.cons_append]
  have HL := Lib.hid (And.intro ht (And.intro hJ (And.intro hJx (And.intro hY hb0))))
  have HT : Hid (∃ pre cur, (1 : Int) = ((pre.length + 1 : Nat) : Int) ∧ Blk W b 9 #[.string (ba cur)] ∧ J pre W ∧ numd 1 (linesB t) = pre ++ numd (pre.length + 1) (linesB cur) ∧ pre.length + cur.length ≤ t.length ∧ W.cell? ⟨0, 0, none⟩ = some (.int .i64 m)) := Lib.hid ⟨[], t, rfl, hb, h0, rfl, by simp, hm⟩
  clear ht hJ hJx hY hb h0 hm hb0
  gi_wp2
  gi_loopw [3] (fun tv wr => ∃ k : Int, tv = .int .i64 k ∧ Hid (∃ pre cur, k = ((pre.length + 1 : Nat) : Int) ∧ Blk wr b 9 #[.string (ba cur)] ∧ J pre wr ∧ numd 1 (linesB t) = pre ++ numd (pre.length + 1) (linesB cur) ∧ pre.length + cur.length ≤ t.length ∧ wr.cell? ⟨0, 0, none⟩ = some (.int .i64 m))) (fun _ wr => lenBox wr b)
  case atStart => exact ⟨1, rfl, HT⟩
  case round =>
    clear HT
    obtain ⟨k, rfl, hrel⟩ := hrel
    obtain ⟨pre, cur, rfl, hB, hJp, hnd, hlen, hm⟩ := hrel.out
    have hc0 : wr.cell? ⟨b, 0, none⟩ = some (.string (ba cur)) := hB.cell 0
    have hf0 := hB.frozen 0
    have hp9 : pre.length ≤ 1000000 := by have := HL.out.1; omega
    by_cases he : cur = []
    · subst he
      have hem : (ba []).toList.isEmpty = true := by rw [ba_toList]; rfl
      have HA := Lib.hid (And.intro hJp hnd)
      clear hB hJp hnd hlen hrel hm
      generalize ba [] = S at *
      gi_wp2_with fail
      refine bodyPost_end (results_none rfl _ _ _) rfl ?_
      obtain ⟨hJp, hnd⟩ := HA.out
      refine ⟨⟨_, rfl⟩, .inl ⟨pre, ?_, hJp⟩⟩
      rw [hnd]; simp [linesB, linesGo, numd]
    · have hem : (ba cur).toList.isEmpty = false := by rw [ba_toList]; simpa using he
      have hct := Tryz.strings_Cut (ba cur) ⟨#[10]⟩ m wr (by rw [ba_size]; have := HL.out.1; omega) hm
      obtain ⟨f, hf⟩ : ∃ f, f = (Lib.cut cur [10]).2.2 := ⟨_, rfl⟩
      have hct : Calls Tryz.prog 40 #[.string (ba cur), .string ⟨#[10]⟩] wr fun e w' => e = .returned (.tuple #[.string (ba (lineB cur)), .string (ba (restB cur)), .bool f]) ∧ ∃ n, w' = wr.drewN n := by
        rw [ba_data, show (ByteArray.mk #[10]).data.toList = [10] from rfl, (cut_line cur).1, (cut_line cur).2, ← hf] at hct
        exact hct
      have HA := Lib.hid (And.intro hB (And.intro hJp (And.intro hnd (And.intro hlen (And.intro hm (And.intro he (lenBox_eq hB)))))))
      clear hB hJp hnd hlen hrel hm he hf
      have Hsl := Lib.hid (And.intro (rest_lt cur HA.out.2.2.2.2.2.1) (linesB_cons cur HA.out.2.2.2.2.2.1))
      obtain ⟨L, hL⟩ : ∃ L, L = lineB cur := ⟨_, rfl⟩
      obtain ⟨R, hR⟩ : ∃ R, R = restB cur := ⟨_, rfl⟩
      rw [← hL, ← hR] at hct
      rw [← hL, ← hR] at Hsl
      have HLR := Lib.hid (And.intro hL hR)
      clear hL hR
      generalize hSL : ba L = SL at *
      generalize hSR : ba R = SR at *
      have HS := Lib.hid (And.intro hSL hSR)
      clear hSL hSR
      generalize ba cur = S at *
      gi_wp2_with fail
      refine ⟨trivial, fun _ => by omega, (callsIn_wide.2 hct).mono ?_⟩
      rintro e w0 ⟨rfl, dn, rfl⟩
      have hF0 : Frm (fun _ => False) wr (wr.drewN dn) := (Frm.refl _ wr).drewN dn
      generalize wr.drewN dn = w1 at *
      have H1 := Lib.hid (And.intro (HL.out.2.1 _ _ _ HA.out.2.1 (hF0.mono fun q h => h.elim) ⟨_, _, HA.out.1.kept hF0 id⟩) (And.intro (HA.out.1.kept hF0 id) (hF0.cell HA.out.2.2.2.2.1 id)))
      have hY1 := HL.out.2.2.2.1 pre (pre.length + 1, L) w1 H1.out.1 ⟨numd (pre.length + 2) (linesB R), by rw [HA.out.2.2.1, Hsl.out.2]; simp [numd]⟩
      simp only [nEnc] at hY1
      rw [HS.out.1, show ((pre.length + 1 : Nat) : Int) = (pre.length : Int) + 1 from rfl] at hY1
      obtain ⟨fn, tmps, assign, body, hy, hRd⟩ := hY1
      clear hct hF0 hc0 hf0
      gi_wp2_with fail
      refine ⟨fun _ => by omega, hRd.mono ?_⟩
      rintro e4 w4 (⟨rfl, hJ4, hk4⟩ | ⟨rfl, hJ4⟩)
      · have hbn : ¬ (b ≠ b ∧ b ≠ 0) := fun h => h.1 rfl
        have h0n : ¬ ((0 : Nat) ≠ b ∧ (0 : Nat) ≠ 0) := fun h => h.2 rfl
        have hB4 := H1.out.2.1.kept hk4 hbn
        have hm4 := hk4.cell H1.out.2.2 h0n
        have hc4 : w4.cell? ⟨b, 0, none⟩ = some (.string S) := hB4.cell 0
        have hf4 := hB4.frozen 0
        have H4 := Lib.hid (And.intro hJ4 (And.intro hB4 hm4))
        clear hJ4 hk4 hB4 hm4 hRd hy
        gi_wp2_with fail
        go_roundw
        case rel =>
          obtain ⟨hB, hJp, hnd, hlen, hm, he, hlb⟩ := HA.out
          rw [← HS.out.2]
          refine ⟨_, rfl, Lib.hid ⟨pre ++ [(pre.length + 1, L)], R, ?_, H4.out.2.1.set_ 0 _, HL.out.2.1 _ _ _ H4.out.1 ((Frm.refl (fun q => q = b) w4).setCell ⟨b, 0, none⟩ (.inl rfl) _) ⟨_, _, H4.out.2.1.set_ 0 _⟩, ?_, ?_, ?_⟩⟩
          · simp
          · rw [hnd, Hsl.out.2]; simp [numd]
          · have h1 := Hsl.out.1
            have g1 : (pre ++ [(pre.length + 1, L)]).length = pre.length + 1 := by simp
            omega
          · exact ((Frm.refl (fun q => q = b) w4).setCell ⟨b, 0, none⟩ (.inl rfl) _).cell H4.out.2.2 (by show ¬ 0 = b; have := HL.out.2.2.2.2; omega)
        case measure =>
          rw [← HS.out.2, lenBox_eq (H4.out.2.1.set_ 0 (.string (ba R))), HA.out.2.2.2.2.2.2]
          exact Hsl.out.1
      · clear hRd hy
        gi_wp2_with fail
        refine bodyPost_ret (results_none rfl _ _ _) rfl ?_
        refine ⟨⟨_, rfl⟩, .inr ⟨pre ++ [(pre.length + 1, L)], ⟨numd (pre.length + 2) (linesB R), ?_⟩, hJ4⟩⟩
        rw [HA.out.2.2.1, Hsl.out.2]; simp [numd]
theorem lines_any (t : By) (w : World) : Calls Tryz.prog 16 #[.string (ba t)] w fun e w' => e = .returned (.func (.func 39) #[] #[.pointer (some ⟨w.heap.size, 0, none⟩)]) ∧ w' = w.alloc (.cells #[.string (ba t)] 9) := by
  generalize ba t = S
  go_enter Tryz.func16, Tryz.ntmps16
  go_wp2
  go_ret
  exact ⟨rfl, rfl⟩
/-- Lines' iterator, as a loop's contract. -/
theorem lines_seq (n b : Nat) (hn : 3 ≤ n) (t : By) (w : World) (m : Int) (ht : t.length ≤ 1000000) (hm : w.cell? ⟨0, 0, none⟩ = some (.int .i64 m)) (hb0 : 0 < b) (hb : Blk w b 9 #[.string (ba t)]) :
    SeqWS Fence.wide n Tryz.prog 39 #[.pointer (some ⟨b, 0, none⟩)] nEnc (fun X Y => Frm (fun q => q = b) X Y ∧ KS Y b) (fun X Y => Frm (fun q => q ≠ b ∧ q ≠ 0) X Y) (fun xs => xs = numd 1 (linesB t)) (fun pre => ∃ r, pre ++ r = numd 1 (linesB t)) w := fun l J Jx W hW hJ hJx hY h0 =>
  lines1_in n hn l b t J Jx ht (fun s X Y h h1 h2 => hJ s X Y h ⟨h1, h2⟩) (fun s X Y h h1 h2 => hJx s X Y h ⟨h1, h2⟩) hY W m (hW.cell hm id) hb0 (hb.kept hW id) h0
end Go.Proofs.YtpcdbkaeijhmfaaGreatDoor
namespace Go.Proofs.YtpcdbkaeijhmfaaGreatDoor
set_option maxRecDepth 100000
set_option linter.unusedVariables false
set_option linter.unusedSimpArgs false
open Go.RowKit
/-- Lines, one behind the other. -/
def runN (s : St) : List (Nat × By) → Option St
  | [] => some s
  | x :: r => (sayB s x.2).bind fun s' => runN s' r
theorem runN_snoc (pre : List (Nat × By)) : ∀ (s : St) (x : Nat × By), runN s (pre ++ [x]) = (runN s pre).bind fun s' => sayB s' x.2 := by
  induction pre with
  | nil => intro s x; show (sayB s x.2).bind (fun s' => runN s' []) = sayB s x.2; cases sayB s x.2 <;> rfl
  | cons y r ih =>
    intro s x
    show (sayB s y.2).bind _ = ((sayB s y.2).bind _).bind _
    cases sayB s y.2 with
    | none => rfl
    | some s' => exact ih s' x
theorem saysB_all (ls : List By) : ∀ (s s' : St) (n : Nat), runN s (numd n ls) = some s' → saysB s n ls = .inl s' := by
  induction ls with
  | nil => intro s s' n h; cases h; rfl
  | cons l r ih =>
    intro s s' n h
    rw [saysB]
    have h : (sayB s l).bind (fun s' => runN s' (numd (n + 1) r)) = some s' := h
    cases hs : sayB s l with
    | none => rw [hs] at h; cases h
    | some s1 => rw [hs] at h; exact ih s1 s' (n + 1) h
theorem saysB_stop (pre : List (Nat × By)) : ∀ (ls : List By) (s s1 : St) (n : Nat) (x : Nat × By) (r : List (Nat × By)), (pre ++ [x]) ++ r = numd n ls → runN s pre = some s1 → sayB s1 x.2 = none → saysB s n ls = .inr x.1 := by
  induction pre with
  | nil =>
    intro ls s s1 n x r h h1 h2
    cases h1
    cases ls with
    | nil => cases h
    | cons l q => injection h with h _; subst h; rw [saysB, h2]
  | cons y pre ih =>
    intro ls s s1 n x r h h1 h2
    cases ls with
    | nil => cases h
    | cons l q =>
      injection h with h h'
      subst h
      have h1 : (sayB s l).bind (fun s' => runN s' pre) = some s1 := h1
      rw [saysB]
      cases hs : sayB s l with
      | none => rw [hs] at h1; cases h1
      | some s2 => rw [hs] at h1; exact ih q s2 s1 (n + 1) x r h' h1 h2
def sumL (l : List (Nat × By)) : Nat := (l.map fun x => x.2.length).sum
theorem linesGo_sum (t : By) : ∀ (cur : By) (n : Nat), sumL (numd n (linesGo cur t)) ≤ cur.length + t.length := by
  induction t with
  | nil => intro cur n; unfold linesGo; split <;> simp [numd, sumL]
  | cons c r ih =>
    intro cur n
    unfold linesGo
    split
    · have := ih [] (n + 1)
      simp only [numd, sumL, List.map_cons, List.sum_cons, List.length_cons, List.length_nil] at this ⊢
      omega
    · have := ih (cur ++ [c]) n
      simp only [List.length_append, List.length_cons, List.length_nil] at this ⊢
      omega
theorem sumL_app (a b : List (Nat × By)) : sumL (a ++ b) = sumL a + sumL b := by simp [sumL]
theorem linesB_sum (t : By) (pre r : List (Nat × By)) (h : pre ++ r = numd 1 (linesB t)) : sumL pre ≤ t.length := by
  have h1 := linesGo_sum t [] 1
  have h2 : sumL (pre ++ r) = _ := congrArg sumL h
  rw [sumL_app] at h2
  unfold linesB at h2
  simp only [List.length_nil] at h1
  omega
theorem answB_tot (l : List By) : ∀ (s s' : St), answB s l = some s' → totS s' = totS s + l.length := by
  induction l with
  | nil => intro s s' h; cases h; rfl
  | cons w r ih =>
    intro s s' h
    unfold answB at h
    split at h
    · rw [ih _ _ h]; simp [totS]; omega
    · split at h
      · rw [ih _ _ h]; simp [totS]; omega
      · cases h
theorem sayW_tot (s s' : St) (l : List By) (h : sayW s l = some s') : totS s' ≤ totS s + l.length := by
  cases l with
  | nil => cases h; simp
  | cons w r =>
    unfold sayW at h
    simp only at h
    split at h
    · cases h; omega
    · split at h
      · split at h
        · cases h; simp [totS]
        · cases h
      · split at h
        · split at h
          · cases h; simp [totS]
          · cases h
        · split at h
          · unfold wordB at h
            split at h
            · rw [Option.map_eq_some_iff] at h
              obtain ⟨b, -, rfl⟩ := h
              simp [totS]; omega
            · cases h
          · split at h
            · unfold readB at h
              split at h
              · rw [Option.map_eq_some_iff] at h
                obtain ⟨b, -, rfl⟩ := h
                simp [totS]; omega
              · cases h
            · split at h
              · split at h
                · cases h
                · rw [answB_tot _ _ _ h, List.length_cons]; omega
              · split at h
                · unfold planB at h
                  split at h
                  · split at h
                    · split at h
                      · cases h; simp [totS]
                      · cases h
                    · cases h
                  · cases h
                · rw [Option.bind_eq_some_iff] at h
                  obtain ⟨ns, h1, h2⟩ := h
                  have h3 := numsB_len r ns h1
                  unfold countsB at h2
                  split at h2
                  · cases h2; simp [totS]
                  · split at h2
                    · cases h2; simp [totS]; omega
                    · split at h2
                      · cases h2; simp [totS]
                      · split at h2
                        · cases h2; simp [totS]
                        · cases h2
theorem sayB_tot (s s' : St) (t : By) (h : sayB s t = some s') : totS s' ≤ totS s + t.length := by
  have h1 := sayW_tot s s' _ h
  have h2 := (wordsB_all t).2
  omega
/-- A story, kept where what is turned is no row of its kinds. -/
theorem StO.keptG {w w' : World} {b : Nat} {st : St} {K : Nat → Prop} (h : StO w b st) (hF : Frm K w w') (hK : ∀ q t cs, K q → Blk w q t cs → t = 9) : StO w' b st := by
  have hk : ∀ q, K q → ¬ StK w b q := fun q hq hs => by
    obtain ⟨t, cs, h1, h2⟩ := h.ty hs
    exact h2 (hK q t cs hq h1)
  have hu : ∀ q cs, Blk w q 5 cs → ¬ K q := fun q cs hc hq => absurd (hK q _ cs hq hc) (by decide)
  obtain ⟨wv, rv, av, pv, hb, hl⟩ := h
  have hc := fun i => hb.cell i
  refine ⟨wv, rv, av, pv, hb.kept hF fun hq => hk b hq (.inl rfl), hl.words.kept hF (fun q hq e => hk q e (.inr ⟨1, wv, .inl rfl, hc 1, hq⟩)) hu, hl.reads.kept hF (fun q hq e => hk q e (.inr ⟨10, rv, .inr (.inl rfl), hc 10, hq⟩)) hu,
    hF.own hl.answers fun q hq e => hk q e (.inr ⟨11, av, .inr (.inr (.inl rfl)), hc 11, hq⟩), hF.own hl.picks fun q hq e => hk q e (.inr ⟨12, pv, .inr (.inr (.inr rfl)), hc 12, hq⟩), hl.apart⟩
theorem StO.keptS {w w' : World} {b q : Nat} {st : St} (h : StO w b st) (hF : Frm (fun x => x = q) w w') (hq : KS w q) : StO w' b st := h.keptG hF fun q' t cs hk hb => by
  subst hk
  obtain ⟨cs', fr, h1⟩ := hq
  unfold Blk at hb
  rw [hb] at h1
  injection h1 with h1
  injection h1 with _ h1
theorem StO.keptN {w w' : World} {b : Nat} {st : St} {row : Option Nat} (h : StO w b st) (hg : w.grownBy w' row) (hr : ∀ r, row = some r → ∃ o : Obj, w.heap[r]? = some o ∧ o.isCells = false) : StO w' b st := h.keptG (Frm.of_grown hg) fun q t cs hk hb => by
  obtain ⟨o, h1, h2⟩ := hr q hk
  unfold Blk at hb
  rw [hb] at h1
  cases h1
  cases h2
theorem StK.ge {w : World} {b q : Nat} {st : St} (h : StO w b st) (hq : StK w b q) : b ≤ q := by
  obtain ⟨wv, rv, av, pv, hb, hl⟩ := h
  rcases hq with rfl | ⟨i, v, h1, h2, h3⟩
  · exact Nat.le_refl _
  · have hc := hb.cell i
    rw [h2] at hc
    rcases h1 with rfl | rfl | rfl | rfl
    · cases hc; have := (hl.words.lt q h3).1; omega
    · cases hc; have := (hl.reads.lt q h3).1; omega
    · cases hc; have := (hl.answers.lt q h3).1; omega
    · cases hc; have := (hl.picks.lt q h3).1; omega
end Go.Proofs.YtpcdbkaeijhmfaaGreatDoor
namespace Go.Proofs.YtpcdbkaeijhmfaaGreatDoor
set_option maxRecDepth 100000
set_option linter.unusedVariables false
set_option linter.unusedSimpArgs false
open Go.RowKit
section
variable {F : Fence} {n : Nat} {P : Program} {ops : Array Oper} {Q : Exit → Act → World → Prop} {a : Act} {w : World} {rest : List Oper} {o : Oper}
theorem wpListIn_of (hg : o.guard = none) (hd : ∀ c, o.op ≠ .defer c) (hc : o.about P w a.eval = none) (h : o.uponIn F n P a (wpListIn F n P ops Q rest) Q ((execOp a.eval o).run P w)) : wpListIn F n P ops Q (o :: rest) a w := by
  simp only [wpListIn, Region.wanted, hg, if_true]
  refine ⟨fun f hf => (by rw [hc] at hf; cases hf), ?_⟩
  rw [Oper.semAt_eq _ _ _ hd]
  exact h
theorem wpListIn_val (hg : o.guard = none) (hd : ∀ c, o.op ≠ .defer c) (hc : o.about P w a.eval = none) (d : Option Tmp) (hdst : o.dst = d) {v : Value} (hr : (execOp a.eval o).run P w = .ok (.value v) w) (h : wpListIn F n P ops Q rest (a.put d v) w) : wpListIn F n P ops Q (o :: rest) a w :=
  wpListIn_of hg hd hc (by rw [hr]; subst hdst; exact h)
theorem wpListIn_buildTo (hg : o.guard = none) (t : TypeId) (parts : Array (Nat × Operand)) (ho : o.op = .build t parts)
    (d : Option Tmp) (hd : o.dst = d) (cells : Array Value) (hf : P.built t (parts.map fun (i, x) => (i, a.eval x)).toList = some cells)
    (h : wpListIn F n P ops Q rest (a.put d (.agg cells)) w) : wpListIn F n P ops Q (o :: rest) a w := by
  subst hd
  refine wpListIn_of hg (fun c hc => by rw [ho] at hc; cases hc) (by simp only [Oper.about, ho]) ?_
  unfold execOp
  simp only [ho, Sem.run_bind, run_build w t _ cells hf, Result.andThen_ok]
  exact h
theorem wpListIn_store_rowTo (hgd : o.guard = none) (ty : TypeId) (x y : Operand) (ho : o.op = .store ty x y)
    (hd : o.dst = none) (g : Nat) (cells : Array Value) (hx : a.eval x = .pointer (some ⟨g, 0, none⟩)) (hy : a.eval y = .agg cells)
    (t : TypeId) (old : Array Value) (hg : w.heap[g]? = some (.cells old t (0, 0))) (hi : (P.info? ty).map (·.size) = some cells.size)
    (hold : old.size = cells.size) (h1 : cells.all (·.oneCell') = true)
    (h : wpListIn F n P ops Q rest a (w.setRow g cells)) : wpListIn F n P ops Q (o :: rest) a w := by
  refine wpListIn_of hgd (fun c hc => by rw [ho] at hc; cases hc) (by simp only [Oper.about, ho]) ?_
  unfold execOp
  simp only [ho, hx, hy, Instr.storeAt, Instr.sureAddr, Sem.run_bind, Sem.run_pure, Result.andThen_ok, run_storeVar_row w g t ty old cells hg hi hold h1]
  show wpListIn F n P ops Q rest (a.put o.dst undef) (w.setRow g cells)
  rw [hd]
  exact h
theorem wpListIn_load_row (hgd : o.guard = none) (ty : TypeId) (x : Operand) (ho : o.op = .load ty x)
    (g : Nat) (hx : a.eval x = .pointer (some ⟨g, 0, none⟩)) (t : TypeId) (cs : Array Value) (fr : Nat × Nat) (d : TypeDesc) (hg : w.heap[g]? = some (.cells cs t fr))
    (hu : P.underlying ty = some d) (hd : (match d with | .struct _ | .array _ _ => true | _ => false) = true) (hi : (P.info? ty).map (·.size) = some cs.size)
    (h : wpListIn F n P ops Q rest (a.put o.dst (.agg cs)) w) : wpListIn F n P ops Q (o :: rest) a w := by
  refine wpListIn_of hgd (fun c hc => by rw [ho] at hc; cases hc) (by simp only [Oper.about, ho]) ?_
  unfold execOp
  simp only [ho, hx, Instr.loadAt, Instr.sureAddr, Sem.run_bind, Sem.run_pure, Result.andThen_ok, run_loadVar_row w g t ty cs fr d hg hu hd hi]
  exact h
end
end Go.Proofs.YtpcdbkaeijhmfaaGreatDoor
namespace Go.Proofs.YtpcdbkaeijhmfaaGreatDoor
set_option maxRecDepth 100000
set_option linter.unusedVariables false
set_option linter.unusedSimpArgs false
open Go.RowKit
/-- The cells of no story. -/
def zeroC : Array Value := stCells zeroSt (.slice none 0 0) (.slice none 0 0) (.slice none 0 0) (.slice none 0 0)
/-- Behind some lines. -/
structure PI (w : World) (n b d : Nat) (pre : List (Nat × By)) (W : World) : Prop where
  st : ∃ st, runN newSt pre = some st ∧ StO W b st ∧ totS st ≤ sumL pre
  ks : KS W d
  b0 : Blk W n 33 zeroC
  b1 : Blk W (n + 1) 3 #[.int .i64 0]
  b2 : Blk W (n + 2) 37 #[.int .i64 0]
  fr : Frm (fun _ => False) w W
/-- Behind one that is none. -/
structure PX (w : World) (n : Nat) (pre : List (Nat × By)) (W : World) : Prop where
  st : ∃ pre0 x st, pre = pre0 ++ [x] ∧ runN newSt pre0 = some st ∧ sayB st x.2 = none ∧ Blk W (n + 1) 3 #[.int .i64 x.1]
  b0 : Blk W n 33 zeroC
  b2 : Blk W (n + 2) 37 #[.int .i64 300]
  fr : Frm (fun _ => False) w W
theorem KS.keepF {X Y : World} {d : Nat} {K : Nat → Prop} (h : KS X d) (hF : Frm K X Y) (hk : ¬ K d) : KS Y d := by
  obtain ⟨cs, fr, e⟩ := h
  exact ⟨cs, fr, (hF.block d (lt_heap e) hk).trans e⟩
theorem PI.step {w X Y : World} {n b d : Nat} {pre : List (Nat × By)} (h : PI w n b d pre X) (hn : n = w.heap.size) (hd : n + 2 < d) (hF : Frm (fun q => q = d) X Y) (hk : KS Y d) : PI w n b d pre Y := by
  obtain ⟨st, h1, h2, h3⟩ := h.st
  exact ⟨⟨st, h1, h2.keptS hF h.ks, h3⟩, hk, h.b0.kept hF (by show ¬ n = d; omega), h.b1.kept hF (by show ¬ n + 1 = d; omega), h.b2.kept hF (by show ¬ n + 2 = d; omega), h.fr.trans hF fun q hq => .inr (by omega)⟩
theorem PX.step {w X Y : World} {n d : Nat} {pre : List (Nat × By)} (h : PX w n pre X) (hn : n = w.heap.size) (hd : n + 2 < d) (hF : Frm (fun q => q = d) X Y) : PX w n pre Y := by
  obtain ⟨p, x, st, h1, h2, h3, h4⟩ := h.st
  exact ⟨⟨p, x, st, h1, h2, h3, h4.kept hF (by show ¬ n + 1 = d; omega)⟩, h.b0.kept hF (by show ¬ n = d; omega), h.b2.kept hF (by show ¬ n + 2 = d; omega), h.fr.trans hF fun q hq => .inr (by omega)⟩
theorem PI.own {w : World} {n b d B : Nat} (hn : n = w.heap.size) (hB : n + 2 < B ∧ d < B) : OwnFrom B (PI w n b d) := by
  intro pre X Y row h hg hr
  have hF := Frm.of_grown hg
  obtain ⟨st, h1, h2, h3⟩ := h.st
  have hx : ∀ q, q < B → ¬ row = some q := fun q hq e => by have := (hr q e).1; omega
  exact ⟨⟨st, h1, h2.keptN hg fun r e => (hr r e).2, h3⟩, h.ks.keepF hF (hx d hB.2), h.b0.kept hF (hx _ (by omega)), h.b1.kept hF (hx _ (by omega)), h.b2.kept hF (hx _ (by omega)), h.fr.trans hF fun q hq => .inr (by have := (hr q hq).1; omega)⟩
theorem PX.own {w : World} {n B : Nat} (hn : n = w.heap.size) (hB : n + 2 < B) : OwnFrom B (PX w n) := by
  intro pre X Y row h hg hr
  have hF := Frm.of_grown hg
  obtain ⟨p, x, st, h1, h2, h3, h4⟩ := h.st
  have hx : ∀ q, q < B → ¬ row = some q := fun q hq e => by have := (hr q e).1; omega
  exact ⟨⟨p, x, st, h1, h2, h3, h4.kept hF (hx _ (by omega))⟩, h.b0.kept hF (hx _ (by omega)), h.b2.kept hF (hx _ (by omega)), h.fr.trans hF fun q hq => .inr (by have := (hr q hq).1; omega)⟩
theorem StT.keeps {B b : Nat} {st : St} {X Y : World} (h : StO X b st) (hT : StT b X Y) : KeepsFrom B X Y :=
  ⟨hT.1.size, fun k o _ hk ho => (hT.1.block k (lt_heap hk) fun hq => by
    obtain ⟨t, cs, h1, -⟩ := h.ty hq
    unfold Blk at h1
    rw [h1] at hk
    cases hk
    cases ho).trans hk⟩
theorem PI.line {w X Y : World} {n b d : Nat} {pre : List (Nat × By)} {x : Nat × By} {st st' : St} (h : PI w n b d pre X) (hn : n = w.heap.size) (hd : n + 2 < b ∧ b < d) (h1 : runN newSt pre = some st) (h2 : StO X b st) (h3 : totS st ≤ sumL pre) (hs : sayB st x.2 = some st') (hT : StT b X Y) (hO : StO Y b st') :
    PI w n b d (pre ++ [x]) Y ∧ Frm (fun q => q ≠ d ∧ q ≠ 0) X Y := by
  have hlo : ∀ q, StK X b q → b ≤ q := fun q hq => hq.ge h2
  have hnd : ¬ StK X b d := h2.noS h.ks
  refine ⟨⟨⟨st', by rw [runN_snoc, h1]; exact hs, hO, ?_⟩, h.ks.keepF hT.1 hnd, h.b0.kept hT.1 (fun hq => by have := hlo _ hq; omega), h.b1.kept hT.1 (fun hq => by have := hlo _ hq; omega), h.b2.kept hT.1 (fun hq => by have := hlo _ hq; omega), h.fr.trans hT.1 fun q hq => .inr (by have := hlo _ hq; omega)⟩,
    hT.1.mono fun q hq => .inl ⟨fun e => hnd (e ▸ hq), fun e => by have := hlo _ hq; omega⟩⟩
  have := sayB_tot st st' x.2 hs
  rw [sumL_app]
  simp only [sumL, List.map_cons, List.map_nil, List.sum_cons, List.sum_nil] at *
  omega
/-- What is left where a line is none. -/
theorem PI.stop {w X Y : World} {n b d : Nat} {pre : List (Nat × By)} {x : Nat × By} {st : St} (h : PI w n b d pre X) (hn : n = w.heap.size) (hd : n + 2 < b ∧ b < d) (h1 : runN newSt pre = some st) (h2 : StO X b st) (hs : sayB st x.2 = none) (hT : StT b X Y) :
    Blk Y n 33 zeroC ∧ Blk Y (n + 1) 3 #[.int .i64 0] ∧ Blk Y (n + 2) 37 #[.int .i64 0] ∧ Frm (fun _ => False) w Y := by
  have hlo : ∀ q, StK X b q → b ≤ q := fun q hq => hq.ge h2
  exact ⟨h.b0.kept hT.1 (fun hq => by have := hlo _ hq; omega), h.b1.kept hT.1 (fun hq => by have := hlo _ hq; omega), h.b2.kept hT.1 (fun hq => by have := hlo _ hq; omega), h.fr.trans hT.1 fun q hq => .inr (by have := hlo _ hq; omega)⟩
theorem Lsts.keptK {w w' : World} {B : Nat} {st : St} {wv rv av pv : Value} {K : Nat → Prop} (h : Lsts w B st wv rv av pv) (hF : Frm K w w') (hk : ∀ q, K q → q < B ∨ ∀ t cs, ¬ Blk w q t cs) (hu : ∀ q cs, Blk w q 5 cs → ¬ K q) : Lsts w' B st wv rv av pv := by
  have hn : ∀ {t : TypeId} {v : Value} {n s : Nat} {xs : List Value}, w.ownsRow B t s v n xs → ∀ q, v.ownBlock = some q → ¬ K q := fun ho q hq hK => by
    obtain ⟨cs, hb⟩ := own_blk ho q hq
    rcases hk q hK with h1 | h1
    · have := (ho.lt q hq).1; omega
    · exact h1 _ cs hb
  refine ⟨h.words.kept hF (fun q hq => by obtain ⟨vs, h1, -⟩ := h.words; exact hn h1 q hq) hu, h.reads.kept hF (fun q hq => by obtain ⟨vs, h1, -⟩ := h.reads; exact hn h1 q hq) hu, hF.own h.answers (hn h.answers), hF.own h.picks (hn h.picks), h.apart⟩
theorem Lsts.mono {w : World} {B B' : Nat} {st : St} {wv rv av pv : Value} (h : Lsts w B st wv rv av pv) (hB : B' ≤ B) : Lsts w B' st wv rv av pv :=
  ⟨h.words.mono hB, h.reads.mono hB, World.ownsRow.mono h.answers hB, World.ownsRow.mono h.picks hB, h.apart⟩
end Go.Proofs.YtpcdbkaeijhmfaaGreatDoor
namespace Go.Proofs.YtpcdbkaeijhmfaaGreatDoor
set_option maxRecDepth 100000
set_option linter.unusedVariables false
set_option linter.unusedSimpArgs false
open Go.RowKit
attribute [local go_sem] Oper.semAt_some
theorem stCells_one {st : St} {wv rv av pv : Value} (h : wv.oneCell' = true ∧ rv.oneCell' = true ∧ av.oneCell' = true ∧ pv.oneCell' = true) : (stCells st wv rv av pv).all (·.oneCell') = true := by
  obtain ⟨h1, h2, h3, h4⟩ := h
  simp only [stCells, List.all_toArray, List.all_cons, List.all_nil, h1, h2, h3, h4]
  rfl
theorem st_info : (Tryz.prog.info? 33).map (·.size) = some 18 := by kernel_rfl
theorem zeroC_built : Tryz.prog.built 33 [] = some zeroC := by kernel_rfl
theorem results_p {fn : Func} (h : fn.results = #[.cell 2 33, .cell 3 3, .cell 4 37]) (tmps : Array Value) (w : World) (n : Nat) (cs : Array Value) (t : TypeId) (k e : Int)
    (h2 : tmps.getD 2 undef = .pointer (some ⟨n, 0, none⟩)) (h3 : tmps.getD 3 undef = .pointer (some ⟨n + 1, 0, none⟩)) (h4 : tmps.getD 4 undef = .pointer (some ⟨n + 1 + 1, 0, none⟩))
    (hb : Blk w n t cs) (hs : cs.size = 18) (hc : w.cell? ⟨n + 1, 0, none⟩ = some (.int .i64 k)) (hd : w.cell? ⟨n + 1 + 1, 0, none⟩ = some (.int .i64 e)) : (results fn tmps).run Tryz.prog w = .ok (.tuple #[.agg cs, .int .i64 k, .int .i64 e]) w := by
  have h2' : tmps[2]?.getD undef = .pointer (some ⟨n, 0, none⟩) := by simpa using h2
  have h3' : tmps[3]?.getD undef = .pointer (some ⟨n + 1, 0, none⟩) := by simpa using h3
  have h4' : tmps[4]?.getD undef = .pointer (some ⟨n + 1 + 1, 0, none⟩) := by simpa using h4
  have e1 : (loadVar 33 ⟨n, 0, none⟩).run Tryz.prog w = .ok (.agg cs) w := run_loadVar_row w n _ _ cs (0, 0) _ hb Tryz.underlying33 rfl (by rw [hs]; exact st_info)
  have e2 : (loadVar 3 ⟨n + 1, 0, none⟩).run Tryz.prog w = .ok (.int .i64 k) w := by simp [go_sem, hc]
  have e3 : (loadVar 37 ⟨n + 1 + 1, 0, none⟩).run Tryz.prog w = .ok (.int .i64 e) w := by simp [go_sem, hd]
  simp [results, h, h2', h3', h4', asAddr, e1, e2, e3]
/-- What Parse answers. -/
def ParsePost (t : By) (w : World) (e : Ending) (w' : World) : Prop :=
  Frm (fun _ => False) w w' ∧ match parseB t with
  | .great => e = .returned (.tuple #[.agg zeroC, .int .i64 0, .int .i64 301])
  | .line k => e = .returned (.tuple #[.agg zeroC, .int .i64 k, .int .i64 300])
  | .ok st => ∃ wv rv av pv, e = .returned (.tuple #[.agg (stCells st wv rv av pv), .int .i64 0, .int .i64 0]) ∧ Lsts w' w.heap.size st wv rv av pv
set_option maxRecDepth 100000 in
set_option maxHeartbeats 8000000 in
theorem parse_any (sl : Value) (t : By) (w : World) (m : Int) (hm : w.cell? ⟨0, 0, none⟩ = some (.int .i64 m)) (ht : t.length ≤ 9000000000000000000)
    (hJ : ∀ W, Frm (fun _ => False) w W → Calls Tryz.prog 14 #[sl, .string ⟨#[]⟩] W fun e W' => e = .returned (.string (ba t)) ∧ Frm (fun _ => False) W W') :
    Calls Tryz.prog 6 #[sl] w (ParsePost t w) := by
  have HJ := Lib.hid hJ
  have hb0 : 0 < w.heap.size := by
    by_cases h : 0 < w.heap.size
    · exact h
    · exfalso
      have h' : w.heap.size = 0 := by omega
      simp [World.cell?, h', Array.getElem?_eq_none] at hm
  clear hJ
  refine (callsIn_wide (n := 8)).1 ?_
  refine callsIn_of_wp_marks Tryz.func6 rfl trivial ?_ rfl
  simp only [Tryz.ntmps6, List.size_toArray, List.length_cons, List.length_nil, Nat.reduceAdd, Nat.reduceSub, Array.replicate_succ, Array.replicate_zero, List.push_toArray, List.append_toArray, List.nil_append, List.cons_append]
  gi_wp2_with fail
  refine ⟨trivial, ?_⟩
  obtain ⟨n, hn⟩ : ∃ n, n = w.heap.size := ⟨_, rfl⟩
  have hB0 := Blk.new w 33 (stCells zeroSt (.slice none 0 0) (.slice none 0 0) (.slice none 0 0) (.slice none 0 0))
  have hF0 : Frm (fun _ => False) w (w.alloc (.cells (stCells zeroSt (.slice none 0 0) (.slice none 0 0) (.slice none 0 0) (.slice none 0 0)) 33)) := (Frm.refl _ w).alloc _
  have hS0 : (w.alloc (.cells (stCells zeroSt (.slice none 0 0) (.slice none 0 0) (.slice none 0 0) (.slice none 0 0)) 33)).heap.size = n + 1 := by rw [World.size_alloc, hn]
  simp only [stCells, zeroSt, List.getD_cons_zero, List.getD_cons_succ] at hB0 hF0 hS0
  rw [← hn] at hB0 ⊢
  generalize w.alloc _ = w1 at hB0 hF0 hS0 ⊢
  have hB1 := Blk.new w1 3 #[.int .i64 0]
  have hF1 : Frm (fun _ => False) w1 (w1.alloc (.cells #[.int .i64 0] 3)) := (Frm.refl _ w1).alloc _
  have hS1 : (w1.alloc (.cells #[.int .i64 0] 3)).heap.size = n + 2 := by rw [World.size_alloc, hS0]
  rw [hS0] at hB1
  generalize w1.alloc (.cells #[.int .i64 0] 3) = w2 at hB1 hF1 hS1 ⊢
  have hB2 := Blk.new w2 37 #[.int .i64 0]
  have hF2 : Frm (fun _ => False) w2 (w2.alloc (.cells #[.int .i64 0] 37)) := (Frm.refl _ w2).alloc _
  have hS2 : (w2.alloc (.cells #[.int .i64 0] 37)).heap.size = n + 3 := by rw [World.size_alloc, hS1]
  rw [hS1] at hB2
  generalize w2.alloc (.cells #[.int .i64 0] 37) = w3 at hB2 hF2 hS2 ⊢
  refine (callsIn_wide.2 (HJ.out w3 (hF0.trans' (hF1.trans' hF2)))).mono ?_
  rintro e w4 ⟨rfl, hF3⟩
  have hB0 := ((hB0.kept hF1 id).kept hF2 id).kept hF3 id
  have hB1 := (hB1.kept hF2 id).kept hF3 id
  have hB2 := hB2.kept hF3 id
  have hF4 := hF0.trans' (hF1.trans' (hF2.trans' hF3))
  have HA := Lib.hid (And.intro hB0 (And.intro hB1 (And.intro hB2 (And.intro hF4 (And.intro hn (show n + 3 ≤ w4.heap.size by rw [← hS2]; exact hF3.size))))))
  have Hm := Lib.hid (And.intro hm hb0)
  clear hF0 hF1 hF2 hF3 hS0 hS1 hS2 hn hF4 hm hb0
  have hg := great_any t w4 ht
  obtain ⟨g, hgr⟩ : ∃ g, g = greatB t := ⟨_, rfl⟩
  rw [← hgr] at hg
  have Hgr := Lib.hid hgr
  clear hgr
  obtain ⟨S, hS⟩ : ∃ S, S = ba t := ⟨_, rfl⟩
  rw [← hS] at hg ⊢
  have HS := Lib.hid hS
  clear hS
  gi_wp2_with fail
  refine ⟨trivial, (callsIn_wide.2 hg).mono ?_⟩
  rintro e w5 ⟨rfl, rfl⟩
  cases g with
  | true =>
    gi_upto_region 3 with fail
    refine wpIn_region_lit ?_
    refine wpListIn_buildTo rfl 33 #[] rfl (some 13) rfl zeroC (by simp only [List.map_toArray, List.map_nil]; exact zeroC_built) ?_
    refine wpListIn_store_rowTo rfl 33 (.tmp 2) (.tmp 13) rfl rfl n zeroC rfl rfl _ _ HA.out.1 st_info rfl (stCells_one ⟨rfl, rfl, rfl, rfl⟩) ?_
    have hF5 : Frm (fun q => q = n) w4 (w4.setRow n zeroC) := (Frm.refl (fun q => q = n) w4).setRow (.inl rfl) _
    have hC0 : Blk (w4.setRow n zeroC) n 33 zeroC := HA.out.1.setRow _
    have hC1 := HA.out.2.1.kept hF5 (show ¬ n + 1 = n by omega)
    have hC2 := HA.out.2.2.1.kept hF5 (show ¬ n + 2 = n by omega)
    generalize w4.setRow n zeroC = w6 at *
    have c1 : w6.cell? ⟨n + 1, 0, none⟩ = some (.int .i64 0) := hC1.cell 0
    have f1 := hC1.frozen 0
    have c2 : w6.cell? ⟨n + 1 + 1, 0, none⟩ = some (.int .i64 0) := hC2.cell 0
    have f2 : w6.frozen? ⟨n + 1 + 1, 0, none⟩ = false := hC2.frozen 0
    simp only [Act.put, List.setIfInBounds_toArray, List.set_cons_succ, List.set_cons_zero]
    gi_wp2_with fail
    have hF6 := ((hF5.mono (K' := fun q => n ≤ q) fun q hq => .inl (by omega)).setCell ⟨n + 1, 0, none⟩ (.inl (by show n ≤ n + 1; omega)) (.int .i64 0)).setCell ⟨n + 1 + 1, 0, none⟩ (.inl (by show n ≤ n + 1 + 1; omega)) (.int .i64 301)
    have hC3 := (hC0.far (p := ⟨n + 1, 0, none⟩) (show n ≠ n + 1 by omega) (.int .i64 0)).far (p := ⟨n + 1 + 1, 0, none⟩) (show n ≠ n + 1 + 1 by omega) (.int .i64 301)
    have hC4 := ((hC1.set_ 0 (.int .i64 0)).far (p := ⟨n + 1 + 1, 0, none⟩) (show n + 1 ≠ n + 1 + 1 by omega) (.int .i64 301)).cell 0
    have hC5 := ((Blk.far hC2 (p := ⟨n + 1, 0, none⟩) (show n + 2 ≠ n + 1 by omega) (.int .i64 0)).set_ 0 (.int .i64 301)).cell 0
    refine ⟨_, results_p rfl _ _ n zeroC _ 0 301 rfl rfl rfl hC3 rfl hC4 hC5, ?_⟩
    refine ⟨HA.out.2.2.2.1.trans hF6 fun q hq => .inr (by have := HA.out.2.2.2.2.1; omega), ?_⟩
    rw [show parseB t = .great by unfold parseB; exact if_pos (of_decide_eq_true Hgr.out.symm)]
  | false =>
    gi_upto_region 5 with fail
    obtain ⟨b, hb⟩ : ∃ b, b = w4.heap.size := ⟨_, rfl⟩
    have hBs := Blk.new w4 50 zeroC
    have hFs : Frm (fun _ => False) w4 (w4.alloc (.cells zeroC 50)) := (Frm.refl _ w4).alloc _
    simp only [zeroC, stCells, zeroSt, List.getD_cons_zero, List.getD_cons_succ] at hBs hFs
    rw [← hb] at hBs ⊢
    generalize w4.alloc _ = w6 at hBs hFs ⊢
    have hlb : w4.heap.size ≤ b := by omega
    have Hb := Lib.hid hb
    clear hb
    have c16 : w6.cell? ⟨b, 16, none⟩ = some (.int .i64 0) := hBs.cell 16
    have f16 := hBs.frozen 16
    gi_upto_region 6 with fail
    have hB7 : Blk (w6.setCell ⟨b, 16, none⟩ (.int .i64 (-1))) b 50 (stCells newSt (.slice none 0 0) (.slice none 0 0) (.slice none 0 0) (.slice none 0 0)) := hBs.set_ 16 (.int .i64 (-1))
    have hF7 : Frm (fun _ => False) w4 (w6.setCell ⟨b, 16, none⟩ (.int .i64 (-1))) := hFs.setCell ⟨b, 16, none⟩ (.inr hlb) _
    generalize w6.setCell ⟨b, 16, none⟩ (.int .i64 (-1)) = w7 at *
    have hO7 : StO w7 b newSt := ⟨_, _, _, _, hB7, TxR.nil _ _, TxR.nil _ _, World.ownsRow_nil _ _ _ _, World.ownsRow_nil _ _ _ _, fun q hq => by cases hq⟩
    have hln := lines_any t w7
    rw [← HS.out] at hln
    have HB := Lib.hid (And.intro hO7 (And.intro hF7 Hb.out))
    clear hBs hFs c16 f16 hB7 hF7 hO7 hlb
    gi_wp2_with fail
    refine ⟨trivial, (callsIn_wide.2 hln).mono ?_⟩
    rintro e w8 ⟨rfl, rfl⟩
    obtain ⟨d, hd⟩ : ∃ d, d = w7.heap.size := ⟨_, rfl⟩
    have hBd := Blk.new w7 9 #[.string S]
    have hFd : Frm (fun _ => False) w7 (w7.alloc (.cells #[.string S] 9)) := (Frm.refl _ w7).alloc _
    rw [← hd] at hBd ⊢
    generalize w7.alloc (.cells #[.string S] 9) = w8 at hBd hFd ⊢
    have HD := Lib.hid (And.intro hBd (And.intro hFd hd))
    clear hln hBd hFd hd
    gi_wp2_with fail
    have hlenT : t.length ≤ 65536 := by
      have := of_decide_eq_false Hgr.out.symm
      unfold maxText at this
      omega
    have hm8 : w8.cell? ⟨0, 0, none⟩ = some (.int .i64 m) := HD.out.2.1.cell (HB.out.2.1.cell (HA.out.2.2.2.1.cell Hm.out.1 id) id) id
    have hgeo : n = w.heap.size ∧ (n + 2 < b ∧ b < d) ∧ d < w8.heap.size ∧ 0 < d := by
      have h1 := HA.out.2.2.2.2
      have h2 := HB.out.1.lt
      have h3 := HB.out.2.2
      have h4 := HD.out.2.2
      have h5 := HD.out.1.lt
      omega
    have hseq := lines_seq 7 d (by omega) t w8 m (by omega) hm8 hgeo.2.2.2 (by have := HD.out.1; rw [HS.out] at this; exact this)
    have hF8 : Frm (fun _ => False) w4 w8 := HB.out.2.1.trans' HD.out.2.1
    have hI0 : PI w n b d [] w8 := ⟨⟨newSt, rfl, HB.out.1.keptF HD.out.2.1, Nat.le_refl _⟩, ⟨_, _, HD.out.1⟩, HA.out.1.kept hF8 id, HA.out.2.1.kept hF8 id, HA.out.2.2.1.kept hF8 id, HA.out.2.2.2.1.trans' hF8⟩
    have Hgeo := Lib.hid hgeo
    refine wpIn_range_ws rfl (by omega) (gf := 39) (lb := #[.pointer (some ⟨d, 0, none⟩)]) rfl trivial (enters_of Tryz.func39 (by kernel_rfl) rfl) hseq (Frm.refl _ _) (fun _ => rfl)
      (fun X Y hr => ⟨hr.1.size, fun k o hk ho _ => (hr.1.block k (lt_heap ho) (by show ¬ k = d; omega)).trans ho⟩) (fun h k => h.trans' k) (fun W o => (Frm.refl _ W).putObj (.inl (by show w8.heap.size + 1 ≠ d ∧ w8.heap.size + 1 ≠ 0; omega)) o)
      (PI w n b d) (PX w n) (fun s X Y h hr => h.step hgeo.1 (by omega) hr.1 hr.2) (fun s X Y h hr => h.step hgeo.1 (d := d) (by omega) hr.1) (PI.own hgeo.1 (by omega)) (PX.own hgeo.1 (by omega)) hI0
      (fun x => { tmps := #[sl, undef, .pointer (some ⟨n, 0, none⟩), .pointer (some ⟨n + 1, 0, none⟩), .pointer (some ⟨n + 1 + 1, 0, none⟩), .string S, .pointer (some ⟨b, 0, none⟩), .int .i64 x.1, .string (ba x.2), sl, .string S, .string S, .bool false, undef, .pointer (some ⟨b, 0, none⟩), .pointer (some ⟨b, 2, none⟩), .pointer (some ⟨b, 16, none⟩), .string S, .func (.func 39) #[] #[.pointer (some ⟨d, 0, none⟩)], .int .i64 x.1, .string (ba x.2), undef, undef, undef, undef, undef, undef, undef], defers := [] })
      ?assign ?body ?done ?stop
    case assign =>
      intro l x W K hK
      obtain ⟨k, y⟩ := x
      simp only [nEnc] at hK ⊢
      clear hseq hI0 hgeo hF8 hm8
      gi_wp2
      exact hK
    case body =>
      rintro l pre ⟨k, y⟩ W hI hSp
      obtain ⟨st, h1, h2, h3⟩ := hI.st
      have hsum := linesB_sum t (pre ++ [(k, y)]) hSp.choose hSp.choose_spec
      rw [sumL_app] at hsum
      simp only [sumL, List.map_cons, List.map_nil, List.sum_cons, List.sum_nil] at hsum h3
      have hln := line_any b st y W h2 (by omega) (by omega)
      obtain ⟨o, ho⟩ : ∃ o, o = sayB st y := ⟨_, rfl⟩
      rw [← ho] at hln
      have HI := Lib.hid (And.intro hI (And.intro h1 (And.intro h2 (And.intro (show totS st ≤ sumL pre from h3) ho.symm))))
      clear hI h1 h2 h3 hsum ho hseq hI0 hgeo hF8 hm8 hSp
      simp only
      gi_wp2_with fail
      refine ⟨trivial, (CallsIn.inRound l (callsIn_wide.2 hln)).mono ?_⟩
      rintro e W2 ⟨rfl, hT, hO⟩
      cases o with
      | some st' =>
        have HT := Lib.hid (And.intro hT (hO st' rfl))
        clear hT hO hln
        simp only [Option.isSome_some]
        gi_wp2_with fail
        obtain ⟨hI, h1, h2, h3, ho⟩ := HI.out
        have hL := hI.line (x := (k, y)) Hgeo.out.1 Hgeo.out.2.1 h1 h2 h3 ho HT.out.1 HT.out.2
        exact ⟨StT.keeps h2 HT.out.1, hL.2, hL.1⟩
      | none =>
        have HT := Lib.hid hT
        clear hT hO hln
        simp only [Option.isSome_none]
        gi_upto_region 10 with fail
        obtain ⟨hI, h1, h2, h3, ho⟩ := HI.out
        obtain ⟨hC0, hC1, hC2, hF⟩ := hI.stop (x := (k, y)) Hgeo.out.1 Hgeo.out.2.1 h1 h2 ho HT.out
        refine wpIn_region_lit ?_
        refine wpListIn_buildTo rfl 33 #[] rfl (some 24) rfl zeroC (by simp only [List.map_toArray, List.map_nil]; exact zeroC_built) ?_
        refine wpListIn_val rfl (fun c hc => by cases hc) rfl (some 25) rfl (v := .int .i64 k) (by simp [go_sem, execOp]) ?_
        refine wpListIn_store_rowTo rfl 33 (.tmp 2) (.tmp 24) rfl rfl n zeroC rfl rfl _ _ hC0 st_info rfl (stCells_one ⟨rfl, rfl, rfl, rfl⟩) ?_
        have hF5 : Frm (fun q => q = n) W2 (W2.setRow n zeroC) := (Frm.refl (fun q => q = n) W2).setRow (.inl rfl) _
        have hD0 : Blk (W2.setRow n zeroC) n 33 zeroC := hC0.setRow _
        have hD1 := hC1.kept hF5 (show ¬ n + 1 = n by omega)
        have hD2 := hC2.kept hF5 (show ¬ n + 2 = n by omega)
        generalize W2.setRow n zeroC = w9 at *
        have d1 : w9.cell? ⟨n + 1, 0, none⟩ = some (.int .i64 0) := hD1.cell 0
        have f1 := hD1.frozen 0
        have d2 : w9.cell? ⟨n + 1 + 1, 0, none⟩ = some (.int .i64 0) := hD2.cell 0
        have f2 : w9.frozen? ⟨n + 1 + 1, 0, none⟩ = false := hD2.frozen 0
        have HC := Lib.hid (And.intro hF5 (And.intro hD0 (And.intro hD1 (And.intro hD2 (And.intro hF (And.intro hC0 (And.intro hC1 hC2)))))))
        clear hF5 hD0 hD1 hD2 hC0 hC1 hC2 hF hI h1 h2 h3 ho
        simp only [Act.put, List.setIfInBounds_toArray, List.set_cons_succ, List.set_cons_zero]
        gi_wp2_with fail
        obtain ⟨hI, h1, h2, h3, ho⟩ := HI.out
        obtain ⟨hF5, hD0, hD1, hD2, hF, hC0, hC1, hC2⟩ := HC.out
        have hF6 : Frm (fun q => q = n ∨ q = n + 1 ∨ q = n + 2) W2 ((w9.setCell ⟨n + 1, 0, none⟩ (.int .i64 k)).setCell ⟨n + 1 + 1, 0, none⟩ (.int .i64 300)) :=
          ((hF5.mono (K' := fun q => q = n ∨ q = n + 1 ∨ q = n + 2) fun q hq => .inl (.inl hq)).setCell ⟨n + 1, 0, none⟩ (.inl (.inr (.inl rfl))) (.int .i64 k)).setCell ⟨n + 1 + 1, 0, none⟩ (.inl (.inr (.inr rfl))) (.int .i64 300)
        have g := Hgeo.out
        refine ⟨(StT.keeps h2 HT.out).trans ⟨hF6.size, fun q o _ hq hc => (hF6.block q (lt_heap hq) ?_).trans hq⟩, ⟨pre, (k, y), st, rfl, h1, ho, ?_⟩, ?_, ?_, hF.trans hF6 fun q hq => .inr (by omega)⟩
        · unfold Blk at hC0 hC1 hC2
          rintro (rfl | rfl | rfl)
          · rw [hC0] at hq; cases hq; cases hc
          · rw [hC1] at hq; cases hq; cases hc
          · rw [hC2] at hq; cases hq; cases hc
        · exact (hD1.set_ 0 (.int .i64 k)).far (p := ⟨n + 1 + 1, 0, none⟩) (show n + 1 ≠ n + 1 + 1 by omega) (.int .i64 300)
        · exact (hD0.far (p := ⟨n + 1, 0, none⟩) (show n ≠ n + 1 by omega) (.int .i64 k)).far (p := ⟨n + 1 + 1, 0, none⟩) (show n ≠ n + 1 + 1 by omega) (.int .i64 300)
        · exact (Blk.far hD2 (p := ⟨n + 1, 0, none⟩) (show n + 2 ≠ n + 1 by omega) (.int .i64 k)).set_ 0 (.int .i64 300)
    case done =>
      intro D xs W hD hS hI hK
      have HI := Lib.hid (And.intro hD (And.intro hS (And.intro hI hK)))
      clear hD hS hI hK hseq hI0 hgeo hF8 hm8
      gi_upto_region 11 with fail
      obtain ⟨hD, hS, hI, hK⟩ := HI.out
      obtain ⟨st, h1, ⟨wv, rv, av, pv, hb, hl⟩, -⟩ := hI.st
      have g := Hgeo.out
      obtain ⟨A1, c1, e1⟩ := hl.words.form
      obtain ⟨A2, c2, e2⟩ := hl.reads.form
      obtain ⟨A3, c3, e3, -, -⟩ := own_form hl.answers
      obtain ⟨A4, c4, e4, -, -⟩ := own_form hl.picks
      have hone := stCells_one (st := st) (wv := wv) (rv := rv) (av := av) (pv := pv) ⟨by rw [e1]; rfl, by rw [e2]; rfl, by rw [e3]; rfl, by rw [e4]; rfl⟩
      refine wpIn_region_lit ?_
      refine wpListIn_val rfl (fun c hc => by cases hc) rfl (some 26) rfl (v := .pointer (some ⟨b, 0, none⟩)) (by simp [go_sem, execOp]) ?_
      refine wpListIn_load_row rfl 33 (.tmp 26) rfl b rfl _ (stCells st wv rv av pv) _ _ hb Tryz.underlying33 rfl st_info ?_
      refine wpListIn_store_rowTo rfl 33 (.tmp 2) (.tmp 27) rfl rfl n (stCells st wv rv av pv) rfl rfl _ _ hI.b0 st_info rfl hone ?_
      have hF5 : Frm (fun q => q = n) W (W.setRow n (stCells st wv rv av pv)) := (Frm.refl (fun q => q = n) W).setRow (.inl rfl) _
      have hC0 : Blk (W.setRow n (stCells st wv rv av pv)) n 33 (stCells st wv rv av pv) := hI.b0.setRow _
      have hC1 := hI.b1.kept hF5 (show ¬ n + 1 = n by omega)
      have hC2 := hI.b2.kept hF5 (show ¬ n + 2 = n by omega)
      generalize W.setRow n (stCells st wv rv av pv) = w9 at *
      have d1 : w9.cell? ⟨n + 1, 0, none⟩ = some (.int .i64 0) := hC1.cell 0
      have f1 := hC1.frozen 0
      have d2 : w9.cell? ⟨n + 1 + 1, 0, none⟩ = some (.int .i64 0) := hC2.cell 0
      have f2 : w9.frozen? ⟨n + 1 + 1, 0, none⟩ = false := hC2.frozen 0
      have HC := Lib.hid (And.intro hF5 (And.intro hC0 (And.intro hC1 hC2)))
      have HL := Lib.hid (And.intro hl (And.intro h1 (And.intro hS (And.intro hD hK))))
      have HFr := Lib.hid hI.fr
      clear hF5 hC0 hC1 hC2 hl h1 hS hD hK hI hb e1 e2 e3 e4 hone g
      generalize hCe : stCells st wv rv av pv = C at *
      have HCe := Lib.hid hCe
      clear hCe
      simp only [Act.put, List.setIfInBounds_toArray, List.set_cons_succ, List.set_cons_zero]
      gi_wp2_with fail
      have hF6 : Frm (fun q => q = n ∨ q = n + 1 ∨ q = n + 2) W ((w9.setCell ⟨n + 1, 0, none⟩ (.int .i64 0)).setCell ⟨n + 1 + 1, 0, none⟩ (.int .i64 0)) :=
        ((HC.out.1.mono (K' := fun q => q = n ∨ q = n + 1 ∨ q = n + 2) fun q hq => .inl (.inl hq)).setCell ⟨n + 1, 0, none⟩ (.inl (.inr (.inl rfl))) (.int .i64 0)).setCell ⟨n + 1 + 1, 0, none⟩ (.inl (.inr (.inr rfl))) (.int .i64 0)
      obtain ⟨hl, h1, hS, hD, hK⟩ := HL.out
      obtain ⟨-, hC0, hC1, hC2⟩ := HC.out
      have hC3 := (hC0.far (p := ⟨n + 1, 0, none⟩) (show n ≠ n + 1 by omega) (.int .i64 0)).far (p := ⟨n + 1 + 1, 0, none⟩) (show n ≠ n + 1 + 1 by omega) (.int .i64 0)
      have hC4 := (hC1.set_ 0 (.int .i64 0)).far (p := ⟨n + 1 + 1, 0, none⟩) (show n + 1 ≠ n + 1 + 1 by omega) (.int .i64 0)
      have hC5 := (Blk.far hC2 (p := ⟨n + 1, 0, none⟩) (show n + 2 ≠ n + 1 by omega) (.int .i64 0)).set_ 0 (.int .i64 0)
      generalize (w9.setCell ⟨n + 1, 0, none⟩ (.int .i64 0)).setCell ⟨n + 1 + 1, 0, none⟩ (.int .i64 0) = wz at *
      have g := Hgeo.out
      have hKz : wz.heap[D]? = some (.deferred (some [])) := (hF6.block D (lt_heap hK) (by show ¬ (D = n ∨ D = n + 1 ∨ D = n + 2); omega)).trans hK
      refine ⟨by simp, .inl ⟨_, _, rfl, run_takeDeferred hKz, ?_⟩⟩
      have hF7 : Frm (fun q => (q = n ∨ q = n + 1 ∨ q = n + 2) ∨ q = D) W (wz.putObj D (.deferred none)) := (hF6.mono (K' := fun q => (q = n ∨ q = n + 1 ∨ q = n + 2) ∨ q = D) fun q hq => .inl (.inl hq)).putObj (.inl (.inr rfl)) _
      have hFD : Frm (fun q => q = D) wz (wz.putObj D (.deferred none)) := (Frm.refl (fun q => q = D) wz).putObj (.inl rfl) _
      have hIo := HI.out.2.2.1
      have hl7 := hl.keptK hF7 (fun q hq => by
          rcases hq with hq | rfl
          · exact .inl (by omega)
          · exact .inr fun t cs hb => by unfold Blk at hb; rw [hK] at hb; cases hb)
        (fun q cs hb hq => by
          rcases hq with (rfl | rfl | rfl) | rfl
          · exact absurd (hIo.b0.ne_ hb (by decide)) (fun h => h rfl)
          · exact absurd (hIo.b1.ne_ hb (by decide)) (fun h => h rfl)
          · exact absurd (hIo.b2.ne_ hb (by decide)) (fun h => h rfl)
          · unfold Blk at hb; rw [hK] at hb; cases hb)
      have k0 := hC3.kept hFD (by show ¬ n = D; omega)
      have k1 := (hC4.kept hFD (by show ¬ n + 1 = D; omega)).cell 0
      have k2 := (hC5.kept hFD (by show ¬ n + 2 = D; omega)).cell 0
      refine ⟨_, results_p rfl _ _ n C _ 0 0 rfl rfl rfl k0 (by rw [← HCe.out]; rfl) k1 k2, HFr.out.trans hF7 fun q hq => .inr (by have := HI.out.1; omega), ?_⟩
      have hp : parseB t = .ok st := by
        unfold parseB
        rw [if_neg (of_decide_eq_false Hgr.out.symm), saysB_all (linesB t) newSt st 1 (by rw [← hS]; exact h1)]
      rw [hp]
      exact ⟨wv, rv, av, pv, by rw [HCe.out], hl7.mono (by omega)⟩
    case stop =>
      intro D pre W hD hSp hI hK
      have HI := Lib.hid (And.intro hD (And.intro hSp (And.intro hI hK)))
      clear hD hSp hI hK hseq hI0 hgeo hF8 hm8
      gi_wp2_with fail
      obtain ⟨hD, ⟨r, hr⟩, hI, hK⟩ := HI.out
      obtain ⟨pre0, x, st, rfl, h1, h2, h4⟩ := hI.st
      have hF : Frm (fun q => q = D) W _ := (Frm.refl (fun q => q = D) W).putObj (.inl rfl) (.deferred none)
      refine ⟨by simp, .inl ⟨_, _, rfl, run_takeDeferred hK, ?_⟩⟩
      have g := Hgeo.out
      have k0 := hI.b0.kept hF (by show ¬ n = D; omega)
      have k1 := (h4.kept hF (by show ¬ n + 1 = D; omega)).cell 0
      have k2 := (hI.b2.kept hF (by show ¬ n + 2 = D; omega)).cell 0
      refine ⟨_, results_p rfl _ _ n zeroC _ x.1 300 rfl rfl rfl k0 rfl k1 k2, hI.fr.trans hF fun q hq => .inr (by omega), ?_⟩
      have hp : parseB t = .line x.1 := by
        unfold parseB
        rw [if_neg (of_decide_eq_false Hgr.out.symm), saysB_stop pre0 (linesB t) newSt st 1 x r hr h1 h2]
      rw [hp]
end Go.Proofs.YtpcdbkaeijhmfaaGreatDoor
namespace Go.Proofs.YtpcdbkaeijhmfaaGreatDoor
set_option maxRecDepth 100000
set_option linter.unusedVariables false
set_option linter.unusedSimpArgs false
open Go.RowKit
attribute [local go_sem] Oper.semAt_some
set_option maxHeartbeats 1600000 in
theorem numbersR_any (K : Nat → Prop) (A : Option Addr) (n c : Nat) (ws : List By) (w : World) (h : SAt w K A n c ws) (hK : ∀ q, K q → q < w.heap.size) (hl : ws.length ≤ 1000000) :
    Calls Tryz.prog 52 #[.slice A n c] w (NumsPost (numsB ws) w) := by
  obtain ⟨i0, hi, hz0, hz1, hz2⟩ := info_parts infoI
  obtain ⟨hn, hnc, hcm⟩ := h.len
  have H := Lib.hid (And.intro h (And.intro hK (And.intro hn hl)))
  have hn9 : n ≤ 1000000 := by omega
  clear h hK hn hl
  go_enter Tryz.func52, Tryz.ntmps52
  go_wp2_with fail
  go_loopw [4, 5] (fun t i wr => ∃ k : Nat, k ≤ n ∧ i = .int .i64 k ∧ Hid (∃ ns : List Int, ns.length = k ∧ numsB ws = (numsB (ws.drop k)).map (ns ++ ·) ∧ wr.ownsRow w.heap.size 3 1 t k (ivs ns) ∧ Frm (fun _ => False) w wr)) (fun _ i _ => n - (intOf i).toNat)
  case atStart => exact ⟨0, Nat.zero_le _, rfl, Lib.hid ⟨[], rfl, by simp, World.ownsRow_nil _ _ _ _, Frm.refl _ _⟩⟩
  case round =>
    obtain ⟨k, hk, rfl, hT⟩ := hrel
    by_cases hlt : k < n
    · obtain ⟨x, g, o, hx, hxl, rfl, hg, hc0⟩ := H.out.1.at_ k hlt
      obtain ⟨ns, hnl, hns, ho, hF⟩ := hT.out
      have hc1 := hF.cell hc0 id
      have hs := numsB_step ws k x hx
      have hnum := numberR_any x wr hxl
      have HA := Lib.hid (And.intro hnl (And.intro hns (And.intro ho (And.intro hF hs))))
      obtain ⟨A5, c5, rfl, -, -⟩ := own_form ho
      clear hx hnl hns ho hF hs hc0 hT
      cases hb : numB x with
      | none =>
        rw [hb] at hnum
        have Hf := Lib.hid (show numsB ws = none by rw [HA.out.2.1, HA.out.2.2.2.2, hb]; rfl)
        clear hb
        go_wp2_with fail
        refine hnum.mono ?_
        rintro e w' ⟨rfl, rfl⟩
        go_wp2_with fail
        go_ret2
        rw [Hf.out]
        exact ⟨_, rfl, World.ownsRow_nil _ _ _ _, HA.out.2.2.2.1⟩
      | some m =>
        rw [hb] at hnum
        have Hb := Lib.hid hb
        clear hb
        go_wp2_with fail
        refine hnum.mono ?_
        rintro e w' ⟨rfl, rfl⟩
        have hbz := HA.out.2.2.2.1.size
        clear hnum hc1
        go_wp2_with (at_builtin; go_loud (refine wpList_append_sl (by rfl) _ _ 26 (by rfl) w.heap.size 3 i0 (.int .i64 0) 8 Tryz.underlying26 hi hz0 hz1 hz2 (by rfl) _ k _ (by rfl) (((Frm.refl (fun _ => False) wr).alloc _).own HA.out.2.2.1 fun _ _ => id) (fun q => q = wr.heap.size) _ [.int .i64 m] (by rfl) (Sl.blk1 wr _ _) (ivs_one [m]) (by unfold maxLen; simp; omega) (by simp; omega) (by simp; omega) ?_); go_loud (intro A6 N6 c6 w6 HN hNc hc6 hown hg hat))
        obtain rfl : N6 = k + 1 := HN.out
        have HE := Lib.hid (And.intro hown (((HA.out.2.2.2.1).alloc _).grown hg fun q hq => .inr (HA.out.2.2.1.lt q hq).1))
        clear hown hg hat HN hbz
        go_wp2_with fail
        go_roundw
        case rel => exact ⟨k + 1, by omega, by go_num, Lib.hid ⟨ns ++ [m], by simp [HA.out.1], by
          rw [HA.out.2.1, HA.out.2.2.2.2, Hb.out]
          cases numsB (ws.drop (k + 1)) <;> simp, by simpa [ivs] using HE.out.1, HE.out.2⟩⟩
        case measure => simp [intOf]; omega
    · obtain rfl : k = n := by omega
      go_wp2_with fail
      go_ret2
      obtain ⟨ns, hnl, hns, ho, hF⟩ := hT.out
      rw [List.drop_of_length_le (by have := H.out.2.2.1; omega)] at hns
      have e : numsB ws = some ns := by rw [hns]; simp [numsB]
      rw [e]
      exact ⟨_, rfl, by simpa [hnl] using ho, hF⟩
end Go.Proofs.YtpcdbkaeijhmfaaGreatDoor
