/- A long region that draws its order, most of whose operations wait for one another: walked in pieces: in the text's order where only one may come up (or a move, which may be taken first); where some reads may come up, but nothing behind them, still. -/
import Derived.Test.YtpcdbkaeijhmfaaDoorLib
import Derived.StillTailTactics
namespace Go.Proofs.YtpcdbkaeijhmfaaDoor
set_option maxRecDepth 100000
set_option linter.unusedVariables false
set_option linter.unusedSimpArgs false
section
variable {P : Program} {ops : Array Oper} {md : Region.Mode}
theorem upon_then {o : Oper} {a : Act} {K K' : Act → World → Prop} {Q : Exit → Act → World → Prop} {r : Result Next} (h : o.upon P a K (Exit.then K' Q) r) : o.upon P a K Q r := by
  cases r with
  | ok n w' =>
    cases n with
    | enter f args => exact Calls.mono h fun e w'' hh => by cases e <;> exact hh
    | _ => exact h
  | _ => exact h
theorem wpOp_then {i : Nat} {K K' : Act → World → Prop} {Q : Exit → Act → World → Prop} {a : Act} {w : World} (h : wpOp P ops (Exit.then K' Q) i K a w) : wpOp P ops Q i K a w := by
  unfold wpOp at *
  cases ho : ops[i]? with
  | none => simpa [ho] using h
  | some o =>
    simp only [ho] at h ⊢
    by_cases hw : Region.wanted o (yielded ops a.tmps) = true
    · rw [if_pos hw] at h ⊢
      exact h.imp upon_then id
    · rw [if_neg hw] at h ⊢
      exact h
/-- A move: it may be taken first. -/
def isMove (o : Oper) : Bool := match o.op with
  | .move _ => true
  | _ => false
theorem move_yields {o : Oper} (h : isMove o = true) (a : Act) : ∃ v, Yields P ops o v a := by
  obtain ⟨dst, op, ty, pos, after, guard⟩ := o
  cases op with
  | move x =>
    cases hw : Region.wanted ⟨dst, .move x, ty, pos, after, guard⟩ (yielded ops a.tmps) with
    | true => exact ⟨a.eval x, .inl ⟨hw, fun w => rfl⟩⟩
    | false => exact ⟨undef, .inr ⟨hw, rfl⟩⟩
  | _ => cases h
/-- All below k came. -/
def upTo (n k : Nat) : Array Bool := ((List.range n).map fun i => decide (i < k)).toArray
theorem upTo_at (n k j : Nat) (d : Bool) : (upTo n k).getD j d = if j < n then decide (j < k) else d := by
  unfold upTo
  by_cases h : j < n
  · simp [h]
  · simp [h]
theorem upTo_zero (n : Nat) : Array.replicate n false = upTo n 0 := by
  apply Array.ext
  · simp [upTo]
  · intro i h1 h2; simp [upTo]
theorem upTo_set (n k : Nat) : (upTo n k).setIfInBounds k true = upTo n (k + 1) := by
  apply Array.ext
  · simp [upTo]
  · intro i h1 h2
    rw [Array.getElem_setIfInBounds]
    split
    · rename_i h; subst h; simp [upTo]
    · rename_i h
      simp only [upTo, List.getElem_toArray, List.getElem_map, List.getElem_range, decide_eq_decide]
      omega
    · simpa [upTo] using h1
theorem upTo_size (n k : Nat) : (upTo n k).size = n := by simp [upTo]
/-- Behind all below k the operation of number k may come up, and it alone, or it is a move that may be taken first. -/
def okAt (md : Region.Mode) (ops : Array Oper) (o : Oper) (k : Nat) (tl : List Oper) : Bool :=
  (o.after.all fun e => !Region.binds md e || decide (e.on < k)) &&
  ((tl.all fun o' => o'.after.any fun e => Region.binds md e && decide (k ≤ e.on)) || (isMove o && tl.all fun o' => (o'.after.any fun e => Region.binds md e && e.on == k) || o.apart ops o'))
def seqK (md : Region.Mode) (ops : Array Oper) : Nat → Nat → List Oper → Bool
  | 0, _, _ => true
  | _ + 1, _, [] => false
  | f + 1, k, o :: tl => okAt md ops o k tl && seqK md ops f (k + 1) tl
def listTo : Nat → Nat → Array Bool → Array Bool
  | 0, _, listed => listed
  | f + 1, k, listed => listTo f (k + 1) (listed.setIfInBounds k true)
theorem listTo_up (n : Nat) : ∀ f k, listTo f k (upTo n k) = upTo n (k + f)
  | 0, k => rfl
  | f + 1, k => by rw [listTo, upTo_set, listTo_up n f (k + 1)]; congr 1; omega
theorem tail_at {l : List Oper} {k j : Nat} {o oj : Oper} {tl : List Oper} (h : l.drop k = o :: tl) (hj : k < j) (ho : l.toArray[j]? = some oj) : oj ∈ tl := by
  have h1 : (l.drop k)[j - k]? = some oj := by rw [List.getElem?_drop]; simpa [show k + (j - k) = j from by omega] using ho
  rw [h, show j - k = (j - k - 1) + 1 from by omega, List.getElem?_cons_succ] at h1
  exact List.mem_of_getElem? h1
theorem wpList_move {o : Oper} {l : List Oper} {Q : Exit → Act → World → Prop} {a : Act} {w : World} {v : Value} (hy : Yields P ops o v a) (h : isMove o = true) (hl : wpList P ops Q (o :: l) a w) : wpList P ops Q l (a.put o.dst v) w := by
  unfold wpList at hl
  rcases hy with ⟨hw, hv⟩ | ⟨hw, rfl⟩
  · rw [if_pos hw] at hl
    rcases hl with hl | ⟨hl, -⟩
    · unfold Oper.wp at hl
      rw [hv w] at hl
      exact hl
    · obtain ⟨dst, op, ty, pos, after, guard⟩ := o
      cases op with
      | move x =>
        have h1 : ((execOp a.eval ⟨dst, .move x, ty, pos, after, guard⟩).runT P w #[]).2 = #[] := rfl
        have h2 := hl.1
        rw [h1] at h2
        simp at h2
      | _ => cases h
  · rw [if_neg (by rw [hw]; simp)] at hl
    exact hl
theorem drop_at {l : List Oper} {k : Nat} {o : Oper} {tl : List Oper} (h : l.drop k = o :: tl) : l.toArray[k]? = some o ∧ k < l.length ∧ l.drop (k + 1) = tl := by
  have h1 : (l.drop k)[0]? = some o := by rw [h]; rfl
  rw [List.getElem?_drop] at h1
  have h2 : k < l.length := by
    rcases Nat.lt_or_ge k l.length with h3 | h3
    · exact h3
    · rw [List.drop_eq_nil_of_le h3] at h; cases h
  exact ⟨by simpa using h1, h2, by rw [← List.drop_drop, h]; rfl⟩
theorem wpAny_seq {l : List Oper} {Q : Exit → Act → World → Prop} {K : Act → World → Prop} {g : Nat} (hsel : Region.noSelect l.toArray = true) (hQ : ∀ c d v a w, Q (.panic c) (Act.put a d v) w → Q (.panic c) a w) :
    ∀ (f k : Nat) (a : Act) (w : World), seqK md l.toArray f k (l.drop k) = true → wpList P l.toArray (Exit.then K Q) ((l.drop k).take f) a w →
      (∀ a w, K a w → wpAny P md l.toArray Q g (upTo l.length (k + f)) a w) → wpAny P md l.toArray Q (f + g) (upTo l.length k) a w := by
  intro f
  induction f with
  | zero => intro k a w _ h hK; rw [Nat.zero_add]; exact hK a w h
  | succ f ih =>
    intro k a w hB h hK
    cases hd : l.drop k with
    | nil => rw [hd] at hB; cases hB
    | cons o tl =>
      obtain ⟨h0, hkl, hdr⟩ := drop_at hd
      rw [hd] at hB h
      rw [List.take_succ_cons] at h
      simp only [seqK, okAt, Bool.and_eq_true] at hB
      obtain ⟨⟨hdep, hB⟩, hB'⟩ := hB
      have hrk : k ∈ Region.ready md l.toArray (upTo l.length k) := by
        rw [mem_ready]
        refine ⟨by rw [upTo_at, if_pos hkl]; simp, o, h0, fun e he hb => ?_⟩
        have h1 := Array.all_eq_true_iff_forall_mem.1 hdep e he
        rw [hb] at h1
        have h2 : e.on < k := by simpa using h1
        rw [upTo_at, if_pos (by omega)]
        simpa using h2
      rw [show f + 1 + g = (f + g) + 1 from by omega]
      have hK' : ∀ a w, K a w → wpAny P md l.toArray Q g (upTo l.length (k + 1 + f)) a w := by rw [show k + 1 + f = k + (f + 1) from by omega]; exact hK
      rw [Bool.or_eq_true] at hB
      rcases hB with hB | hB
      · refine ⟨fun h1 => (by rw [h1] at hrk; cases hrk), fun i hi => ?_⟩
        have hik : i = k := by
          obtain ⟨hun, oi, hoi, hall⟩ := mem_ready.1 hi
          rw [upTo_at] at hun
          split at hun
          · have hge : k ≤ i := by simpa using hun
            rcases Nat.eq_or_lt_of_le hge with h1 | h1
            · exact h1.symm
            · have h2 := List.all_eq_true.1 hB oi (tail_at hd h1 hoi)
              obtain ⟨e, he, h3⟩ := Array.any_eq_true'.1 h2
              simp only [Bool.and_eq_true, decide_eq_true_eq] at h3
              have h4 := hall e he h3.1
              rw [upTo_at] at h4
              split at h4
              · have : e.on < k := by simpa using h4
                omega
              · cases h4
          · cases hun
        subst hik
        have hw : wpOp P l.toArray (Exit.then K Q) i (wpList P l.toArray (Exit.then K Q) (tl.take f)) a w := by unfold wpOp; simp only [h0]; exact h
        refine wpOp_mono (fun a' w' h' => ?_) (wpOp_then hw)
        rw [upTo_set]
        exact ih (i + 1) a' w' (by rw [hdr]; exact hB') (by rw [hdr]; exact h') hK'
      · rw [Bool.and_eq_true] at hB
        obtain ⟨hm, hf⟩ := hB
        obtain ⟨v, hy⟩ := move_yields (P := P) (ops := l.toArray) hm a
        have hfree : Region.free md l.toArray (upTo l.length k) k = true := by
          simp only [Region.free, h0, List.all_eq_true, List.mem_range, Bool.or_eq_true, beq_iff_eq]
          intro j hj
          have hjl : j < l.length := by simpa using hj
          rcases Nat.lt_trichotomy j k with h1 | h1 | h1
          · exact .inl (.inr (by rw [upTo_at, if_pos hjl]; simpa using h1))
          · exact .inl (.inl h1)
          · right
            cases ho : l.toArray[j]? with
            | none => rfl
            | some oj => simpa using List.all_eq_true.1 hf oj (tail_at hd h1 ho)
        refine wpAny_take h0 hsel hfree (by simpa using hrk) (fun c a w hq => hQ c o.dst v a w hq) hy ?_
        rw [upTo_set]
        exact ih (k + 1) _ w (by rw [hdr]; exact hB') (by rw [hdr]; exact wpList_move hy hm h) hK'
/-- No operation behind s comes up before all of k up to s came. -/
def segB (md : Region.Mode) (ops : Array Oper) (k s : Nat) : Bool :=
  ((List.range s).all fun i => decide (i < k) || (List.range (s + 1)).any fun j => decide (i < j) && Region.waitsFor md ops j i) &&
  ((List.range ops.size).all fun t => decide (t ≤ s) || (List.range t).any fun u => decide (s ≤ u) && Region.waitsFor md ops t u)
structure SegInv (md : Region.Mode) (ops : Array Oper) (k s : Nat) (listed : Array Bool) : Prop where
  size : listed.size = ops.size
  closed : ∀ j oj, ops[j]? = some oj → listed.getD j false = true → ∀ e ∈ oj.after, Region.binds md e = true → listed.getD e.on false = true
  low : ∀ i, i < k → listed.getD i false = true
  high : ∀ t, s ≤ t → t < ops.size → listed.getD t true = false
def segInvB (md : Region.Mode) (ops : Array Oper) (k s : Nat) (listed : Array Bool) : Bool :=
  decide (listed.size = ops.size) && ((List.range ops.size).all fun j => !listed.getD j false || ((ops[j]?).map fun o => o.after.all fun e => !Region.binds md e || listed.getD e.on false).getD true) &&
    ((List.range k).all fun i => listed.getD i false) && ((List.range ops.size).all fun t => decide (t < s) || !listed.getD t true)
theorem SegInv.of {k s : Nat} {listed : Array Bool} (h : segInvB md ops k s listed = true) : SegInv md ops k s listed := by
  simp only [segInvB, Bool.and_eq_true, decide_eq_true_eq, List.all_eq_true, List.mem_range, Bool.or_eq_true, Bool.not_eq_true'] at h
  obtain ⟨⟨⟨h1, h2⟩, h3⟩, h4⟩ := h
  refine ⟨h1, fun j oj ho hl e he hb => ?_, h3, fun t ht hts => ?_⟩
  · have hj : j < ops.size := (Array.getElem?_eq_some_iff.1 ho).1
    rcases h2 j hj with h | h
    · rw [h] at hl; cases hl
    · rw [ho] at h
      simp only [Option.map_some, Option.getD_some, Array.all_eq_true_iff_forall_mem, Bool.or_eq_true, Bool.not_eq_true'] at h
      rcases h e he with h | h
      · rw [h] at hb; cases hb
      · exact h
  · rcases h4 t hts with h | h
    · omega
    · exact h
theorem getD_up {listed : Array Bool} {i : Nat} (h : listed.getD i true = false) : listed.getD i false = false := by
  by_cases hi : i < listed.size
  · simp [hi] at h ⊢; exact h
  · simp [Array.getElem?_eq_none (Nat.le_of_not_lt hi)] at h
theorem getD_dn {listed : Array Bool} {i : Nat} (hi : i < listed.size) (h : listed.getD i false = false) : listed.getD i true = false := by
  simp [hi] at h ⊢; exact h
theorem SegInv.set {k s i : Nat} {listed : Array Bool} (inv : SegInv md ops k s listed) (hi : i ∈ Region.ready md ops listed) (his : i < s) : SegInv md ops k s (listed.setIfInBounds i true) := by
  obtain ⟨_, oi, hoi, hall⟩ := mem_ready.1 hi
  refine ⟨by simp [inv.size], fun j oj hj hl e he hb => ?_, fun j hj => getD_set_true (inv.low j hj), fun t ht ht' => by rw [getD_set_ne true (by omega)]; exact inv.high t ht ht'⟩
  by_cases hij : i = j
  · subst hij
    obtain rfl : oj = oi := Option.some.inj (hj.symm.trans hoi)
    exact getD_set_true (hall e he hb)
  · rw [getD_set_ne false hij] at hl
    exact getD_set_true (inv.closed j oj hj hl e he hb)
theorem waits_listed {t u : Nat} {listed : Array Bool} (hw : Region.waitsFor md ops t u = true) (h : t ∈ Region.ready md ops listed) : listed.getD u false = true := by
  obtain ⟨ot, hot, e, he, hb, rfl⟩ := Region.waitsFor_spec hw
  obtain ⟨_, o', ho', hall⟩ := mem_ready.1 h
  obtain rfl : ot = o' := Option.some.inj (hot.symm.trans ho')
  exact hall e he hb
/-- While one of k up to s has not come, none from s on comes up. -/
theorem seg_waits {k s : Nat} {listed : Array Bool} (hB : segB md ops k s = true) (hs : s < ops.size) (inv : SegInv md ops k s listed) :
    ∀ (d i : Nat), s - i = d → k ≤ i → i < s → listed.getD i true = false → ∀ t, s ≤ t → t ∉ Region.ready md ops listed := by
  simp only [segB, Bool.and_eq_true, List.all_eq_true, List.mem_range, Bool.or_eq_true, decide_eq_true_eq, List.any_eq_true] at hB
  obtain ⟨h1, h2⟩ := hB
  intro d
  induction d using Nat.strongRecOn with
  | _ d ih =>
    intro i hd hk hi hun t ht hr
    have htl : t < ops.size := by obtain ⟨_, o, ho, _⟩ := mem_ready.1 hr; exact (Array.getElem?_eq_some_iff.1 ho).1
    by_cases hts : t = s
    · subst hts
      obtain ⟨j, hj, hij, hw⟩ := (h1 i hi).resolve_left (by omega)
      by_cases hjt : j = t
      · subst hjt
        have := waits_listed hw hr
        rw [getD_up hun] at this
        cases this
      · cases hl : listed.getD j false with
        | true =>
          obtain ⟨oj, hoj, e, he, hb, rfl⟩ := Region.waitsFor_spec hw
          have := inv.closed j oj hoj hl e he hb
          rw [getD_up hun] at this
          cases this
        | false => exact ih (t - j) (by omega) j rfl (by omega) (by omega) (getD_dn (by rw [inv.size]; omega) hl) t (Nat.le_refl _) hr
    · obtain ⟨u, hu, hsu, hw⟩ := (h2 t htl).resolve_left (by omega)
      have := waits_listed hw hr
      rw [getD_up (inv.high u hsu (by omega))] at this
      cases this
variable {w : World}
/-- What yields may be taken first, in a piece that is still. -/
theorem seg_first {k s i : Nat} {oi : Oper} {v : Value} {L : Array Bool → Act → Prop} (hi : ops[i]? = some oi) (hsel : Region.noSelect ops = true) (hB : segB md ops k s = true) (hs : s < ops.size) (hki : k ≤ i) (his : i < s)
    (hdone : ∀ listed a, L listed a → ∀ j ∈ Region.ready md ops listed, s ≤ j) :
    ∀ (f : Nat) (listed : Array Bool) (a : Act), SegInv md ops k s listed →
      (∀ j oj, ops[j]? = some oj → j ≠ i → listed.getD j true = false → (∀ e ∈ oj.after, Region.binds md e = true → e.on ≠ i) → oi.apart ops oj = true) →
      i ∈ Region.ready md ops listed → YieldsAt P ops w oi v a →
      wpAnyL P md ops w s L f (listed.setIfInBounds i true) (a.put oi.dst v) → wpAnyL P md ops w s L (f + 1) listed a := by
  intro f
  induction f with
  | zero =>
    intro listed a inv _ hr hy H
    refine ⟨fun h => (by rw [h] at hr; cases hr), fun j hj => ?_⟩
    have hjs : j < s := Nat.lt_of_not_le fun h => seg_waits hB hs inv _ i rfl hki his (mem_ready.1 hr).1 j h hj
    by_cases hji : j = i
    · subst hji; exact ⟨his, hy.stOp hi H⟩
    · have := hdone _ _ H j (ready_mono hj hji)
      omega
  | succ f ih =>
    intro listed a inv hfree hr hy H
    refine ⟨fun h => (by rw [h] at hr; cases hr), fun j hj => ?_⟩
    have hjs : j < s := Nat.lt_of_not_le fun h => seg_waits hB hs inv _ i rfl hki his (mem_ready.1 hr).1 j h hj
    refine ⟨hjs, ?_⟩
    by_cases hji : j = i
    · subst hji; exact hy.stOp hi H
    · obtain ⟨hun, oj, hoj, hall⟩ := mem_ready.1 hj
      have hun0 := (mem_ready.1 hr).1
      have hno : ∀ e ∈ oj.after, Region.binds md e = true → e.on ≠ i := fun e he hb heq => by
        have := hall e he hb
        rw [heq, getD_up hun0] at this
        cases this
      have h1 := (H.2 j (ready_mono hj hji)).2
      have h2 := stOp_put hoj (hfree j oj hoj hji hun hno) (fun cs b => Region.noSelect_spec hsel i oi cs b hi) (fun cs b => Region.noSelect_spec hsel j oj cs b hoj) hy h1
      refine stOp_mono (fun a' h3 => ih _ a' (inv.set hj hjs) (fun m om hm hmi hmu hmo => hfree m om hm hmi ?_ hmo) (ready_mono hr (Ne.symm hji)) h3.1 ?_) h2
      · by_cases hjm : j = m
        · subst hjm; exact hun
        · rw [getD_set_ne true hjm] at hmu; exact hmu
      · rw [Array.setIfInBounds_comm _ _ hji]
        exact h3.2
def segLex (md : Region.Mode) (ops : Array Oper) (s : Nat) : Nat → Nat → Array Bool → Bool
  | 0, _, listed => (Region.ready md ops listed).all fun j => decide (s ≤ j)
  | f + 1, k, listed => (Region.ready md ops listed).contains k && Region.free md ops listed k && segLex md ops s f (k + 1) (listed.setIfInBounds k true)
theorem segLex_end {s : Nat} : ∀ (f k : Nat) (listed : Array Bool), segLex md ops s f k listed = true → ∀ j ∈ Region.ready md ops (listTo f k listed), s ≤ j
  | 0, k, listed, h => by simpa [segLex, listTo] using h
  | f + 1, k, listed, h => by
    simp only [segLex, Bool.and_eq_true] at h
    exact segLex_end f (k + 1) _ h.2
theorem wpAnyL_seg {k0 s : Nat} {Lq : Act → Prop} (hsel : Region.noSelect ops = true) (hB : segB md ops k0 s = true) (hs : s < ops.size) (lend : Array Bool) (hend : ∀ j ∈ Region.ready md ops lend, s ≤ j) :
    ∀ (l : List Oper) (k : Nat) (listed : Array Bool) (a : Act), (∀ j, j < l.length → l[j]? = ops[k + j]?) → k + l.length = s → k0 ≤ k → SegInv md ops k0 s listed → listTo l.length k listed = lend →
    segLex md ops s l.length k listed = true → wpStill P ops w Lq l a → wpAnyL P md ops w s (fun listed' a' => listed' = lend ∧ Lq a') l.length listed a
  | [], k, listed, a, _, hk, _, _, hle, _, h => ⟨hle, h⟩
  | o :: l, k, listed, a, hl, hk, hk0, inv, hle, hx, h => by
    have h0 : ops[k]? = some o := by have := hl 0 (by simp); simpa using this.symm
    simp only [List.length_cons, segLex, Bool.and_eq_true] at hx
    obtain ⟨⟨hr, hf⟩, hx'⟩ := hx
    have hks : k < s := by simp only [List.length_cons] at hk; omega
    have hr' : k ∈ Region.ready md ops listed := by simpa using hr
    have hst : stOp P ops w k (wpStill P ops w Lq l) a := by unfold stOp; simp only [h0]; exact h
    obtain ⟨v, hy, hK⟩ := yieldsAt_of_stOp h0 hst
    exact seg_first h0 hsel hB hs hk0 hks (fun listed' a' hL => by rw [hL.1]; exact hend) l.length listed a inv (Region.free_spec h0 hf) hr' hy
      (wpAnyL_seg hsel hB hs lend hend l (k + 1) _ _ (fun j hj => by have := hl (j + 1) (by simpa using hj); simpa [Nat.add_assoc, Nat.add_comm 1 j] using this) (by simp only [List.length_cons] at hk; omega) (by omega) (inv.set hr' hks) hle hx' hK)
theorem wpAny_seg {Q : Exit → Act → World → Prop} {g k s : Nat} (hsel : Region.noSelect ops = true) (l : List Oper) (listed : Array Bool) (a : Act) (hl : ∀ j, j < l.length → l[j]? = ops[k + j]?) (hk : k + l.length = s) (hs : s < ops.size)
    (hB : segB md ops k s = true) (hI : segInvB md ops k s listed = true) (hx : segLex md ops s l.length k listed = true) (h : wpStill P ops w (fun a' => wpAny P md ops Q g (listTo l.length k listed) a' w) l a) : wpAny P md ops Q (l.length + g) listed a w :=
  wpAny_of_head (n := s) (L := fun listed' a' => listed' = listTo l.length k listed ∧ wpAny P md ops Q g (listTo l.length k listed) a' w) (fun listed' a' hL => by rw [hL.1]; exact hL.2) l.length listed a
    (wpAnyL_seg hsel hB hs _ (segLex_end _ _ _ hx) l k listed a hl hk (Nat.le_refl _) (SegInv.of hI) rfl hx h)
end
section
variable {P : Program} {md : Region.Mode} {l : List Oper} {Q : Exit → Act → World → Prop} {listed : Array Bool} {a : Act} {w : World} {fuel : Nat}
theorem take_at (l : List Oper) (k m : Nat) (j : Nat) (hj : j < ((l.drop k).take m).length) : ((l.drop k).take m)[j]? = l.toArray[k + j]? := by
  rw [List.getElem?_take]
  rw [List.length_take] at hj
  rw [if_pos (by omega)]
  simp
/-- A piece in the text's order (behind 'go_plan_seq n, k, m, g' type 'intro K hK' and walk: the walk itself goes on to the next piece). -/
theorem plan_seq (n k m g : Nat) (hn : n = l.length) (hf : fuel = m + g) (hsel : Region.noSelect l.toArray = true) (hQ : ∀ c d v a w, Q (.panic c) (Act.put a d v) w → Q (.panic c) a w) (hB : seqK md l.toArray m k (l.drop k) = true)
    (h : ∀ K : Act → World → Prop, (∀ a w, wpAny P md l.toArray Q g (upTo n (k + m)) a w → K a w) → wpList P l.toArray (Exit.then K Q) ((l.drop k).take m) a w) : wpAny P md l.toArray Q fuel (upTo n k) a w := by
  subst hf hn
  exact wpAny_seq (K := fun a w => wpAny P md l.toArray Q g (upTo l.length (k + m)) a w) hsel hQ m k a w hB (h _ fun _ _ h => h) fun _ _ h => h
theorem plan_begin {id : Nat} (hm : P.follows .mixedOrders = true) (n : Nat) (hn : n = l.toArray.size) (h : wpAny P .any l.toArray Q n (upTo n 0) a w.drew) : (Code.region id l.toArray true).wp P Q a w := by
  subst hn
  exact wp_region_any hm (by rw [upTo_zero]; exact h)
theorem plan_end (n : Nat) (hn : n = l.length) (h : Q .normal a w) : wpAny P md l.toArray Q 0 (upTo n n) a w := by
  subst hn
  refine ⟨?_, h⟩
  refine List.eq_nil_iff_forall_not_mem.2 fun j hj => ?_
  obtain ⟨hun, o, ho, -⟩ := mem_ready.1 hj
  have hlt : j < l.length := by simpa using (Array.getElem?_eq_some_iff.1 ho).1
  rw [upTo_at, if_pos hlt] at hun
  have : l.length ≤ j := by simpa using hun
  omega
/-- A piece of reads, behind which nothing comes up before all came. -/
theorem plan_still (n k m g : Nat) (hf : fuel = m + g) (hsel : Region.noSelect l.toArray = true) (hm : ((l.drop k).take m).length = m) (hs : decide (k + m < l.toArray.size) = true) (hB : segB md l.toArray k (k + m) = true) (hI : segInvB md l.toArray k (k + m) (upTo n k) = true) (hx : segLex md l.toArray (k + m) m k (upTo n k) = true)
    (h : ∀ K : Act → Prop, (∀ a, wpAny P md l.toArray Q g (upTo n (k + m)) a w → K a) → wpStill P l.toArray w K ((l.drop k).take m) a) : wpAny P md l.toArray Q fuel (upTo n k) a w := by
  subst hf
  have := wpAny_seg (P := P) (md := md) (Q := Q) (g := g) (w := w) (k := k) (s := k + m) hsel ((l.drop k).take m) (upTo n k) a (take_at l k m) (by rw [hm]) (of_decide_eq_true hs) hB hI (by rw [hm]; exact hx) (by rw [hm, listTo_up]; exact h _ fun _ h => h)
  rwa [hm] at this
end
section
variable {P : Program} {md : Region.Mode} {l : List Oper} {Q : Exit → Act → World → Prop} {listed : Array Bool} {a : Act} {w : World} {fuel : Nat}
theorem wpOp_list {i : Nat} {o : Oper} {K : Act → World → Prop} (hi : l.toArray[i]? = some o) (h : wpList P l.toArray (Exit.then K Q) [o] a w) : wpOp P l.toArray Q i K a w := by
  refine wpOp_then (K' := K) ?_
  unfold wpOp
  simp only [hi]
  exact h
/-- One may come up. -/
theorem plan_one (i : Nat) {o : Oper} (hr : Region.ready md l.toArray listed = [i]) (hi : l.toArray[i]? = some o) (h : ∀ K : Act → World → Prop, (∀ a w, wpAny P md l.toArray Q fuel (listed.setIfInBounds i true) a w → K a w) → wpList P l.toArray (Exit.then K Q) [o] a w) :
    wpAny P md l.toArray Q (fuel + 1) listed a w := by
  refine ⟨fun h0 => (by rw [hr] at h0; cases h0), fun j hj => ?_⟩
  rw [hr] at hj
  obtain rfl : j = i := by simpa using hj
  exact wpOp_list hi (h _ fun _ _ h => h)
/-- One of two may come up. -/
theorem plan_two (i j : Nat) {o o' : Oper} (hr : Region.ready md l.toArray listed = [i, j]) (hi : l.toArray[i]? = some o) (hj : l.toArray[j]? = some o')
    (h : ∀ K : Act → World → Prop, (∀ a w, wpAny P md l.toArray Q fuel (listed.setIfInBounds i true) a w → K a w) → wpList P l.toArray (Exit.then K Q) [o] a w)
    (h' : ∀ K : Act → World → Prop, (∀ a w, wpAny P md l.toArray Q fuel (listed.setIfInBounds j true) a w → K a w) → wpList P l.toArray (Exit.then K Q) [o'] a w) :
    wpAny P md l.toArray Q (fuel + 1) listed a w := by
  refine ⟨fun h0 => (by rw [hr] at h0; cases h0), fun m hm => ?_⟩
  rw [hr] at hm
  rcases (by simpa using hm : m = i ∨ m = j) with rfl | rfl
  · exact wpOp_list hi (h _ fun _ _ h => h)
  · exact wpOp_list hj (h' _ fun _ _ h => h)
/-- A move is taken first. -/
theorem plan_move (i : Nat) {o : Oper} (hi : l.toArray[i]? = some o) (hm : isMove o = true) (hsel : Region.noSelect l.toArray = true) (hQ : ∀ c d v a w, Q (.panic c) (Act.put a d v) w → Q (.panic c) a w) (hf : Region.free md l.toArray listed i = true) (hr : (Region.ready md l.toArray listed).contains i = true)
    (h : ∀ K : Act → World → Prop, (∀ a w, wpAny P md l.toArray Q fuel (listed.setIfInBounds i true) a w → K a w) → wpList P l.toArray (Exit.then K Q) [o] a w) :
    wpAny P md l.toArray Q (fuel + 1) listed a w := by
  obtain ⟨v, hy⟩ := move_yields (P := P) (ops := l.toArray) hm a
  exact wpAny_take hi hsel hf hr (fun c a w hq => hQ c o.dst v a w hq) hy (wpList_move hy hm (h (wpAny P md l.toArray Q fuel (listed.setIfInBounds i true)) fun _ _ h => h))
/-- All have come. -/
theorem plan_done (hr : Region.ready md l.toArray listed = []) (h : Q .normal a w) : wpAny P md l.toArray Q 0 listed a w := ⟨hr, h⟩
end
end Go.Proofs.YtpcdbkaeijhmfaaDoor
