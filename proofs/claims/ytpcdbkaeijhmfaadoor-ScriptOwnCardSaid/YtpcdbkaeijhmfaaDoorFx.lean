/- A region that draws its order, by what is told of each operation's slot: one obligation an operation, whatever the order. -/
import Derived.Test.YtpcdbkaeijhmfaaDoorPlan
namespace Go.Proofs.YtpcdbkaeijhmfaaDoor
set_option maxRecDepth 100000
set_option linter.unusedVariables false
set_option linter.unusedSimpArgs false
section
variable {P : Program} {md : Region.Mode} {l : List Oper} {Q : Exit → Act → World → Prop}
def upd (f : Nat → Value) (i : Nat) (v : Value) : Nat → Value := fun j => cond (Nat.beq j i) v (f j)
theorem upd_same (f : Nat → Value) (i : Nat) (v : Value) : upd f i v i = v := by simp [upd]
theorem upd_ne (f : Nat → Value) {i j : Nat} (v : Value) (h : j ≠ i) : upd f i v j = f j := by
  unfold upd
  rw [show Nat.beq j i = false from by
    cases hb : Nat.beq j i with
    | false => rfl
    | true => exact absurd (Nat.eq_of_beq_eq_true hb) h]
  rfl
/-- o waits for j. -/
def depB (md : Region.Mode) (o : Oper) (j : Nat) : Bool := o.after.any fun e => Region.binds md e && e.on == j
/-- Each waits for earlier ones alone. -/
def lowB (md : Region.Mode) (l : List Oper) : Bool := (List.range l.length).all fun i => ((l[i]?).map fun o => o.after.all fun e => !Region.binds md e || decide (e.on < i)).getD true
/-- j is i, or waits for it. -/
def reachB (md : Region.Mode) (l : List Oper) (i : Nat) : Nat → Nat → Bool
  | 0, j => j == i
  | n + 1, j => j == i || ((l[j]?).map fun o => o.after.any fun e => Region.binds md e && reachB md l i n e.on).getD false
def Lclosed (md : Region.Mode) (l : List Oper) (listed : Array Bool) : Prop := ∀ j oj, l[j]? = some oj → listed.getD j false = true → ∀ e ∈ oj.after, Region.binds md e = true → listed.getD e.on false = true
theorem reach_un {listed : Array Bool} {i : Nat} (hc : Lclosed md l listed) (hi : listed.getD i false = false) : ∀ (n j : Nat), reachB md l i n j = true → listed.getD j false = false
  | 0, j, h => by
    have : j = i := by simpa [reachB] using h
    rw [this]; exact hi
  | n + 1, j, h => by
    unfold reachB at h
    rw [Bool.or_eq_true] at h
    rcases h with h | h
    · have : j = i := by simpa using h
      rw [this]; exact hi
    · cases ho : l[j]? with
      | none => rw [ho] at h; cases h
      | some o =>
        rw [ho] at h
        obtain ⟨e, he, h2⟩ := Array.any_eq_true'.1 (show (o.after.any fun e => Region.binds md e && reachB md l i n e.on) = true from h)
        rw [Bool.and_eq_true] at h2
        have h3 := reach_un hc hi n e.on h2.2
        cases h4 : listed.getD j false with
        | false => rfl
        | true => have := hc j o ho h4 e he h2.1; rw [this] at h3; cases h3
def unl (listed : Array Bool) : Nat := listed.toList.countP (! ·)
theorem unl_set {listed : Array Bool} {i : Nat} (hi : i < listed.size) (h : listed.getD i true = false) : unl (listed.setIfInBounds i true) + 1 = unl listed := by
  unfold unl
  have h0 : listed.toList[i]'(by simpa using hi) = false := by simpa [hi] using h
  have h2 : 0 < listed.toList.countP (! ·) := by
    rw [List.countP_pos_iff]
    exact ⟨false, by rw [← h0]; exact List.getElem_mem _, rfl⟩
  rw [Array.toList_setIfInBounds, List.countP_set (by simpa using hi), h0]
  simp only [Bool.not_false, Bool.not_true, if_true, Bool.false_eq_true, if_false, Nat.add_zero]
  omega
theorem unl_zero {listed : Array Bool} (h : unl listed = 0) (i : Nat) (hi : i < listed.size) : listed.getD i false = true := by
  unfold unl at h
  rw [List.countP_eq_zero] at h
  have := h (listed.toList[i]'(by simpa using hi)) (List.getElem_mem _)
  simpa [hi] using this
def setL (L : Nat → Bool) (i : Nat) : Nat → Bool := fun j => cond (Nat.beq j i) true (L j)
/-- What an operation owes: in whatever state, with what it waits for told. -/
def FxStep (P : Program) (md : Region.Mode) (l : List Oper) (Q : Exit → Act → World → Prop) (listed0 : Array Bool) (RA : (Nat → Value) → Act) (f0 : Nat → Value) (V : Nat → Value → World → Prop) (G : (Nat → Bool) → (Nat → Value) → World → Prop) (St : World → World → Prop) (i : Nat) (o : Oper) : Prop :=
  ∀ (f : Nat → Value) (L : Nat → Bool) (w : World), G L f w → L i = false → (∀ j, depB md o j = true → L j = true) → (∀ j, (depB md o j && !listed0.getD j false) = true → V j (f j) w) → (∀ j, reachB md l i l.length j = true → f j = f0 j) →
    ∀ K : Act → World → Prop, (∀ a' v w', a' = RA (upd f i v) → V i v w' → St w w' → G (setL L i) (upd f i v) w' → K a' w') → wpList P l.toArray (Exit.then K Q) [o] (RA f) w
def Steps (l : List Oper) (p : Nat → Oper → Prop) (R : List Nat) : Prop := ∀ i ∈ R, ∀ o, l.toArray[i]? = some o → p i o
theorem steps_nil {p : Nat → Oper → Prop} : Steps l p [] := fun _ h => by cases h
theorem steps_cons {p : Nat → Oper → Prop} (i : Nat) {o : Oper} {R : List Nat} (hi : l.toArray[i]? = some o) (h : p i o) (t : Steps l p R) : Steps l p (i :: R) := fun j hj o' ho => by
  rcases List.mem_cons.1 hj with rfl | hj
  · rw [hi] at ho; cases ho; exact h
  · exact t j hj o' ho
/-- What is listed when all of R came. -/
def marks (n : Nat) (listed0 : Array Bool) (R : List Nat) : Array Bool := ((List.range n).map fun i => listed0.getD i false || R.contains i).toArray
/-- What R's wait for came already, or is in R; all else waits for all of R. -/
def fenceB (md : Region.Mode) (l : List Oper) (listed0 : Array Bool) (R : List Nat) : Bool :=
  (R.all fun i => ((l[i]?).map fun o => o.after.all fun e => !Region.binds md e || listed0.getD e.on false || R.contains e.on).getD true) &&
  ((List.range l.length).all fun i => listed0.getD i false || R.contains i || R.all fun r => reachB md l r l.length i)
structure FxInv (md : Region.Mode) (l : List Oper) (listed0 : Array Bool) (R : List Nat) (f0 : Nat → Value) (V : Nat → Value → World → Prop) (G : (Nat → Bool) → (Nat → Value) → World → Prop) (listed : Array Bool) (f : Nat → Value) (w : World) : Prop where
  size : listed.size = l.length
  closed : Lclosed md l listed
  first : ∀ j, listed0.getD j false = true → listed.getD j false = true
  old : ∀ j, listed.getD j false = false → f j = f0 j
  val : ∀ j, listed.getD j false = true → listed0.getD j false = false → V j (f j) w
  good : G (fun j => listed.getD j false) f w
  only : ∀ j, listed.getD j false = true → listed0.getD j false = true ∨ j ∈ R
theorem fx_end {listed0 listed : Array Bool} {R : List Nat} {f0 : Nat → Value} {V : Nat → Value → World → Prop} {G : (Nat → Bool) → (Nat → Value) → World → Prop} {f : Nat → Value} {w : World} (inv : FxInv md l listed0 R f0 V G listed f w) (h : ∀ i ∈ R, listed.getD i false = true) : listed = marks l.length listed0 R := by
  apply Array.ext
  · simp [marks, inv.size]
  · intro i h1 h2
    have e : listed[i] = listed.getD i false := by simp [h1]
    simp only [marks, List.getElem_toArray, List.getElem_map, List.getElem_range]
    rw [e]
    cases hl : listed.getD i false with
    | true =>
      rcases inv.only i hl with h3 | h3
      · rw [h3]; rfl
      · rw [show R.contains i = true from by simpa using h3, Bool.or_true]
    | false =>
      cases h3 : listed0.getD i false with
      | true => rw [inv.first i h3] at hl; cases hl
      | false =>
        cases h4 : R.contains i with
        | false => rfl
        | true => rw [h i (by simpa using h4)] at hl; cases hl
theorem fx_run {listed0 : Array Bool} {R : List Nat} {RA : (Nat → Value) → Act} {f0 : Nat → Value} {V : Nat → Value → World → Prop} {G : (Nat → Bool) → (Nat → Value) → World → Prop} {St : World → World → Prop} (hlow : lowB md l = true) (hR : ∀ i ∈ R, i < l.length ∧ listed0.getD i false = false) (hfe : fenceB md l listed0 R = true)
    (hV : ∀ j v w w', V j v w → St w w' → V j v w')
    (hstep : ∀ i o, i ∈ R → l.toArray[i]? = some o → FxStep P md l Q listed0 RA f0 V G St i o) (hend : ∀ f L w, G L f w → (∀ j, j ∈ R → L j = true) → (∀ j, j ∈ R → V j (f j) w) → wpAny P md l.toArray Q (unl (marks l.length listed0 R)) (marks l.length listed0 R) (RA f) w) :
    ∀ (fuel : Nat) (listed : Array Bool) (f : Nat → Value) (w : World), unl listed = fuel → FxInv md l listed0 R f0 V G listed f w → wpAny P md l.toArray Q fuel listed (RA f) w := by
  unfold fenceB at hfe
  rw [Bool.and_eq_true] at hfe
  obtain ⟨hfe1, hfe2⟩ := hfe
  intro fuel
  induction fuel with
  | zero =>
    intro listed f w hu inv
    have hall : ∀ j ∈ R, listed.getD j false = true := fun j hj => unl_zero hu j (by rw [inv.size]; exact (hR j hj).1)
    have he := fx_end inv hall
    have := hend f _ w inv.good hall fun j hj => inv.val j (hall j hj) (hR j hj).2
    rw [← he, hu] at this
    exact this
  | succ fuel ih =>
    intro listed f w hu inv
    by_cases hall : ∀ j ∈ R, listed.getD j false = true
    · have he := fx_end inv hall
      have := hend f _ w inv.good hall fun j hj => inv.val j (hall j hj) (hR j hj).2
      rw [← he, hu] at this
      exact this
    · have hex : ∃ r ∈ R, listed.getD r false = false := by
        by_cases h : ∃ r ∈ R, listed.getD r false = false
        · exact h
        · exact absurd (fun j hj => by
            cases h1 : listed.getD j false with
            | true => rfl
            | false => exact absurd ⟨j, hj, h1⟩ h) hall
      obtain ⟨r0, hr0, hr0u⟩ := hex
      refine ⟨fun hr => ?_, fun i hi => ?_⟩
      · exfalso
        have hl : ∀ j, j ∈ R → listed.getD j false = true := by
          intro j
          induction j using Nat.strongRecOn with
          | _ j hj =>
            intro hjR
            cases h : listed.getD j false with
            | true => rfl
            | false =>
              have hlt := (hR j hjR).1
              have hm : j ∈ Region.ready md l.toArray listed := by
                rw [mem_ready]
                refine ⟨getD_dn (by rw [inv.size]; exact hlt) h, l[j], by simp [hlt], fun e he hb => ?_⟩
                have h1 := List.all_eq_true.1 hlow j (by simpa using hlt)
                rw [List.getElem?_eq_getElem hlt] at h1
                have h2 := Array.all_eq_true_iff_forall_mem.1 (show ((l[j]).after.all fun e => !Region.binds md e || decide (e.on < j)) = true from h1) e he
                rw [hb] at h2
                have h3 : e.on < j := by simpa using h2
                have h4 := List.all_eq_true.1 hfe1 j hjR
                rw [List.getElem?_eq_getElem hlt] at h4
                have h5 := Array.all_eq_true_iff_forall_mem.1 (show ((l[j]).after.all fun e => !Region.binds md e || listed0.getD e.on false || R.contains e.on) = true from h4) e he
                rw [hb] at h5
                cases h6 : listed0.getD e.on false with
                | true => exact inv.first _ h6
                | false =>
                  rw [h6] at h5
                  exact hj e.on h3 (by simpa using h5)
              rw [hr] at hm
              cases hm
        rw [hl r0 hr0] at hr0u
        cases hr0u
      · obtain ⟨hun, o, ho, hall'⟩ := mem_ready.1 hi
        have hil : i < l.length := by simpa using (Array.getElem?_eq_some_iff.1 ho).1
        have hi0 : listed0.getD i false = false := by
          cases h : listed0.getD i false with
          | false => rfl
          | true => have := inv.first i h; rw [getD_up hun] at this; cases this
        have hiR : i ∈ R := by
          have h1 := List.all_eq_true.1 hfe2 i (by simpa using hil)
          rw [hi0, Bool.false_or, Bool.or_eq_true] at h1
          rcases h1 with h1 | h1
          · simpa using h1
          · have h2 := List.all_eq_true.1 h1 r0 hr0
            by_cases hir : i = r0
            · rw [hir]; exact hr0
            · exfalso
              cases hn : l.length with
              | zero => omega
              | succ n =>
                rw [hn, reachB, Bool.or_eq_true] at h2
                rcases h2 with h2 | h2
                · exact hir (by simpa using h2)
                · rw [show l[i]? = some o by simpa using ho] at h2
                  obtain ⟨e, he, h3⟩ := Array.any_eq_true'.1 (show (o.after.any fun e => Region.binds md e && reachB md l r0 n e.on) = true from h2)
                  rw [Bool.and_eq_true] at h3
                  have h4 := hall' e he h3.1
                  rw [reach_un inv.closed hr0u n e.on h3.2] at h4
                  cases h4
        refine wpOp_list ho (hstep i o hiR ho f _ w inv.good (getD_up hun) (fun j hj => by
          obtain ⟨e, he, h2⟩ := Array.any_eq_true'.1 hj
          rw [Bool.and_eq_true] at h2
          have hej : e.on = j := by simpa using h2.2
          exact hej ▸ hall' e he h2.1) (fun j hj => ?_) (fun j hj => inv.old j (reach_un inv.closed (getD_up hun) _ j hj)) _ ?_)
        · rw [Bool.and_eq_true] at hj
          obtain ⟨e, he, h2⟩ := Array.any_eq_true'.1 hj.1
          rw [Bool.and_eq_true] at h2
          have hej : e.on = j := by simpa using h2.2
          exact inv.val j (hej ▸ hall' e he h2.1) (by simpa using hj.2)
        · rintro a' v w' rfl hv hst hgd
          refine ih _ _ _ ?_ ⟨by simp [inv.size], fun j oj hj hl e he hb => ?_, fun j hj => getD_set_true (inv.first j hj), fun j hj => ?_, fun j hj h0 => ?_, ?_, fun j hj => ?_⟩
          · have := unl_set (by rw [inv.size]; exact hil) hun
            omega
          · by_cases hij : i = j
            · subst hij
              obtain rfl : oj = o := Option.some.inj ((by simpa using hj.symm : some oj = l[i]?).trans (by simpa using ho))
              exact getD_set_true (hall' e he hb)
            · rw [getD_set_ne false hij] at hl
              exact getD_set_true (inv.closed j oj hj hl e he hb)
          · by_cases hij : i = j
            · subst hij
              rw [show (listed.setIfInBounds i true).getD i false = true from by simp [inv.size, hil]] at hj
              cases hj
            · rw [getD_set_ne false hij] at hj
              rw [upd_ne _ _ (Ne.symm hij)]
              exact inv.old j hj
          · by_cases hij : j = i
            · subst hij; rw [upd_same]; exact hv
            · rw [getD_set_ne false (Ne.symm hij)] at hj
              rw [upd_ne _ _ hij]
              exact hV _ _ _ _ (inv.val j hj h0) hst
          · have e : (fun j => (listed.setIfInBounds i true).getD j false) = setL (fun j => listed.getD j false) i := by
              funext j
              by_cases hij : i = j
              · subst hij
                simp [setL, inv.size, hil]
              · rw [getD_set_ne false hij]
                unfold setL
                rw [show Nat.beq j i = false from by
                  cases hb : Nat.beq j i with
                  | false => rfl
                  | true => exact absurd (Nat.eq_of_beq_eq_true hb).symm hij]
                rfl
            rw [e]
            exact hgd
          · by_cases hij : i = j
            · subst hij; exact .inr hiR
            · rw [getD_set_ne false hij] at hj
              exact inv.only j hj
/-- The frame with what has come in its slots. -/
def dstOf (l : List Oper) (i : Nat) : Option Tmp := (l[i]?).bind (·.dst)
def puts (l : List Oper) (f : Nat → Value) : List Nat → Act → Act
  | [], a => a
  | i :: R, a => puts l f R (a.put (dstOf l i) (f i))
def startOf (a : Act) (l : List Oper) (i : Nat) : Value := match dstOf l i with | some d => a.eval (.tmp d) | none => undef
theorem put_put (a : Act) (d : Option Tmp) (u v : Value) : (a.put d u).put d v = a.put d v := by
  cases d with
  | none => rfl
  | some d => simp [Act.put]
theorem put_comm (a : Act) {d e : Option Tmp} (u v : Value) (h : d ≠ e) : (a.put d u).put e v = (a.put e v).put d u := by
  cases d with
  | none => rfl
  | some d =>
    cases e with
    | none => rfl
    | some e =>
      have hde : d ≠ e := fun h' => h (by rw [h'])
      simp only [Act.put]
      rw [Array.setIfInBounds_comm _ _ hde]
theorem put_start (a : Act) (l : List Oper) (i : Nat) : a.put (dstOf l i) (startOf a l i) = a := by
  unfold startOf
  cases dstOf l i with
  | none => rfl
  | some d =>
    simp only [Act.put]
    have : a.tmps.setIfInBounds d (a.eval (.tmp d)) = a.tmps := by
      apply Array.ext
      · simp
      · intro k h1 h2
        rw [Array.getElem_setIfInBounds]
        split
        · rename_i hk; subst hk; simp [Act.eval, h2]
        · rfl
    rw [this]
theorem puts_put (l : List Oper) (f : Nat → Value) (d : Option Tmp) (v : Value) : ∀ (R : List Nat) (a : Act), (∀ i ∈ R, dstOf l i ≠ d ∨ d = none) → (puts l f R a).put d v = puts l f R (a.put d v)
  | [], _, _ => rfl
  | i :: R, a, h => by
    rw [puts, puts, puts_put l f d v R _ fun j hj => h j (by simp [hj])]
    rcases h i (by simp) with h1 | h1
    · rw [put_comm a _ _ h1]
    · subst h1; rfl
theorem puts_upd (l : List Oper) (f : Nat → Value) (i : Nat) (v : Value) : ∀ (R : List Nat) (a : Act), i ∉ R → puts l (upd f i v) R a = puts l f R a
  | [], _, _ => rfl
  | j :: R, a, h => by
    have hji : j ≠ i := fun e => h (by simp [e])
    rw [puts, puts, upd_ne f v hji, puts_upd l f i v R _ fun hh => h (by simp [hh])]
/-- No two have the same slot. -/
def apartB (l : List Oper) : List Nat → Bool
  | [] => true
  | i :: R => (R.all fun j => !(j == i) && (!(dstOf l j == dstOf l i) || (dstOf l i == none))) && apartB l R
theorem puts_at (l : List Oper) (f : Nat → Value) (i : Nat) (v : Value) : ∀ (R : List Nat) (a : Act), apartB l R = true → i ∈ R → (puts l f R a).put (dstOf l i) v = puts l (upd f i v) R a
  | [], _, _, h => by cases h
  | j :: R, a, hB, h => by
    unfold apartB at hB
    rw [Bool.and_eq_true] at hB
    by_cases hji : j = i
    · subst hji
      have hn : j ∉ R := fun hh => by have := List.all_eq_true.1 hB.1 j hh; simp at this
      rw [puts, puts, upd_same, puts_upd l f j v R _ hn, puts_put l f _ v R, put_put]
      intro k hk
      have := List.all_eq_true.1 hB.1 k hk
      simp only [Bool.and_eq_true, Bool.or_eq_true, Bool.not_eq_true', beq_eq_false_iff_ne, beq_iff_eq] at this
      exact this.2
    · have hi : i ∈ R := by
        rcases List.mem_cons.1 h with e | e
        · exact absurd e.symm hji
        · exact e
      rw [puts, puts, upd_ne f v hji, puts_at l f i v R _ hB.2 hi]
theorem puts_start (l : List Oper) (a0 : Act) : ∀ (R : List Nat), puts l (startOf a0 l) R a0 = a0
  | [] => rfl
  | i :: R => by rw [puts, put_start, puts_start l a0 R]
def lclosedB (md : Region.Mode) (l : List Oper) (listed : Array Bool) : Bool := decide (listed.size = l.length) && (List.range l.length).all fun j => !listed.getD j false || ((l[j]?).map fun o => o.after.all fun e => !Region.binds md e || listed.getD e.on false).getD true
structure RhoOf (A : Act) (ρ : Operand → Value) : Prop where
  ev : A.eval = ρ
  c : ∀ v, ρ (.const v) = v
  g : ∀ g, ρ (.global g) = .pointer (some ⟨g, 0, none⟩)
  fn : ∀ f, ρ (.func f) = .func (.func f) #[] #[]
theorem rhoOf (A : Act) : RhoOf A A.eval := ⟨rfl, fun _ => rfl, fun _ => rfl, fun _ => rfl⟩
/-- What an operation owes, its frame known by its slots alone. -/
def FxOwes (P : Program) (md : Region.Mode) (l : List Oper) (Q : Exit → Act → World → Prop) (listed0 : Array Bool) (R : List Nat) (a0 : Act) (V : Nat → Value → World → Prop) (G : World → Prop) (St : World → World → Prop) (i : Nat) (o : Oper) : Prop :=
  ∀ (f : Nat → Value) (w : World) (A : Act) (ρ : Operand → Value), RhoOf A ρ → G w → (∀ j, (depB md o j && !listed0.getD j false) = true → V j (f j) w) → (∀ j, reachB md l i l.length j = true → f j = startOf a0 l j) → (∀ k, ρ (.tmp k) = (puts l f R a0).eval (.tmp k)) →
    ∀ K : Act → World → Prop, (∀ v w', V i v w' → St w w' → K (A.put o.dst v) w') → wpList P l.toArray (Exit.then K Q) [o] A w
/-- The same, with a relation of all slots that came. -/
def FxOwesG (P : Program) (md : Region.Mode) (l : List Oper) (Q : Exit → Act → World → Prop) (listed0 : Array Bool) (R : List Nat) (a0 : Act) (V : Nat → Value → World → Prop) (G : (Nat → Bool) → (Nat → Value) → World → Prop) (St : World → World → Prop) (i : Nat) (o : Oper) : Prop :=
  ∀ (f : Nat → Value) (L : Nat → Bool) (w : World) (A : Act) (ρ : Operand → Value), RhoOf A ρ → G L f w → L i = false → (∀ j, depB md o j = true → L j = true) → (∀ j, (depB md o j && !listed0.getD j false) = true → V j (f j) w) → (∀ j, reachB md l i l.length j = true → f j = startOf a0 l j) → (∀ k, ρ (.tmp k) = (puts l f R a0).eval (.tmp k)) →
    ∀ K : Act → World → Prop, (∀ v w', V i v w' → St w w' → G (setL L i) (upd f i v) w' → K (A.put o.dst v) w') → wpList P l.toArray (Exit.then K Q) [o] A w
theorem plan_fxg {listed0 : Array Bool} {a : Act} {w : World} {fuel : Nat} (R : List Nat) (V : Nat → Value → World → Prop) (G : (Nat → Bool) → (Nat → Value) → World → Prop) (St : World → World → Prop) (listed1 : Array Bool) (g : Nat)
    (hlow : lowB md l = true) (hcl : lclosedB md l listed0 = true) (hfe : fenceB md l listed0 R = true) (hRb : (R.all fun i => decide (i < l.length) && !listed0.getD i false) = true) (hap : apartB l R = true) (hfu : unl listed0 = fuel) (h1 : marks l.length listed0 R = listed1) (hg1 : unl listed1 = g)
    (hG0 : ∀ f, G (fun j => listed0.getD j false) f w) (hV : ∀ j v w w', V j v w → St w w' → V j v w')
    (hstep : Steps l (FxOwesG P md l Q listed0 R a V G St) R) (hend : ∀ f L w, G L f w → (∀ j, R.contains j = true → L j = true) → (∀ j, R.contains j = true → V j (f j) w) → wpAny P md l.toArray Q g listed1 (puts l f R a) w) : wpAny P md l.toArray Q fuel listed0 a w := by
  simp only [lclosedB, Bool.and_eq_true, decide_eq_true_eq, List.all_eq_true, List.mem_range, Bool.or_eq_true, Bool.not_eq_true'] at hcl
  obtain ⟨hs, hc⟩ := hcl
  have hRb' : ∀ i ∈ R, i < l.length ∧ listed0.getD i false = false := fun i hi => by
    have h2 := List.all_eq_true.1 hRb i hi
    rw [Bool.and_eq_true] at h2
    exact ⟨by simpa using h2.1, by simpa using h2.2⟩
  subst h1 hg1
  have key := fx_run (P := P) (Q := Q) (RA := fun f => puts l f R a) (f0 := startOf a l) (R := R) hlow hRb' hfe hV (listed0 := listed0) (fun i o hiR ho => ?_) (fun f L w hg hl hv => hend f L w hg (fun j hj => hl j (by simpa using hj)) fun j hj => hv j (by simpa using hj)) fuel listed0 (startOf a l) w hfu ⟨hs, fun j oj ho hl e he hb => ?_, fun j h => h, fun j _ => rfl, fun j h h' => (by rw [h] at h'; cases h'), hG0 _, fun j h => .inl h⟩
  · rw [show puts l (startOf a l) R a = a from puts_start l a R] at key
    exact key
  · intro f L w hg hL hLd hd hu K hK
    refine hstep i hiR o ho f L w (puts l f R a) _ (rhoOf _) hg hL hLd hd hu (fun _ => rfl) K fun v w' hv hst hgd => hK _ v w' ?_ hv hst hgd
    have hd : o.dst = dstOf l i := by
      unfold dstOf
      rw [show l[i]? = some o by simpa using ho]
      rfl
    rw [hd]
    exact puts_at l f i v R a hap hiR
  · have hj : j < l.length := (List.getElem?_eq_some_iff.1 ho).1
    rcases hc j hj with h | h
    · rw [h] at hl; cases hl
    · rw [ho] at h
      simp only [Option.map_some, Option.getD_some, Array.all_eq_true_iff_forall_mem, Bool.or_eq_true, Bool.not_eq_true'] at h
      rcases h e he with h | h
      · rw [h] at hb; cases hb
      · exact h
theorem plan_fx {listed0 : Array Bool} {a : Act} {w : World} {fuel : Nat} (R : List Nat) (V : Nat → Value → World → Prop) (G : World → Prop) (St : World → World → Prop) (listed1 : Array Bool) (g : Nat)
    (hlow : lowB md l = true) (hcl : lclosedB md l listed0 = true) (hfe : fenceB md l listed0 R = true) (hRb : (R.all fun i => decide (i < l.length) && !listed0.getD i false) = true) (hap : apartB l R = true) (hfu : unl listed0 = fuel) (h1 : marks l.length listed0 R = listed1) (hg1 : unl listed1 = g) (hG0 : G w) (hV : ∀ j v w w', V j v w → St w w' → V j v w') (hG : ∀ w w', G w → St w w' → G w')
    (hstep : Steps l (FxOwes P md l Q listed0 R a V G St) R) (hend : ∀ f w, G w → (∀ j, R.contains j = true → V j (f j) w) → wpAny P md l.toArray Q g listed1 (puts l f R a) w) : wpAny P md l.toArray Q fuel listed0 a w :=
  plan_fxg R V (fun _ _ w => G w) St listed1 g hlow hcl hfe hRb hap hfu h1 hg1 (fun _ => hG0) hV (fun i hi o ho f _ w A ρ hρ hg _ _ hd hu hA K hK => hstep i hi o ho f w A ρ hρ hg hd hu hA K fun v w' hv hst => hK v w' hv hst (hG _ _ hg hst)) fun f _ w hg _ hv => hend f w hg hv
/-- An operation that yields, whatever it does to the world. -/
theorem fx_val {o : Oper} {A : Act} {ρ : Operand → Value} {w w' : World} {K : Act → World → Prop} {v : Value} (hρ : RhoOf A ρ) (hw : Region.wanted o (yielded l.toArray A.tmps) = true) (hr : (execOp ρ o).run P w = .ok (.value v) w') (hK : K (A.put o.dst v) w') : wpList P l.toArray (Exit.then K Q) [o] A w := by
  unfold wpList
  rw [if_pos hw]
  refine .inl ?_
  unfold Oper.wp
  rw [hρ.ev, hr]
  exact hK
/-- An operation that yields nothing (a store). -/
theorem fx_skp {o : Oper} {A : Act} {ρ : Operand → Value} {w w' : World} {K : Act → World → Prop} (hρ : RhoOf A ρ) (hw : Region.wanted o (yielded l.toArray A.tmps) = true) (hr : (execOp ρ o).run P w = .ok .skip w') (hK : K (A.put o.dst undef) w') : wpList P l.toArray (Exit.then K Q) [o] A w := by
  unfold wpList
  rw [if_pos hw]
  refine .inl ?_
  unfold Oper.wp
  rw [hρ.ev, hr]
  exact hK
theorem exec_load {o : Oper} {ty : TypeId} {x : Operand} (ho : o.op = .load ty x) {ρ : Operand → Value} {w w' : World} {u v : Value} (hu : ρ x = u) (h : (Instr.loadAt ty u).run P w = .ok v w') : (execOp ρ o).run P w = .ok (.value v) w' := by
  unfold execOp
  simp only [ho, hu, Sem.run_bind, h, Result.andThen_ok, Sem.run_pure]
theorem exec_store {o : Oper} {ty : TypeId} {x y : Operand} (ho : o.op = .store ty x y) {ρ : Operand → Value} {w w' : World} {u v : Value} (hu : ρ x = u) (hv : ρ y = v) (h : (Instr.storeAt ty u v).run P w = .ok () w') : (execOp ρ o).run P w = .ok .skip w' := by
  unfold execOp
  simp only [ho, hu, hv, Sem.run_bind, h, Result.andThen_ok, Sem.run_pure]
/-- An operation that its guard passes over. -/
theorem fx_skip {o : Oper} {A : Act} {w : World} {K : Act → World → Prop} (hw : Region.wanted o (yielded l.toArray A.tmps) = false) (hK : K (A.put o.dst undef) w) : wpList P l.toArray (Exit.then K Q) [o] A w := by
  unfold wpList
  rw [if_neg (by rw [hw]; simp)]
  exact hK
/-- A call. -/
theorem fx_call {o : Oper} {A : Act} {ρ : Operand → Value} {w : World} {K : Act → World → Prop} (hρ : RhoOf A ρ) (hw : Region.wanted o (yielded l.toArray A.tmps) = true) {fn : FuncId} (vs : Array Value) {E : Ending → World → Prop} (xs : Array Operand) (ats : Array TypeId) (ho : o.op = .call { callee := .value (.func fn), args := xs, argTypes := ats }) (hv : #[] ++ xs.map ρ ++ #[] = vs) (hen : (callFunc fn vs).run P w = .ok (.enter fn vs) w)
    (hc : Calls P fn vs w E) (h : ∀ e w', E e w' → ∃ v, e = .returned v ∧ K (A.put o.dst v) w') : wpList P l.toArray (Exit.then K Q) [o] A w := by
  unfold wpList
  rw [if_pos hw]
  refine .inl ?_
  obtain ⟨dst, op, ty, pos, after, guard⟩ := o
  dsimp only at ho h
  subst ho
  unfold Oper.wp
  rw [execOp_call_go, hρ.ev, hv, hen, Oper.upon_enter]
  refine hc.mono fun e w' hr => ?_
  obtain ⟨v, rfl, hK⟩ := h e w' hr
  exact hK
end
end Go.Proofs.YtpcdbkaeijhmfaaDoor
