/- script: join. -/
import Derived.Test.YtpcdbkaeijhmfaaDoorCf
import Derived.Lib.ItoaLen
namespace Go.Proofs.YtpcdbkaeijhmfaaDoor
set_option maxRecDepth 100000
set_option linter.unusedVariables false
set_option linter.unusedSimpArgs false
open Go.RowKit
/-- The variables that the walks read. -/
def Gl (w : World) : Prop := (∃ m, w.cell? ⟨0, 0, none⟩ = some (.int .i64 m)) ∧ Lib.TabIs Tryd.prog w "internal/strconv.uint64pow10" .u64 Lib.pow10Tab
theorem TabIs.frm {P : Program} {w w' : World} {name : String} {k : IntKind} {zs : List Int} {K : Nat → Prop} (h : Lib.TabIs P w name k zs) (hF : Frm K w w') (hk : ∀ q, K q → w.heap.size ≤ q) : Lib.TabIs P w' name k zs := by
  unfold Lib.TabIs World.var? at *
  cases hg : P.globalNamed name with
  | none => simp [hg] at h
  | some g =>
    simp only [hg, Option.bind_some] at h ⊢
    have hlt : g < w.heap.size := by
      rcases Nat.lt_or_ge g w.heap.size with h' | h'
      · exact h'
      · rw [Array.getElem?_eq_none h'] at h; simp at h
    rw [hF.block g hlt fun hq => by have := hk g hq; omega]
    exact h
theorem Gl.frm {w w' : World} (h : Gl w) (hF : Frm (fun _ => False) w w') : Gl w' := by
  obtain ⟨⟨m, h1⟩, h2⟩ := h
  exact ⟨⟨m, hF.cell h1 id⟩, TabIs.frm h2 hF fun _ h => h.elim⟩
theorem Gl.size {w : World} (h : Gl w) : 0 < w.heap.size := by
  obtain ⟨⟨m, h1⟩, -⟩ := h
  exact World.block_lt_of_cell? _ _ h1
theorem Frm.grow {K : Nat → Prop} {w w1 : World} (h : Frm K w w1) (os : Array Obj) : Frm K w (Go.Sort.grow w1 os) :=
  ⟨h.os, h.tape, h.output, by have := h.size; simp only [Go.Sort.grow, Array.size_append]; omega, fun k hl hn => by
    have := h.size
    simp only [Go.Sort.grow]
    rw [Array.getElem?_append_left (by omega)]
    exact h.block k hl hn⟩
def itoaB (n : Int) : By := Lib.itoa n
/-- A word and numbers, a blank between. -/
def joinB (first : By) (ns : List Int) : By := Lib.join (first :: ns.map itoaB) [32]
theorem itoa_any (n : Int) (h0 : -9223372036854775808 ≤ n) (h1 : n ≤ 9223372036854775807) (w : World) (hg : Gl w) : Calls Tryd.prog 50 #[.int .i64 n] w fun e w' => e = .returned (.string (ba (itoaB n))) ∧ Frm (fun _ => False) w w' :=
  (Tryd.strconv_Itoa n h0 h1 w hg.2).mono (by
    rintro e w' ⟨rfl, k, os, rfl⟩
    exact ⟨rfl, ((Frm.refl _ w).drewN k).grow os⟩)
theorem infoSt : (Tryd.prog.info? 9).map (fun i => (i.zero, i.size, i.bytes)) = some (some (.string ByteArray.empty), 1, 16) := by kernel_rfl
theorem itoa_len (n : Int) (h0 : -9223372036854775808 ≤ n) (h1 : n ≤ 9223372036854775807) : (itoaB n).length ≤ 1000000 := Nat.le_trans (Lib.itoa_length_le n h0 h1) (by omega)
theorem join_len (s : UInt8) (m : Nat) : ∀ xs : List By, (∀ x ∈ xs, x.length ≤ m) → (Lib.join xs [s]).length ≤ xs.length * (m + 1)
  | [], _ => by simp [Lib.join, List.intercalate]
  | [x], h => by have := h x (by simp); simp [Lib.join, List.intercalate]; omega
  | x :: y :: r, h => by
    have h1 := join_len s m (y :: r) fun z hz => h z (by simp [hz])
    have h2 := h x (by simp)
    have e : Lib.join (x :: y :: r) [s] = x ++ [s] ++ Lib.join (y :: r) [s] := by simp [Lib.join, List.intercalate]
    rw [e]
    simp only [List.length_append, List.length_cons, List.length_nil] at h1 ⊢
    rw [Nat.succ_mul]
    omega
theorem joinB_snoc (first : By) (ns : List Int) (x : Int) : (first :: (ns ++ [x]).map itoaB) = (first :: ns.map itoaB) ++ [itoaB x] := by simp
set_option maxHeartbeats 1600000 in
theorem join_any (first : By) (A : Option Addr) (n c : Nat) (ns : List Int) (K : Nat → Prop) (w : World) (h : IAt w K A n c ns) (hK : ∀ q, K q → q < w.heap.size) (hl : ns.length ≤ 1000000) (hr : ∀ x ∈ ns, -9223372036854775808 ≤ x ∧ x ≤ 9223372036854775807) (hf : first.length ≤ 1000000) (hg : Gl w) :
    Calls Tryd.prog 34 #[.string (ba first), .slice A n c] w fun e w' => e = .returned (.string (ba (joinB first ns))) ∧ Frm (fun _ => False) w w' := by
  obtain ⟨i0, hi, hz0, hz1, hz2⟩ := info_parts infoSt
  obtain ⟨hn, hnc, hcm⟩ := h.len
  have H := Lib.hid (And.intro h (And.intro hK (And.intro hn (And.intro hl (And.intro hr (And.intro hf hg))))))
  have hn9 : n ≤ 1000000 := by omega
  obtain ⟨F, hF⟩ : ∃ F, F = ba first := ⟨_, rfl⟩
  rw [← hF]
  have HF := Lib.hid hF
  clear h hK hn hl hr hf hg hF
  go_enter Tryd.func34, Tryd.ntmps34
  go_wp2_with fail
  go_loopw [5, 12] (fun t i wr => ∃ k : Nat, k ≤ n ∧ i = .int .i64 k ∧ Hid (wr.ownsRow w.heap.size 9 1 t (k + 1) (svb (first :: (ns.take k).map itoaB)) ∧ Frm (fun _ => False) w wr)) (fun _ i _ => n - (intOf i).toNat)
  case atStart => exact ⟨0, Nat.zero_le _, rfl, Lib.hid ⟨by have h1 := own_new1 (w := w) (base := w.heap.size) (e := 9) (x := .string (ba first)) rfl (Nat.le_refl _); rw [HF.out]; exact h1, (Frm.refl _ w).alloc _⟩⟩
  case round =>
    obtain ⟨k, hk, rfl, hT⟩ := hrel
    obtain ⟨ho, hFr⟩ := hT.out
    obtain ⟨A5, c5, rfl, -, -⟩ := own_form ho
    obtain ⟨hA, hK, hn, hl, hr, hf, hg⟩ := H.out
    by_cases hlt : k < n
    · obtain ⟨g, o, rfl, hKg, hc⟩ := hA.at_ (by omega)
      have hkn : k < ns.length := by omega
      have hc1 := hFr.cell (hc k hkn) id
      have hx := hr ns[k] (List.getElem_mem hkn)
      obtain ⟨x, hxe⟩ : ∃ x, x = ns[k] := ⟨_, rfl⟩
      rw [← hxe] at hc1 hx
      have hit := itoa_any x hx.1 hx.2 wr (hg.frm hFr)
      have HA := Lib.hid (And.intro ho (And.intro hFr (And.intro hx (show ns.take (k + 1) = ns.take k ++ [x] by rw [hxe, List.take_succ_eq_append_getElem hkn]))))
      have HLt := Lib.hid (And.intro hlt hx)
      clear hT ho hFr hA hK hn hl hr hf hg hc hKg hxe hx
      go_wp2_with fail
      refine hit.mono ?_
      rintro e w1 ⟨rfl, hF1⟩
      have hb1 := HA.out.2.1.size
      have hb2 := hF1.size
      have HF1 := Lib.hid hF1
      clear hit hF1 hc1
      go_wp2_with (at_builtin; go_loud (refine wpList_append_sl (by rfl) _ _ 46 (by rfl) w.heap.size 9 i0 (.string ByteArray.empty) 16 Tryd.underlying46 hi hz0 hz1 hz2 (by rfl) _ (k + 1) _ (by rfl) (((HF1.out).alloc _).own HA.out.1 fun _ _ => id) (fun q => q = w1.heap.size) _ [.string (ba (itoaB x))] (by rfl) (Sl.blk1 w1 _ _) (by intro u hu; rw [List.mem_singleton.1 hu]; rfl) (by unfold maxLen; simp; omega) (by simp; omega) (by simp; omega) ?_); go_loud (intro A6 N6 c6 w6 HN hNc hc6 hown hg6 hat))
      obtain rfl : N6 = k + 1 + 1 := HN.out
      have HE := Lib.hid (And.intro hown (((HA.out.2.1.trans' HF1.out).alloc _).grown hg6 fun q hq => .inr (HA.out.1.lt q hq).1))
      clear hown hg6 hat HN hb1 hb2
      go_wp2_with fail
      go_roundw
      case rel => exact ⟨k + 1, by have := HLt.out.1; omega, by go_num, Lib.hid ⟨by
        have h1 := HE.out.1
        rw [HA.out.2.2.2, joinB_snoc]
        simpa [svb] using h1, HE.out.2⟩⟩
      case measure => have := HLt.out.1; simp [intOf]; omega
    · obtain rfl : k = n := by omega
      have hkn : ns.take k = ns := List.take_of_length_le (by omega)
      rw [hkn] at ho
      obtain ⟨g6, hg6, hcs⟩ : ∃ g6, A5 = some ⟨g6, 0, none⟩ ∧ ∀ (j : Nat) (x : ByteArray), ((first :: ns.map itoaB).map ba)[j]? = some x → wr.cell? ⟨g6, 0 + j, none⟩ = some (.string x) := by
        obtain ⟨g6, hg6, h0⟩ := own_at ho 0 (by simp)
        refine ⟨g6, hg6, fun j x hx => ?_⟩
        obtain ⟨hj, he⟩ := List.getElem?_eq_some_iff.1 hx
        obtain ⟨g7, hg7, h7⟩ := own_at ho j (by simpa using hj)
        rw [hg6] at hg7
        cases hg7
        rw [Nat.zero_add, h7, ← he]
        simp only [svb, List.getElem_map]
      subst hg6
      have hlen : (Lib.join (((first :: ns.map itoaB).map ba).map (·.data.toList)) (ba [32]).data.toList).length ≤ 140737488355328 := by
        have e : ((first :: ns.map itoaB).map ba).map (·.data.toList) = first :: ns.map itoaB := by simp [ba_data]
        rw [e]
        refine Nat.le_trans (join_len 32 1000000 _ ?_) (by simp; omega)
        intro x hx
        rcases List.mem_cons.1 hx with rfl | hx
        · exact hf
        · obtain ⟨z, hz, rfl⟩ := List.mem_map.1 hx
          exact itoa_len z (hr z hz).1 (hr z hz).2
      have hjn := Tryd.strings_Join g6 0 c5 ((first :: ns.map itoaB).map ba) (ba [32]) wr hcs ((ho.lt g6 rfl).2) (by simp; omega) (by obtain ⟨A', c', e, h1, -⟩ := own_form ho; cases e; simp; omega) hlen
      have e1 : ((first :: ns.map itoaB).map ba).length = k + 1 := by simp; omega
      have e2 : (⟨(Lib.join (((first :: ns.map itoaB).map ba).map (·.data.toList)) (ba [32]).data.toList).toArray⟩ : ByteArray) = ba (joinB first ns) := by
        have e : ((first :: ns.map itoaB).map ba).map (·.data.toList) = first :: ns.map itoaB := by simp [ba_data]
        rw [e]; rfl
      rw [e1, e2] at hjn
      have HA := Lib.hid hFr
      have hs32 : ba [32] = ⟨#[32]⟩ := rfl
      rw [hs32] at hjn
      clear hT ho hFr hA hK hn hl hr hf hg hcs hkn hlen e1 e2 hs32
      go_wp2_with fail
      refine hjn.mono ?_
      rintro e w1 ⟨rfl, hB⟩
      go_wp2_with fail
      go_ret
      exact ⟨rfl, HA.out.trans (Frm.of_below hB) fun _ h => h.elim⟩
end Go.Proofs.YtpcdbkaeijhmfaaDoor
