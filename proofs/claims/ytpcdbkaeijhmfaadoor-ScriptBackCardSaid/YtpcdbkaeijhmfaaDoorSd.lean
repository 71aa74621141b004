/- A story as an argument. -/
import Derived.Test.YtpcdbkaeijhmfaaDoorRead
import Derived.Test.YtpcdbkaeijhmfaaDoorTx
namespace Go.Proofs.YtpcdbkaeijhmfaaDoor
set_option maxRecDepth 100000
set_option linter.unusedVariables false
set_option linter.unusedSimpArgs false
open Go.RowKit Go.ChangeShapes Go.WideShapes Go.Deep
section
variable {H : Type} {enc : TypeId × Value → H} {W : World}
abbrev CfT := Int × Int × Int × Int × Int × Int × Int × Unit
abbrev PlT := Int × Int × Int × Unit
abbrev TxT := Value × List (List Value × (Value × List (List Value × Int)))
abbrev RnT := CfT × Bool × TxT × (Value × List (List Value × Bool)) × (Value × List (List Value × Int)) × PlT × Int × Int × Unit
abbrev SyT := Bool × TxT × RnT × Unit
def RelCf : List Value → CfT → Prop := RCons (RInt .i64) (RCons (RInt .i64) (RCons (RInt .i64) (RCons (RInt .i64) (RCons (RInt .i64) (RCons (RInt .i64) (RCons (RInt .i64) RNil))))))
def RelPl : List Value → PlT → Prop := RCons (RInt .u8) (RCons (RInt .u32) (RCons (RInt .i64) RNil))
def RelTx (W : World) : List Value → TxT → Prop := RSl W 1 (RSl W 1 (RInt .u8))
def RelRn (W : World) : List Value → RnT → Prop := RCons RelCf (RCons RBool (RCons (RelTx W) (RCons (RSl W 1 RBool) (RCons (RSl W 1 (RInt .i64)) (RCons RelPl (RCons (RInt .i64) (RCons (RInt .i64) RNil)))))))
def RelSy (W : World) : List Value → SyT → Prop := RCons RBool (RCons (RelTx W) (RCons (RelRn W) RNil))
theorem rdr_cf : Rdr enc Tryd.prog W 24 7 RelCf :=
  rdr_struct Tryd.underlying24 (by kernel_rfl) (rf_cons (s := 1) (sz := 6) rfl rfl (rdr_int Tryd.underlying3 (by kernel_rfl)) (rf_cons (s := 1) (sz := 5) rfl rfl (rdr_int Tryd.underlying3 (by kernel_rfl)) (rf_cons (s := 1) (sz := 4) rfl rfl (rdr_int Tryd.underlying3 (by kernel_rfl))
    (rf_cons (s := 1) (sz := 3) rfl rfl (rdr_int Tryd.underlying3 (by kernel_rfl)) (rf_cons (s := 1) (sz := 2) rfl rfl (rdr_int Tryd.underlying3 (by kernel_rfl)) (rf_cons (s := 1) (sz := 1) rfl rfl (rdr_int Tryd.underlying3 (by kernel_rfl)) (rf_cons (s := 1) (sz := 0) rfl rfl (rdr_int Tryd.underlying3 (by kernel_rfl)) rf_nil)))))))
theorem rdr_pl : Rdr enc Tryd.prog W 29 3 RelPl :=
  rdr_struct Tryd.underlying29 (by kernel_rfl) (rf_cons (s := 1) (sz := 2) rfl rfl (rdr_int Tryd.underlying5 (by kernel_rfl)) (rf_cons (s := 1) (sz := 1) rfl rfl (rdr_int Tryd.underlying27 (by kernel_rfl)) (rf_cons (s := 1) (sz := 0) rfl rfl (rdr_int Tryd.underlying3 (by kernel_rfl)) rf_nil)))
theorem rdr_tx : Rdr enc Tryd.prog W 22 1 (RelTx W) :=
  rdr_slice Tryd.underlying22 (by kernel_rfl) (by omega) (rdr_slice Tryd.underlying43 (by kernel_rfl) (by omega) (rdr_int Tryd.underlying5 (by kernel_rfl)))
theorem rdr_rn : Rdr enc Tryd.prog W 31 16 (RelRn W) :=
  rdr_struct Tryd.underlying31 (by kernel_rfl) (rf_cons (s := 7) (sz := 9) rfl rfl rdr_cf (rf_cons (s := 1) (sz := 8) rfl rfl (rdr_bool Tryd.underlying4 (by kernel_rfl)) (rf_cons (s := 1) (sz := 7) rfl rfl rdr_tx
    (rf_cons (s := 1) (sz := 6) rfl rfl (rdr_slice Tryd.underlying25 (by kernel_rfl) (by omega) (rdr_bool Tryd.underlying4 (by kernel_rfl))) (rf_cons (s := 1) (sz := 5) rfl rfl (rdr_slice Tryd.underlying26 (by kernel_rfl) (by omega) (rdr_int Tryd.underlying3 (by kernel_rfl)))
    (rf_cons (s := 3) (sz := 2) rfl rfl rdr_pl (rf_cons (s := 1) (sz := 1) rfl rfl (rdr_int Tryd.underlying3 (by kernel_rfl)) (rf_cons (s := 1) (sz := 0) rfl rfl (rdr_int Tryd.underlying3 (by kernel_rfl)) rf_nil))))))))
theorem rdr_sy : Rdr enc Tryd.prog W 33 18 (RelSy W) :=
  rdr_struct Tryd.underlying33 (by kernel_rfl) (rf_cons (s := 1) (sz := 17) rfl rfl (rdr_bool Tryd.underlying4 (by kernel_rfl)) (rf_cons (s := 1) (sz := 16) rfl rfl rdr_tx (rf_cons (s := 16) (sz := 0) rfl rfl rdr_rn rf_nil)))
theorem u8_wf {n : Int} (h : (Lit.int .u8 n).wf = true) : 0 ≤ n ∧ n ≤ 255 := by
  have h1 : IntKind.u8.min = 0 := by decide
  have h2 : IntKind.u8.max = 255 := by decide
  simp [Lit.wf] at h
  omega
theorem u32_wf {n : Int} (h : (Lit.int .u32 n).wf = true) : 0 ≤ n ∧ n ≤ 4294967295 := by
  have h1 : IntKind.u32.min = 0 := by decide
  have h2 : IntKind.u32.max = 4294967295 := by decide
  simp [Lit.wf] at h
  omega
theorem i64_wf {n : Int} (h : (Lit.int .i64 n).wf = true) : -9223372036854775808 ≤ n ∧ n ≤ 9223372036854775807 := by
  have h1 : IntKind.i64.min = -9223372036854775808 := by decide
  have h2 : IntKind.i64.max = 9223372036854775807 := by decide
  simp [Lit.wf] at h
  omega
def toBy (l : List (List Value × Int)) : By := l.map fun y => UInt8.ofNat y.2.toNat
theorem flat_bytes (l : List (List Value × Int)) (h : ∀ y ∈ l, y.1.length = 1 ∧ RInt .u8 y.1 y.2) : l.flatMap (·.1) = bv (toBy l) := by
  induction l with
  | nil => rfl
  | cons y l ih =>
    obtain ⟨e1, e2⟩ := (h y (by simp)).2
    have hr := u8_wf e2
    rw [List.flatMap_cons, ih fun e he => h e (by simp [he]), e1]
    show [Value.int .u8 y.2] ++ _ = Value.int .u8 (((UInt8.ofNat y.2.toNat).toNat : Nat) : Int) :: bv (toBy l)
    have e3 : (((UInt8.ofNat y.2.toNat).toNat : Nat) : Int) = y.2 := by
      rw [UInt8.toNat_ofNat']
      have : y.2.toNat % 2 ^ 8 = y.2.toNat := Nat.mod_eq_of_lt (by omega)
      omega
    rw [e3]; rfl
theorem flat_bools (l : List (List Value × Bool)) (h : ∀ y ∈ l, y.1.length = 1 ∧ RBool y.1 y.2) : l.flatMap (·.1) = bvs (l.map (·.2)) := by
  induction l with
  | nil => rfl
  | cons y l ih =>
    have e1 : y.1 = [.bool y.2] := (h y (by simp)).2
    rw [List.flatMap_cons, ih fun e he => h e (by simp [he]), e1]
    rfl
theorem relTx {cs : List Value} {y : TxT} (h : RelTx W cs y) : cs = [y.1] ∧ TxS W (InW W) y.1 (y.2.map fun u => toBy u.2.2) := by
  obtain ⟨e, h1, h2⟩ := h
  refine ⟨e, y.2.flatMap (fun u : List Value × (Value × List (List Value × Int)) => u.1), h1.one, ?_, ?_, ?_⟩
  · rw [flatMap_len y.2 fun u hu => (h2 u hu).1]; simp
  · intro u hu
    obtain ⟨q, hq, hm⟩ := List.mem_flatMap.1 hu
    obtain ⟨-, e1, ⟨A, n, c, e2, -⟩, -⟩ := h2 q hq
    rw [e1] at hm
    rw [List.mem_singleton.1 hm, e2]
    rfl
  · intro i u x hu hx
    rw [List.getElem?_map] at hx
    obtain ⟨q, hq, rfl⟩ := Option.map_eq_some_iff.1 hx
    obtain ⟨hi, rfl⟩ := List.getElem?_eq_some_iff.1 hq
    have := flatMap_at y.2 (sz := 1) (fun u hu => (h2 u hu).1) i 0 hi (by omega)
    rw [Nat.mul_one, Nat.add_zero, hu] at this
    obtain ⟨-, e1, e2, e3⟩ := h2 y.2[i] (List.getElem_mem hi)
    rw [e1] at this
    obtain rfl : u = _ := by simpa using this
    rw [← flat_bytes _ e3]
    exact e2.one
theorem relCf {cs : List Value} {y : CfT} (h : RelCf cs y) : ∃ l : List Int, l.length = 7 ∧ cs = [.int .i64 (l.getD 0 0), .int .i64 (l.getD 1 0), .int .i64 (l.getD 2 0), .int .i64 (l.getD 3 0), .int .i64 (l.getD 4 0), .int .i64 (l.getD 5 0), .int .i64 (l.getD 6 0)] := by
  obtain ⟨a0, a1, a2, a3, a4, a5, a6, u⟩ := y
  obtain ⟨_, _, rfl, ⟨rfl, -⟩, _, _, rfl, ⟨rfl, -⟩, _, _, rfl, ⟨rfl, -⟩, _, _, rfl, ⟨rfl, -⟩, _, _, rfl, ⟨rfl, -⟩, _, _, rfl, ⟨rfl, -⟩, _, c, rfl, ⟨rfl, -⟩, h⟩ := h
  have h' : c = [] := h
  subst h'
  exact ⟨[a0, a1, a2, a3, a4, a5, a6], rfl, rfl⟩
theorem relPl {cs : List Value} {y : PlT} (h : RelPl cs y) : ∃ (k s : Nat) (l : Int), k ≤ 255 ∧ s ≤ 4294967295 ∧ cs = [.int .u8 k, .int .u32 s, .int .i64 l] := by
  obtain ⟨a0, a1, a2, u⟩ := y
  obtain ⟨_, _, rfl, ⟨rfl, w0⟩, _, _, rfl, ⟨rfl, w1⟩, _, c, rfl, ⟨rfl, -⟩, h⟩ := h
  have h' : c = [] := h
  subst h'
  have r0 : 0 ≤ a0 ∧ a0 ≤ 255 := u8_wf w0
  have r1 : 0 ≤ a1 ∧ a1 ≤ 4294967295 := u32_wf w1
  refine ⟨a0.toNat, a1.toNat, a2, by omega, by omega, ?_⟩
  rw [Int.toNat_of_nonneg r0.1, Int.toNat_of_nonneg r1.1]
  rfl
theorem read_story {base : Nat} {v : Value} {d : DataW H} {p : List MemPlace} (hok : Value.okWide Tryd.prog W .any base 33 v) (h : DataW.Trod enc Tryd.prog W 0 (fun _ => true) true 33 v d p) :
    ∃ (st : St) (wv rv av pv : Value), v = .agg (stCells st wv rv av pv) ∧ LsR W (InW W) st wv rv av pv ∧ st.conf.length = 7 ∧ st.kind ≤ 255 ∧ st.seed ≤ 4294967295 := by
  obtain ⟨cs, rfl, -⟩ := okWide_struct Tryd.underlying33 hok
  obtain ⟨y, hy⟩ := rdr_arg (rdr_sy (enc := enc) (W := W)) h
  obtain ⟨fo, wd, rn, u⟩ := y
  obtain ⟨c0, c1, e0, hfo, c2, c3, rfl, hwd, c4, c5, rfl, hrn, hnil⟩ := hy
  have h' : c5 = [] := hnil
  subst h'
  obtain ⟨cf, bk, rd, an, pk, pl, ca, mo, u⟩ := rn
  obtain ⟨d0, d1, rfl, hcf, d2, d3, rfl, hbk, d4, d5, rfl, hrd, d6, d7, rfl, han, d8, d9, rfl, hpk, d10, d11, rfl, hpl, d12, d13, rfl, hca, d14, d15, rfl, hmo, hnil⟩ := hrn
  have h' : d15 = [] := hnil
  subst h'
  obtain ⟨lc, hlc, ecf⟩ := relCf hcf
  obtain ⟨k, s, l, hk, hs, epl⟩ := relPl hpl
  obtain ⟨ewd, hwd⟩ := relTx hwd
  obtain ⟨erd, hrd⟩ := relTx hrd
  obtain ⟨ean, han1, han2⟩ := han
  obtain ⟨epk, hpk1, hpk2⟩ := hpk
  have e1 : c0 = [.bool fo] := hfo
  have e2 : d2 = [.bool bk] := hbk
  refine ⟨⟨fo, _, lc, bk, _, an.2.map (·.2), pk.2.map (·.2), k, s, l, ca, mo⟩, wd.1, rd.1, an.1, pk.1, ?_, ⟨hwd, hrd, ?_, ?_⟩, hlc, hk, hs⟩
  · rw [← Array.toArray_toList (xs := cs)]
    have e : cs.toList = _ := e0
    rw [e, e1, e2, ewd, ecf, erd, ean, epk, epl, hca.1, hmo.1]
    rfl
  · show Sl W (InW W) an.1 (bvs (an.2.map (·.2)))
    rw [← flat_bools _ han2]
    exact han1.one
  · show Sl W (InW W) pk.1 (ivs (pk.2.map (·.2)))
    have := (sl_ints hpk1 hpk2).1
    exact this
end
end Go.Proofs.YtpcdbkaeijhmfaaDoor
