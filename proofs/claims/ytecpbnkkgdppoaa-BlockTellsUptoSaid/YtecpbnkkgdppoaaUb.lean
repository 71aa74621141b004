/- Blocks as an argument, and their bulk. -/
import Derived.Test.YtecpbnkkgdppoaaRead
import Derived.Test.YtecpbnkkgdppoaaAll
import Derived.Test.YtecpbnkkgdppoaaRg
namespace Go.Proofs.Ytecpbnkkgdppoaa
open Go.RowKit Go.ChangeShapes Go.WideShapes Go.Deep
theorem bulk_one {H : Type} (d : DataW H) : 1 ≤ Rows.uptoBulk d := by
  cases d with
  | lit l => cases l <;> simp [Rows.uptoBulk]
  | nil => simp [Rows.uptoBulk]
  | ptr d => simp [Rows.uptoBulk]
  | slice elems spare => simp [Rows.uptoBulk]
  | agg parts => simp [Rows.uptoBulk]
  | iface t d => simp [Rows.uptoBulk]
  | map entries => simp [Rows.uptoBulk]
  | held h => simp [Rows.uptoBulk]
theorem bulk_part {H : Type} {d : DataW H} {l : List (DataW H)} (h : d ∈ l) : Rows.uptoBulk d ≤ Rows.uptoBulkAll l := by
  induction l with
  | nil => cases h
  | cons x r ih =>
    simp only [Rows.uptoBulkAll]
    cases List.mem_cons.1 h with
    | inl e => subst e; omega
    | inr e => have := ih e; omega
theorem bulk_len {H : Type} (l : List (DataW H)) : l.length ≤ Rows.uptoBulkAll l := by
  induction l with
  | nil => simp [Rows.uptoBulkAll]
  | cons x r ih => have := bulk_one x; simp only [Rows.uptoBulkAll, List.length_cons]; omega
theorem read_blocks {H : Type} {enc : TypeId × Value → H} {W : World} {base : Nat} {v : Value} {d : DataW H} {p : List MemPlace} (hok : Value.okWide Try.prog W .any base 24 v) (h : DataW.Trod enc Try.prog W 0 (fun _ => true) true 24 v d p) :
    ∃ A n c bs, v = .slice A n c ∧ BsAt W (fun q => q < W.heap.size) A n c bs := by
  have ri := rdr_int (enc := enc) (W := W) Try.underlying3 (by kernel_rfl)
  have r1 : Rdr enc Try.prog W 22 1 (RSl W 1 (RInt .u8)) := rdr_slice Try.underlying22 (by kernel_rfl) (by omega) (rdr_int Try.underlying5 (by kernel_rfl))
  have r2 : Rdr enc Try.prog W 40 4 (RCons (RInt .i64) (RCons (RInt .i64) (RCons (RInt .i64) (RCons (RSl W 1 (RInt .u8)) RNil)))) :=
    rdr_struct Try.underlying40 (by kernel_rfl) (rf_cons (s := 1) (sz := 3) rfl rfl ri (rf_cons (s := 1) (sz := 2) rfl rfl ri (rf_cons (s := 1) (sz := 1) rfl rfl ri (rf_cons (s := 1) (sz := 0) rfl rfl r1 rf_nil))))
  have r3 := rdr_slice (W := W) (enc := enc) Try.underlying24 (by kernel_rfl) (by omega) r2
  obtain ⟨ys, h1, h2⟩ := rdr_slice_arg Try.underlying24 r3 hok h
  have hlen := flatMap_len ys fun y hy => (h2 y hy).1
  obtain ⟨A, n, c, rfl, hn, hc, hm, hx⟩ := h1
  refine ⟨A, n, c, ys.map fun y => ⟨y.2.2.2.2.1.1, ⟨y.2.1, y.2.2.1, y.2.2.2.1, y.2.2.2.2.1.2.map fun z => UInt8.ofNat z.2.toNat⟩⟩, rfl, by simp; omega, hc, hm, fun k hk => ?_⟩
  simp at hk
  obtain ⟨ga, o, rfl, hg, hcs⟩ := hx.resolve_left (by omega)
  obtain ⟨e1, c0, c1, e2, q0, c2, c3, e3, q1, c4, c5, e4, q2, c6, c7, e5, ⟨p1, p2, p3⟩, p4⟩ := h2 ys[k] (List.getElem_mem hk)
  have hat := fun j hj => flatMap_at ys (fun y hy => (h2 y hy).1) k j hk hj
  have hcc : ∀ j (hj : j < 4), w_cell W ga (o + k * 4 + j) = (ys[k].1)[j]? := fun j hj => by
    have := hat j hj
    rw [← this]
    have hlt : k * 4 + j < (ys.flatMap (·.1)).length := by rw [hlen]; omega
    show W.cell? ⟨ga, o + k * 4 + j, none⟩ = _
    rw [Nat.add_assoc, hcs _ hlt, List.getElem?_eq_getElem hlt]
  obtain ⟨rfl, hw⟩ := q0
  obtain ⟨rfl, hw'⟩ := q1
  obtain ⟨rfl, hw2⟩ := q2
  subst p1 e5
  have p4' : c7 = [] := p4
  subst p4'
  subst e4
  subst e3
  simp only [List.getElem_map]
  have hb0 := hcc 0 (by omega)
  have hb1 := hcc 1 (by omega)
  have hb2 := hcc 2 (by omega)
  have hb3 := hcc 3 (by omega)
  rw [e2] at hb0 hb1 hb2 hb3
  exact ⟨ga, o, rfl, hg, by simpa [w_cell] using hb0, by simpa [w_cell] using hb1, by simpa [w_cell] using hb2, by simpa [w_cell] using hb3, sl_bytes p2 p3⟩
/-- A slice's length is at most its bulk. -/
theorem bulk_slice {H : Type} {enc : TypeId × Value → H} {W : World} {t e : TypeId} {fuel : Nat} {A : Option Addr} {n c : Nat} {x : DataW H × List MemPlace} (ht : Try.prog.underlying t = some (.slice e)) (h : DataW.trod enc Try.prog W 0 (fun _ => true) true fuel t [.slice A n c] = some x) : n ≤ Rows.uptoBulk x.1 := by
  rcases open_slice ht h with ⟨h1, rfl⟩ | ⟨a, len, cap, m, k, D, Pl, h1, _, _, _, _, rfl, _⟩
  · simp at h1
    omega
  · simp at h1
    have h2 := bulk_len ((List.range len).map D)
    simp only [List.length_map, List.length_range] at h2
    simp only [Rows.uptoBulk]
    omega
theorem bulk_sum {H : Type} (D : Nat → DataW H) (bs : List Bk) (h : ∀ i (hi : i < bs.length), bs[i].c.data.length ≤ Rows.uptoBulk (D i)) : ∀ k, k ≤ bs.length → totG (bs.take k) ≤ Rows.uptoBulkAll ((List.range k).map D)
  | 0, _ => by simp [totG]
  | k + 1, hk => by
    have ih := bulk_sum D bs h k (by omega)
    have happ : ∀ (l r : List (DataW H)), Rows.uptoBulkAll (l ++ r) = Rows.uptoBulkAll l + Rows.uptoBulkAll r := by
      intro l r
      induction l with
      | nil => simp [Rows.uptoBulkAll]
      | cons x l ih => simp only [List.cons_append, Rows.uptoBulkAll, ih]; omega
    rw [totG_step bs k (by omega), List.range_succ, List.map_append, happ]
    have := h k (by omega)
    simp only [List.map_cons, List.map_nil, Rows.uptoBulkAll]
    omega
theorem bulk_blocks {H : Type} {enc : TypeId × Value → H} {W : World} {A : Option Addr} {n c : Nat} {d : DataW H} {p : List MemPlace} {K : Nat → Prop} {bs : List Bk} (h : DataW.Trod enc Try.prog W 0 (fun _ => true) true 24 (.slice A n c) d p) (hb : BsAt W K A n c bs) : totG bs ≤ Rows.uptoBulk d := by
  obtain ⟨fuel, hf⟩ := h
  obtain ⟨hm, -, -, hx⟩ := hb
  have hf' : DataW.trod enc Try.prog W 0 (fun _ => true) true fuel 24 [.slice A n c] = some (d, p) := hf
  rcases open_slice Try.underlying24 hf' with ⟨h1, h2⟩ | ⟨a, len, cap, m, k, D, Pl, h1, _, hl, _, hmm, h2, hrow⟩
  · simp at h1
    have : bs = [] := List.eq_nil_of_length_eq_zero (by omega)
    subst this
    simp [totG]
  · simp at h1 h2
    obtain ⟨rfl, rfl, rfl⟩ := h1
    obtain ⟨rfl, -⟩ := h2
    simp only [if_true] at hmm
    have hc4 : Try.prog.cellsOf 40 = 4 := by kernel_rfl
    rw [hc4] at hrow
    have := bulk_sum D bs (fun i hi => by
      obtain ⟨cs, hcs, htr⟩ := hrow i (by omega)
      obtain ⟨g, o, e, -, -, -, -, d3, hs⟩ := hx i hi
      cases e
      obtain ⟨A', n', c', ev, hn', -⟩ := hs
      rw [bv_length] at hn'
      have h3 := (World.cells?_some hcs).2.2 3 (by omega)
      have hadd : ((⟨g, o, none⟩ : Addr).add (i * 4)).add 3 = ⟨g, o + i * 4 + 3, none⟩ := by
        rw [addr_add]
        unfold Addr.add
        rw [if_neg (by omega)]
        simp [Nat.add_assoc]
      rw [hadd, d3, ev] at h3
      obtain ⟨zs, k', -, hD, hlen, hzl, hq⟩ := DataW.trod_struct Try.underlying40 htr
      have h33 := hq 3 _ rfl
      have hzl' : zs.length = 4 := hzl
      have hz3 : 3 < zs.length := by omega
      rw [List.getElem?_eq_getElem hz3] at h33
      have ecs : (cs.drop 3).take 1 = [.slice A' n' c'] := by
        have h4 : cs.length = 4 := (World.cells?_some hcs).2.1
        match cs, h4 with
        | [x0, x1, x2, x3], _ => simp at h3 ⊢; exact h3.symm
      have h34 : DataW.trod enc Try.prog W 0 (fun _ => true) true k' 22 [.slice A' n' c'] = some zs[3] := by
        have e2 : Try.prog.cellsOf 22 = 1 := by kernel_rfl
        rw [← h33, ← ecs]
        show _ = DataW.trod enc Try.prog W 0 (fun _ => true) true k' 22 ((cs.drop 3).take (Try.prog.cellsOf 22))
        rw [e2]
      have hb := bulk_slice (n := n') (A := A') (c := c') Try.underlying22 h34
      have hD1 : D i = .agg (zs.map (·.1)) := (Prod.mk.inj hD).1
      have h5 := bulk_part (d := zs[3].1) (l := zs.map (·.1)) (List.mem_map_of_mem (List.getElem_mem hz3))
      rw [hD1]
      simp only [Rows.uptoBulk]
      omega) n (by omega)
    rw [List.take_of_length_le (by omega)] at this
    simp only [Rows.uptoBulk]
    omega
end Go.Proofs.Ytecpbnkkgdppoaa
