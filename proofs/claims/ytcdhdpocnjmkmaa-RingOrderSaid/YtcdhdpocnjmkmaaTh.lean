/- The window of a ring and the reference's things. -/
import Derived.Test.YtcdhdpocnjmkmaaWk
namespace Go.Proofs.Ytcdhdpocnjmkmaa
open Go.RowKit
def things (next : Nat) (win : Nat → Option Int) (k : Nat) : List (Int × Int) := (List.range k).filterMap fun i => (win i).map fun x => (((next + i : Nat) : Int), x)
section
variable {next k m : Nat} {win : Nat → Option Int}
theorem things_some {x : Int} (h : win k = some x) : things next win (k + 1) = things next win k ++ [(((next + k : Nat) : Int), x)] := by
  simp [things, List.range_succ, List.filterMap_append, h]
theorem things_none (h : win k = none) : things next win (k + 1) = things next win k := by
  simp [things, List.range_succ, List.filterMap_append, h]
theorem things_nums : ∀ k, (things next win k).map (·.1) = RI.numsTo next win k
  | 0 => rfl
  | k + 1 => by
    cases h : win k with
    | none => rw [things_none h, RI.numsTo_no (by rw [h]; rfl), things_nums k]
    | some x => rw [things_some h, RI.numsTo_yes (by rw [h]; rfl), List.map_append, things_nums k]; rfl
theorem things_len : ∀ k, (things next win k).length ≤ k := fun k => by
  have := congrArg List.length (things_nums (next := next) (win := win) k)
  rw [List.length_map] at this
  rw [this]; exact RI.numsTo_len _ _ _
theorem things_mem {p : Int × Int} : ∀ {k}, p ∈ things next win k ↔ ∃ i, i < k ∧ win i = some p.2 ∧ p.1 = ((next + i : Nat) : Int)
  | 0 => by simp [things]
  | k + 1 => by
    cases h : win k with
    | none =>
      rw [things_none h, things_mem]
      constructor
      · rintro ⟨i, hi, h1⟩; exact ⟨i, by omega, h1⟩
      · rintro ⟨i, hi, h1, h2⟩
        refine ⟨i, ?_, h1, h2⟩
        rcases Nat.lt_or_ge i k with hlt | hge
        · exact hlt
        · obtain rfl : i = k := by omega
          rw [h] at h1; cases h1
    | some x =>
      rw [things_some h, List.mem_append, things_mem]
      constructor
      · rintro (⟨i, hi, h1⟩ | h1)
        · exact ⟨i, by omega, h1⟩
        · simp at h1; subst h1; exact ⟨k, by omega, h, rfl⟩
      · rintro ⟨i, hi, h1, h2⟩
        rcases Nat.lt_or_ge i k with hlt | hge
        · exact .inl ⟨i, hlt, h1, h2⟩
        · obtain rfl : i = k := by omega
          rw [h] at h1; injection h1 with h1
          right; simp; exact Prod.ext h2 h1.symm
theorem things_sorted : ∀ k, (things next win k).Pairwise fun p q => p.1 < q.1
  | 0 => by simp [things]
  | k + 1 => by
    cases h : win k with
    | none => rw [things_none h]; exact things_sorted k
    | some x =>
      rw [things_some h, List.pairwise_append]
      refine ⟨things_sorted k, by simp, fun p hp q hq => ?_⟩
      simp at hq; subst hq
      obtain ⟨i, hi, _, h2⟩ := things_mem.1 hp
      rw [h2]; dsimp only; omega
theorem things_congr {win' : Nat → Option Int} : ∀ k, (∀ i, i < k → win i = win' i) → things next win k = things next win' k
  | 0, _ => rfl
  | k + 1, h => by
    have h1 := things_congr k fun i hi => h i (by omega)
    have h2 := h k (by omega)
    cases hk : win k with
    | none => rw [things_none hk, things_none (h2 ▸ hk), h1]
    | some x => rw [things_some hk, things_some (h2 ▸ hk), h1]
theorem tw_all {l l' : List (Int × Int)} {n : Int} (h : ∀ p ∈ l, p.1 < n) : (l ++ l').takeWhile (fun p => decide (p.1 < n)) = l ++ l'.takeWhile (fun p => decide (p.1 < n)) := by
  induction l with
  | nil => rfl
  | cons p l ih =>
    rw [List.cons_append, List.takeWhile_cons, if_pos (by simpa using h p (by simp)), ih fun q hq => h q (by simp [hq])]; rfl
theorem dw_all {l l' : List (Int × Int)} {n : Int} (h : ∀ p ∈ l, p.1 < n) : (l ++ l').dropWhile (fun p => decide (p.1 < n)) = l'.dropWhile (fun p => decide (p.1 < n)) := by
  induction l with
  | nil => rfl
  | cons p l ih =>
    rw [List.cons_append, List.dropWhile_cons, if_pos (by simpa using h p (by simp)), ih fun q hq => h q (by simp [hq])]
theorem putL_snoc {l : List (Int × Int)} {p : Int × Int} {n x : Int} (h : n < p.1) : putL (l ++ [p]) n x = putL l n x ++ [p] := by
  induction l with
  | nil => simp [putL, List.takeWhile_cons, List.dropWhile_cons, show ¬ p.1 < n by omega]
  | cons q l ih =>
    unfold putL at ih ⊢
    rw [List.cons_append, List.takeWhile_cons, List.dropWhile_cons, List.takeWhile_cons, List.dropWhile_cons]
    split
    · rw [List.cons_append, ih]; rfl
    · simp
theorem things_put (x : Int) {i : Nat} : ∀ k, i < k → win i = none → putL (things next win k) ((next + i : Nat) : Int) x = things next (RI.putW win i x) k
  | 0, h, _ => by omega
  | k + 1, h, hn => by
    by_cases hik : i = k
    · subst hik
      rw [things_none hn, things_some (x := x) (by simp [RI.putW])]
      have hlow : ∀ p ∈ things next win i, p.1 < ((next + i : Nat) : Int) := fun p hp => by
        obtain ⟨j, hj, _, h2⟩ := things_mem.1 hp
        rw [h2]; omega
      have h1 := tw_all (l' := []) hlow
      have h2 := dw_all (l' := []) hlow
      rw [List.append_nil] at h1 h2
      unfold putL
      rw [h1, h2]
      simp only [List.takeWhile_nil, List.append_nil, List.dropWhile_nil]
      rw [things_congr (win' := RI.putW win i x) i fun j hj => by simp [RI.putW, show j ≠ i by omega]]
    · have hk : RI.putW win i x k = win k := by simp [RI.putW, show k ≠ i from fun e => hik e.symm]
      cases hw : win k with
      | none => rw [things_none hw, things_none (by rw [hk]; exact hw)]; exact things_put x k (by omega) hn
      | some y =>
        rw [things_some hw, things_some (x := y) (by rw [hk]; exact hw), putL_snoc (by dsimp only; omega), things_put x k (by omega) hn]
theorem things_take : ∀ k, things next win (k + 1) = (match win 0 with | some x => [((next : Int), x)] | none => []) ++ things (next + 1) (fun i => win (i + 1)) k
  | 0 => by
    cases h : win 0 with
    | none => rw [things_none h]; rfl
    | some x => rw [things_some h]; simp [things]
  | k + 1 => by
    have ih := things_take k
    cases h : win (k + 1) with
    | none => rw [things_none h, ih, things_none (win := fun i => win (i + 1)) (k := k) h]
    | some x =>
      rw [things_some h, ih, things_some (win := fun i => win (i + 1)) (k := k) h, List.append_assoc]
      congr 3
      rw [show next + (k + 1) = next + 1 + k from by omega]
theorem things_none_all : ∀ k, things next (fun _ => none) k = []
  | 0 => rfl
  | k + 1 => by rw [things_none rfl, things_none_all k]
theorem things_takeW (hm : 1 ≤ m) : things next win m = (match win 0 with | some x => [((next : Int), x)] | none => []) ++ things (next + 1) (RI.takeW m win) m := by
  obtain ⟨k, rfl⟩ : ∃ k, m = k + 1 := ⟨m - 1, by omega⟩
  rw [things_take k, things_none (win := RI.takeW (k + 1) win) (k := k) (by simp [RI.takeW])]
  congr 1
  exact things_congr k fun i hi => by simp [RI.takeW, show i + 1 < k + 1 by omega]
end
end Go.Proofs.Ytcdhdpocnjmkmaa
