/- Blocks of a text: plain. -/
import Derived.Test.YtecpbnkkgdppoaaLib
namespace Go.Proofs.Ytecpbnkkgdppoaa
/-- What a block tells. -/
structure Bc where
  num : Int
  start : Int
  warm : Int
  data : List UInt8
deriving DecidableEq
def warmN (S L n : Nat) : Nat := min (L - 1) (n * S)
def dataN (S L : Nat) (t : List UInt8) (n : Nat) : List UInt8 := (t.take ((n + 1) * S)).drop (n * S - warmN S L n)
def blkN (S L F : Nat) (t : List UInt8) (n : Nat) : Bc := ⟨n, F + n * S, warmN S L n, dataN S L t n⟩
def numN (S : Nat) (t : List UInt8) : Nat := (t.length + S - 1) / S
def blocksN (S L F : Nat) (t : List UInt8) : List Bc := (List.range (numN S t)).map (blkN S L F t)
/-- The block that is not whole yet: what a cutter holds of it. -/
def heldN (S L : Nat) (t : List UInt8) : List UInt8 := t.drop (t.length / S * S - warmN S L (t.length / S))
theorem warm_le (S L n : Nat) : warmN S L n ≤ n * S ∧ warmN S L n ≤ L - 1 := by unfold warmN; omega
theorem div_low (n S : Nat) (h : 1 ≤ S) : n / S * S ≤ n ∧ n < (n / S + 1) * S := by
  have h1 := Nat.div_mul_le_self n S
  have h2 := Nat.lt_div_mul_add (a := n) (b := S) (by omega)
  rw [Nat.add_mul]; omega
theorem div_eq (n S k : Nat) (h : 1 ≤ S) (h1 : k * S ≤ n) (h2 : n < (k + 1) * S) : n / S = k := by
  refine Nat.div_eq_of_lt_le h1 h2
theorem held_length (S L : Nat) (t : List UInt8) (h : 1 ≤ S) : (heldN S L t).length = t.length - t.length / S * S + warmN S L (t.length / S) := by
  have h1 := div_low t.length S h
  have h2 := warm_le S L (t.length / S)
  unfold heldN
  rw [List.length_drop]
  omega
/-- One byte more, and the block is not whole. -/
theorem held_more (S L : Nat) (t : List UInt8) (b : UInt8) (h : 1 ≤ S) (hl : t.length + 1 < (t.length / S + 1) * S) : (t ++ [b]).length / S = t.length / S ∧ heldN S L (t ++ [b]) = heldN S L t ++ [b] := by
  have h1 := div_low t.length S h
  have e : (t ++ [b]).length / S = t.length / S := div_eq _ S _ h (by simp; omega) (by simp; omega)
  refine ⟨e, ?_⟩
  unfold heldN
  rw [e, List.drop_append_of_le_length (by omega)]
/-- One byte more, and the block is whole. -/
theorem held_whole (S L F : Nat) (t : List UInt8) (b : UInt8) (h : 1 ≤ S) (hl : (t.length / S + 1) * S ≤ t.length + 1) :
    (t ++ [b]).length / S = t.length / S + 1 ∧ heldN S L t ++ [b] = dataN S L (t ++ [b]) (t.length / S) ∧
      heldN S L (t ++ [b]) = (heldN S L t ++ [b]).drop ((heldN S L t ++ [b]).length - warmN S L (t.length / S + 1)) ∧ warmN S L (t.length / S + 1) ≤ (heldN S L t ++ [b]).length := by
  have h1 := div_low t.length S h
  have h3 : (t.length / S + 1) * S = t.length + 1 := by omega
  have e : (t ++ [b]).length / S = t.length / S + 1 := div_eq _ S _ h (by simp; omega) (by simp only [List.length_append, List.length_singleton]; rw [Nat.add_mul (t.length / S + 1)]; omega)
  have hw := warm_le S L (t.length / S)
  have hw1 := warm_le S L (t.length / S + 1)
  have hlen := held_length S L t h
  have hk : t.length / S * S + S = t.length + 1 := by rw [Nat.add_mul] at h3; omega
  have hwS : warmN S L (t.length / S + 1) ≤ warmN S L (t.length / S) + S := by unfold warmN; rw [Nat.add_mul]; omega
  have e1 : heldN S L t ++ [b] = (t ++ [b]).drop (t.length / S * S - warmN S L (t.length / S)) := by
    unfold heldN; rw [List.drop_append_of_le_length (by omega)]
  refine ⟨e, ?_, ?_, by simp; omega⟩
  · rw [e1]
    unfold dataN
    rw [List.take_of_length_le (by simp; omega)]
  · rw [e1, List.drop_drop]
    unfold heldN
    rw [e]
    congr 1
    simp only [List.length_drop, List.length_append, List.length_singleton]
    omega
/-- A whole block stays as it is, whatever comes. -/
theorem blk_more (S L F : Nat) (t x : List UInt8) (n : Nat) (h : (n + 1) * S ≤ t.length) : blkN S L F (t ++ x) n = blkN S L F t n := by
  unfold blkN dataN
  rw [List.take_append_of_le_length h]
/-- The blocks that become whole. -/
def newsN (S L F : Nat) (t u : List UInt8) : List Bc := (List.range' (t.length / S) (u.length / S - t.length / S)).map (blkN S L F u)
theorem news_self (S L F : Nat) (t : List UInt8) : newsN S L F t t = [] := by simp [newsN]
theorem news_more (S L F : Nat) (t u : List UInt8) (b : UInt8) (h : 1 ≤ S) (hl : u.length + 1 < (u.length / S + 1) * S) (htu : t.length ≤ u.length) : newsN S L F t (u ++ [b]) = newsN S L F t u := by
  obtain ⟨e, _⟩ := held_more S L u b h hl
  unfold newsN
  rw [e]
  refine List.map_congr_left fun n hn => blk_more S L F u [b] n ?_
  rw [List.mem_range'_1] at hn
  have h1 := div_low u.length S h
  have h2 : n + 1 ≤ u.length / S := by have := Nat.div_le_div_right (c := S) htu; omega
  exact Nat.le_trans (Nat.mul_le_mul_right S h2) h1.1
theorem news_whole (S L F : Nat) (t u : List UInt8) (b : UInt8) (h : 1 ≤ S) (hl : (u.length / S + 1) * S ≤ u.length + 1) (htu : t.length ≤ u.length) : newsN S L F t (u ++ [b]) = newsN S L F t u ++ [blkN S L F (u ++ [b]) (u.length / S)] := by
  obtain ⟨e, _⟩ := held_whole S L F u b h hl
  have hd := Nat.div_le_div_right (c := S) htu
  unfold newsN
  rw [e, show u.length / S + 1 - t.length / S = (u.length / S - t.length / S) + 1 from by omega, List.range'_concat, List.map_append]
  congr 1
  · refine List.map_congr_left fun n hn => blk_more S L F u [b] n ?_
    rw [List.mem_range'_1] at hn
    have h1 := div_low u.length S h
    exact Nat.le_trans (Nat.mul_le_mul_right S (show n + 1 ≤ u.length / S by omega)) h1.1
  · simp only [List.map_cons, List.map_nil, Nat.one_mul]
    rw [show t.length / S + (u.length / S - t.length / S) = u.length / S from by omega]
theorem num_bnd (S : Nat) (t : List UInt8) (h : 1 ≤ S) (n : Nat) : n < numN S t ↔ n * S < t.length := by
  unfold numN
  rw [Nat.lt_div_iff_mul_lt (by omega)]
  constructor <;> intro h2 <;> (try rw [Nat.mul_comm] at *) <;> omega
end Go.Proofs.Ytecpbnkkgdppoaa
