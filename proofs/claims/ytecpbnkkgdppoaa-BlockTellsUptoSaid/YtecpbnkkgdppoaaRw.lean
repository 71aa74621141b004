/- What an iterator may turn, and what its consumer may: apart by the type of rows. -/
import Derived.Test.YtecpbnkkgdppoaaRngs
namespace Go.Proofs.Ytecpbnkkgdppoaa
open Go.RowKit
/-- Rows of type t. -/
def Typed (X : World) (t : TypeId) (q : Nat) : Prop := ∃ cs fr, X.heap[q]? = some (.cells cs t fr)
/-- Turned: K0, which is old, and newer rows of type t. -/
def RW (K0 : Nat → Prop) (n₀ : Nat) (t : TypeId) (X Y : World) : Prop := Frm (fun q => K0 q ∨ n₀ ≤ q ∧ Typed X t q) X Y
/-- Left as they were: all that is older, and rows of type t. -/
def KpW (n₀ : Nat) (t : TypeId) (X Y : World) : Prop := Frm (fun q => n₀ ≤ q ∧ ¬ Typed X t q) X Y
theorem Typed.lt {X : World} {t : TypeId} {q : Nat} (h : Typed X t q) : q < X.heap.size := by
  obtain ⟨cs, fr, h⟩ := h
  exact lt_heap h
theorem Typed.of_blk {X : World} {t : TypeId} {q : Nat} {cs : Array Value} (h : Blk X q t cs) : Typed X t q := ⟨_, _, h⟩
theorem Typed.not {X : World} {t t' : TypeId} {q : Nat} {cs : Array Value} {fr : Nat × Nat} (h : X.heap[q]? = some (.cells cs t' fr)) (hne : t' ≠ t) : ¬ Typed X t q := by
  rintro ⟨cs', fr', h'⟩
  rw [h] at h'
  injection h' with h'
  injection h' with _ ht
  exact hne ht
theorem Typed.not_obj {X : World} {t : TypeId} {q : Nat} {o : Obj} (h : X.heap[q]? = some o) (ho : o.isCells = false) : ¬ Typed X t q := by
  rintro ⟨cs', fr', h'⟩
  rw [h] at h'
  cases h'
  cases ho
theorem KpW.refl (n₀ : Nat) (t : TypeId) (X : World) : KpW n₀ t X X := Frm.refl _ _
theorem KpW.trans {n₀ : Nat} {t : TypeId} {X Y Z : World} (h : KpW n₀ t X Y) (k : KpW n₀ t Y Z) : KpW n₀ t X Z := by
  refine Frm.trans h k fun q ⟨h1, h2⟩ => ?_
  by_cases hq : X.heap.size ≤ q
  · exact .inr hq
  · refine .inl ⟨h1, fun h3 => h2 ?_⟩
    obtain ⟨cs, fr, h3'⟩ := h3
    exact ⟨cs, fr, (h.block q (by omega) fun h4 => h4.2 ⟨cs, fr, h3'⟩).trans h3'⟩
theorem KpW.of {n₀ : Nat} {t : TypeId} {X Y : World} {K : Nat → Prop} (h : Frm K X Y) (hK : ∀ q, K q → n₀ ≤ q ∧ ¬ Typed X t q) : KpW n₀ t X Y := Frm.mono h fun q hq => .inl (hK q hq)
theorem KpW.own {n₀ base size n : Nat} {t : TypeId} {X Y : World} {v : Value} {xs : List Value} (h : KpW n₀ t X Y) (ho : X.ownsRow base t size v n xs) : Y.ownsRow base t size v n xs :=
  Frm.own h ho fun g hg => fun hk => by
    obtain ⟨cs, hb⟩ := own_blk ho g hg
    exact hk.2 ⟨_, _, hb⟩
theorem RW.own {n₀ base size n : Nat} {t t' : TypeId} {K0 : Nat → Prop} {X Y : World} {v : Value} {xs : List Value} (h : RW K0 n₀ t X Y) (ho : X.ownsRow base t' size v n xs) (hne : t' ≠ t) (hK : ∀ q, base ≤ q → ¬ K0 q) : Y.ownsRow base t' size v n xs :=
  Frm.own h ho fun g hg => by
    rintro (hk | ⟨_, hk⟩)
    · exact hK g (ho.lt g hg).1 hk
    · obtain ⟨cs, hb⟩ := own_blk ho g hg
      exact Typed.not hb hne hk
theorem RW.blk {n₀ g : Nat} {t t' : TypeId} {cs : Array Value} {K0 : Nat → Prop} {X Y : World} (h : RW K0 n₀ t X Y) (hb : Blk X g t' cs) (hne : t' ≠ t) (hK : ¬ K0 g) : Blk Y g t' cs :=
  Blk.kept hb h (by rintro (hk | ⟨_, hk⟩); exact hK hk; exact Typed.not hb hne hk)
theorem RW.keeps {n₀ B : Nat} {t : TypeId} {K0 : Nat → Prop} {X Y : World} (h : RW K0 n₀ t X Y) (hK : ∀ q, B ≤ q → ¬ K0 q) : KeepsFrom B X Y :=
  ⟨h.size, fun k o hB hk ho => (h.block k (lt_heap hk) (by rintro (hq | ⟨_, hq⟩); exact hK k hB hq; exact Typed.not_obj hk ho hq)).trans hk⟩
/-- What holds of an element is left so by what the consumer turns. -/
def Stays {α : Type} (n₀ : Nat) (t : TypeId) (G : α → World → Prop) : Prop := ∀ x X Y, G x X → KpW n₀ t X Y → G x Y
theorem Stays.own {α : Type} {n₀ B : Nat} {t : TypeId} {G : α → World → Prop} (h : Stays n₀ t G) (hB : n₀ ≤ B) : OwnFrom B G := fun x X Y row hG hg hr =>
  h x X Y hG (KpW.of (Frm.of_grown hg) fun q hq => by
    obtain ⟨h1, o, h2, h3⟩ := hr q hq
    exact ⟨by omega, Typed.not_obj h2 h3⟩)
end Go.Proofs.Ytecpbnkkgdppoaa
