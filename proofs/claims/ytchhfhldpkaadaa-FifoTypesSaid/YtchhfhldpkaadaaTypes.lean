/- The walk of teasellaw21.FifoTypes. -/
import Derived.Test.YtchhfhldpkaadaaTh
import Derived.Deep.DeepCutAuto
import Derived.Deep.CutBlock
import Derived.BigQuiet
namespace Go.Proofs.Ytchhfhldpkaadaa
open Go.RowKit Go.Shelf
/-- The text at a place. -/
def nm (z : Int) : ByteArray := if z = 1 then ByteArray.empty else if z = 2 then ⟨#[98]⟩ else ⟨#[97]⟩
def namesCells : Array Value := #[.string ⟨#[97]⟩, .string ByteArray.empty, .string ⟨#[98]⟩, .string ⟨#[97]⟩]
theorem names_at (p : Nat) (h : p < 4) : namesCells[p]? = some (.string (nm p)) := by
  match p, h with
  | 0, _ => rfl
  | 1, _ => rfl
  | 2, _ => rfl
  | 3, _ => rfl
theorem info_str : (Try.prog.info? 9).map (fun i => (i.zero, i.size, i.bytes)) = some (some (.string ByteArray.empty), 1, 16) := by kernel_rfl
/-- Two queues, and the names' block, apart. -/
def YRel (w0 : World) (gN b g b2 g2 m f f2 : Nat) (xs : List Int) (cl : Bool) (ys : List ByteArray) (dl : Bool) (wr : World) : Prop :=
  QI.W w0 b g m f xs cl wr ∧ QS.QAt wr b2 g2 m f2 ys dl ∧ Blk wr gN 44 namesCells ∧ (∀ k, k = b ∨ k = g → k ≠ b2 ∧ k ≠ g2 ∧ k ≠ gN) ∧ gN ≠ b2 ∧ gN ≠ g2 ∧ w0.heap.size ≤ b2 ∧ w0.heap.size ≤ g2 ∧ w0.heap.size ≤ gN
section
variable {w0 wr w2 : World} {gN b g b2 g2 m f f2 f' : Nat} {xs xs' : List Int} {ys ys' : List ByteArray} {cl cl' dl dl' : Bool}
theorem YRel.frm (h : YRel w0 gN b g b2 g2 m f f2 xs cl ys dl wr) : Frm (fun _ => False) w0 wr := h.1.2.1
theorem YRel.same (h : YRel w0 gN b g b2 g2 m f f2 xs cl ys dl wr) (hF : Frm (fun _ => False) wr w2) : YRel w0 gN b g b2 g2 m f f2 xs cl ys dl w2 := by
  obtain ⟨h1, h2, h3, h4⟩ := h
  exact ⟨h1.same hF, h2.keptF hF, h3.kept hF id, h4⟩
/-- The second queue, with what lies ahead of it at w0. -/
theorem YRel.ws (h : YRel w0 gN b g b2 g2 m f f2 xs cl ys dl wr) : QS.W w0 b2 g2 m f2 ys dl wr := ⟨h.2.1, h.1.2.1, h.2.2.2.2.2.2.1, h.2.2.2.2.2.2.2.1⟩
theorem YRel.i (h : YRel w0 gN b g b2 g2 m f f2 xs cl ys dl wr) (hW : QI.W w0 b g m f' xs' cl' w2) (hF : Frm (fun k => k = b ∨ k = g) wr w2) : YRel w0 gN b g b2 g2 m f' f2 xs' cl' ys dl w2 := by
  obtain ⟨h1, h2, h3, h4, h5⟩ := h
  exact ⟨hW, h2.kept (hF.block _ h2.lt.1 fun e => (h4 b2 e).1 rfl) (hF.block _ h2.lt.2 fun e => (h4 g2 e).2.1 rfl), h3.kept hF (fun e => (h4 gN e).2.2 rfl), h4, h5⟩
theorem YRel.t (h : YRel w0 gN b g b2 g2 m f f2 xs cl ys dl wr) (hW : QS.W w0 b2 g2 m f' ys' dl' w2) (hF : Frm (fun k => k = b2 ∨ k = g2) wr w2) : YRel w0 gN b g b2 g2 m f f' xs cl ys' dl' w2 := by
  obtain ⟨h1, h2, h3, h4, h5, h6, h7, h8, h9⟩ := h
  exact ⟨h1.kept hF (fun e => by rcases e with e | e; exact (h4 b (.inl rfl)).1 e; exact (h4 b (.inl rfl)).2.1 e) (fun e => by rcases e with e | e; exact (h4 g (.inr rfl)).1 e; exact (h4 g (.inr rfl)).2.1 e) (fun k hk => by rcases hk with rfl | rfl; exact h7; exact h8), hW.1, h3.kept hF (fun e => by rcases e with e | e; exact h5 e; exact h6 e), h4, h5, h6, h7, h8, h9⟩
theorem YRel.name (h : YRel w0 gN b g b2 g2 m f f2 xs cl ys dl wr) (p : Nat) (hp : p < 4) : wr.cell? ⟨gN, p, none⟩ = some (.string (nm p)) := (h.2.2.1.cell p).trans (names_at p hp)
theorem QS.W.putAll (h : QS.W w0 b g m f ys cl wr) {K : Nat → Prop} {v : Value} {l : List ByteArray} {xs l0 : List Int} (hv : Sl wr K v (l.map sv)) (hK : ∀ k, K k → k ≠ b ∧ k ≠ g ∧ k < wr.heap.size) (hl : l.length = l0.length) (hy : ys.length = xs.length) :
    Calls Try.prog 25 #[.pointer (some ⟨b, 0, none⟩), v] wr (QS.P (.bool (fitB m xs cl l0)) w0 b g m f (if fitB m xs cl l0 then ys ++ l else ys) cl wr) := by
  obtain ⟨A, n, c, rfl, hn, hc, hm, hx⟩ := id hv
  rw [List.length_map] at hn
  by_cases hfit : cl = false ∧ xs.length + l0.length ≤ m
  · obtain ⟨rfl, h2⟩ := hfit
    have e : fitB m xs false l0 = true := by simp [fitB, h2]
    rw [e, if_pos rfl]
    exact h.put hv hK (by omega)
  · have e : fitB m xs cl l0 = false := by
      cases cl
      · simp [fitB]; simp at hfit; omega
      · simp [fitB]
    rw [e, if_neg (by decide)]
    exact h.putNo (by cases cl; right; simp at hfit; omega; left; rfl)
end
/-- The place that a number stands for. -/
def pl (z : Int) : Nat := (z % 4).toNat
theorem pl_lt (z : Int) : pl z < 4 := by unfold pl; omega
theorem tm4 (x : Int) : Int.tmod x 4 = x % 4 ∨ Int.tmod x 4 = x % 4 - 4 := by
  rw [Int.tmod_eq_emod]
  split <;> simp
theorem tm4b (x : Int) : Int.tmod (Int.tmod x 4 + 4) 4 = (pl x : Int) := by
  have h := tm4 x
  have h2 := tm4 (Int.tmod x 4 + 4)
  have h3 : 0 ≤ Int.tmod (Int.tmod x 4 + 4) 4 := Int.tmod_nonneg _ (by omega)
  unfold pl
  omega
def pls (l : List Int) : List Int := l.map fun z => (pl z : Int)
/-- Between two numbers: two rows of the walk's own. -/
def RowsAt (B : Nat) (l : List Int) (vp vt : Value) (wr : World) : Prop :=
  wr.ownsRow B 3 1 vp l.length ((pls l).map iv) ∧ wr.ownsRow B 9 1 vt l.length (((pls l).map nm).map sv)
theorem own_apart {B B' n n' : Nat} {e t : TypeId} {v u : Value} {xs ys : List Value} {wr : World} (h : wr.ownsRow B e 1 v n xs) (h' : wr.ownsRow B' t 1 u n' ys) (hne : e ≠ t) (k : Nat) (h1 : v.ownBlock = some k) (h2 : u.ownBlock = some k) : False := by
  rcases h.2 with ⟨rfl, _⟩ | ⟨g1, _, c1, rfl, _, hg1, _⟩
  · cases h1
  · rcases h'.2 with ⟨rfl, _⟩ | ⟨g2, _, c2, rfl, _, hg2, _⟩
    · cases h2
    · cases h1; cases h2
      rw [hg1] at hg2
      injection hg2 with hg2
      injection hg2 with _ ht
      exact hne ht
theorem ne_is : 3 ≠ 9 := by decide
theorem RowsAt.kept {B : Nat} {l : List Int} {vp vt : Value} {wr w2 : World} {K : Nat → Prop} (h : RowsAt B l vp vt wr) (hF : Frm K wr w2) (hK : ∀ k, K k → k < B) : RowsAt B l vp vt w2 :=
  ⟨hF.own h.1 fun k hk e => by have := (h.1.lt k hk).1; have := hK k e; omega, hF.own h.2 fun k hk e => by have := (h.2.lt k hk).1; have := hK k e; omega⟩
theorem RowsAt.slp {B : Nat} {l : List Int} {vp vt : Value} {wr : World} (h : RowsAt B l vp vt wr) : Sl wr (fun k => B ≤ k ∧ k < wr.heap.size) vp ((pls l).map iv) :=
  (OSl.of_own h.1 (K := fun k => B ≤ k) fun k hk => (h.1.lt k hk).1).sl.mono fun _ hk => ⟨hk.1, hk.lt⟩
theorem RowsAt.slt {B : Nat} {l : List Int} {vp vt : Value} {wr : World} (h : RowsAt B l vp vt wr) : Sl wr (fun k => B ≤ k ∧ k < wr.heap.size) vt (((pls l).map nm).map sv) :=
  (OSl.of_own h.2 (K := fun k => B ≤ k) fun k hk => (h.2.lt k hk).1).sl.mono fun _ hk => ⟨hk.1, hk.lt⟩
/-- One more in both rows: the first step, and the second. -/
theorem RowsAt.one {B : Nat} {l : List Int} {vp vt : Value} {wr w3 : World} {o : Obj} (h : RowsAt B l vp vt wr) (g1 : (wr.alloc o).grownBy w3 vp.ownBlock) : w3.ownsRow B 9 1 vt l.length (((pls l).map nm).map sv) ∧ (∀ k, vp.ownBlock = some k → B ≤ k) :=
  ⟨(((Frm.refl (fun k => vp.ownBlock = some k) wr).alloc o).grown g1 fun _ hk => .inl hk).own h.2 fun k hk e => own_apart h.1 h.2 ne_is k e hk, fun k hk => (h.1.lt k hk).1⟩
theorem RowsAt.two {B q : Nat} {l : List Int} {x : Int} {v3 v5 vt : Value} {w3 w5 : World} {o : Obj} {N3 N5 : Nat} (hq : (l.take q).length = q) (hx : l.take (q + 1) = l.take q ++ [x]) (hN3 : N3 = q + 1) (hN5 : N5 = q + 1) (h3 : w3.ownsRow B 3 1 v3 N3 ((pls (l.take q)).map iv ++ [.int .i64 (pl x)])) (hv : w3.ownsRow B 9 1 vt q (((pls (l.take q)).map nm).map sv))
    (h5 : w5.ownsRow B 9 1 v5 N5 (((pls (l.take q)).map nm).map sv ++ [.string (nm (pl x))])) (g2 : (w3.alloc o).grownBy w5 vt.ownBlock) : RowsAt B (l.take (q + 1)) v3 v5 w5 := by
  have h3' := (((Frm.refl (fun k => vt.ownBlock = some k) w3).alloc o).grown g2 fun k hk => .inl hk).own h3 fun k hk e => own_apart h3 hv ne_is k hk e
  unfold RowsAt
  rw [hx]
  subst hN3 hN5
  simp only [List.length_append, hq, List.length_cons, List.length_nil, Nat.zero_add]
  exact ⟨by simpa [pls, iv] using h3', by simpa [pls, sv] using h5⟩
def YBet (w0 : World) (gN b g b2 g2 m : Nat) (wr : World) : Prop :=
  ∃ f f2 xs cl, YRel w0 gN b g b2 g2 m f f2 xs cl (xs.map nm) cl wr ∧ ∀ x ∈ xs, 0 ≤ x ∧ x < 4
theorem pls_ok (l : List Int) : ∀ x ∈ pls l, 0 ≤ x ∧ x < 4 := by
  intro x hx
  obtain ⟨z, _, rfl⟩ := List.mem_map.1 hx
  have := pl_lt z
  omega
section
variable {w0 wr : World} {gN b g b2 g2 m : Nat}
theorem YBet.same {w2 : World} (h : YBet w0 gN b g b2 g2 m wr) (hF : Frm (fun _ => False) wr w2) : YBet w0 gN b g b2 g2 m w2 := by
  obtain ⟨f, f2, xs, cl, h, hx⟩ := h
  exact ⟨f, f2, xs, cl, h.same hF, hx⟩
theorem YBet.lt (h : YBet w0 gN b g b2 g2 m wr) : b < wr.heap.size ∧ g < wr.heap.size ∧ b2 < wr.heap.size ∧ g2 < wr.heap.size := by
  obtain ⟨f, f2, xs, cl, h, hx⟩ := h
  exact ⟨h.1.1.lt.1, h.1.1.lt.2, h.2.1.lt.1, h.2.1.lt.2⟩
theorem YBet.frm (h : YBet w0 gN b g b2 g2 m wr) : Frm (fun _ => False) w0 wr := by
  obtain ⟨f, f2, xs, cl, h, hx⟩ := h
  exact h.frm
theorem YBet.name (h : YBet w0 gN b g b2 g2 m wr) (p : Nat) (hp : p < 4) : wr.cell? ⟨gN, p, none⟩ = some (.string (nm p)) := by
  obtain ⟨f, f2, xs, cl, h, hx⟩ := h
  exact h.name p hp
theorem YBet.put {B : Nat} {l : List Int} {vp vt : Value} (h : YBet w0 gN b g b2 g2 m wr) (hB : b < B ∧ g < B ∧ b2 < B ∧ g2 < B) (hR : RowsAt B l vp vt wr) : ∃ t : Bool,
    Calls Try.prog 11 #[.pointer (some ⟨b, 0, none⟩), vp] wr fun e w2 => e = .returned (.bool t) ∧
      Calls Try.prog 25 #[.pointer (some ⟨b2, 0, none⟩), vt] w2 fun e w3 => e = .returned (.bool t) ∧ YBet w0 gN b g b2 g2 m w3 := by
  obtain ⟨f, f2, xs, cl, h, hx⟩ := h
  refine ⟨fitB m xs cl (pls l), (h.1.putAll hR.slp fun k hk => ⟨by omega, by omega, hk.2⟩).mono ?_⟩
  rintro e w2 ⟨rfl, hW, hF⟩
  have h2 := h.i hW hF
  have hR2 := hR.kept hF (fun k hk => by rcases hk with rfl | rfl <;> omega)
  refine ⟨rfl, (h2.ws.putAll (xs := xs) (l0 := pls l) hR2.slt (fun k hk => ⟨by omega, by omega, hk.2⟩) (by simp) (by simp)).mono ?_⟩
  rintro e w3 ⟨rfl, hW3, hF3⟩
  refine ⟨rfl, f, f2, (if fitB m xs cl (pls l) = true then xs ++ pls l else xs), cl, ?_, ?_⟩
  · have h3 := h2.t hW3 hF3
    have e : (if fitB m xs cl (pls l) = true then xs.map nm ++ (pls l).map nm else xs.map nm) = (if fitB m xs cl (pls l) = true then xs ++ pls l else xs).map nm := by split <;> simp
    rw [e] at h3
    exact h3
  · intro x hm
    split at hm
    · rcases List.mem_append.1 hm with hm | hm
      · exact hx x hm
      · exact pls_ok l x hm
    · exact hx x hm
theorem YBet.close (h : YBet w0 gN b g b2 g2 m wr) : ∃ t : Bool,
    Calls Try.prog 15 #[.pointer (some ⟨b, 0, none⟩)] wr fun e w2 => e = .returned (.bool t) ∧
      Calls Try.prog 27 #[.pointer (some ⟨b2, 0, none⟩)] w2 fun e w3 => e = .returned (.bool t) ∧ YBet w0 gN b g b2 g2 m w3 := by
  obtain ⟨f, f2, xs, cl, h, hx⟩ := h
  refine ⟨!cl, (h.1.close rfl).mono ?_⟩
  rintro e w2 ⟨rfl, hW, hF⟩
  have h2 := h.i hW hF
  refine ⟨rfl, (h2.ws.close rfl).mono ?_⟩
  rintro e w3 ⟨rfl, hW3, hF3⟩
  exact ⟨rfl, f, f2, xs, true, h2.t hW3 hF3, hx⟩
theorem YBet.clear (h : YBet w0 gN b g b2 g2 m wr) : ∃ t : Int,
    Calls Try.prog 17 #[.pointer (some ⟨b, 0, none⟩)] wr fun e w2 => e = .returned (.int .i64 t) ∧
      Calls Try.prog 28 #[.pointer (some ⟨b2, 0, none⟩)] w2 fun e w3 => e = .returned (.int .i64 t) ∧ YBet w0 gN b g b2 g2 m w3 := by
  obtain ⟨f, f2, xs, cl, h, hx⟩ := h
  refine ⟨xs.length, (h.1.clear rfl).mono ?_⟩
  rintro e w2 ⟨rfl, hW, hF⟩
  have h2 := h.i hW hF
  refine ⟨rfl, (h2.ws.clear (n := xs.length) (by simp)).mono ?_⟩
  rintro e w3 ⟨rfl, hW3, hF3⟩
  exact ⟨rfl, 0, 0, [], cl, h2.t hW3 hF3, by simp⟩
theorem YBet.get (h : YBet w0 gN b g b2 g2 m wr) : (∃ p : Nat, p < 4 ∧
    Calls Try.prog 13 #[.pointer (some ⟨b, 0, none⟩)] wr fun e w2 => e = .returned (.tuple #[.int .i64 p, .bool true]) ∧
      Calls Try.prog 26 #[.pointer (some ⟨b2, 0, none⟩)] w2 fun e w3 => e = .returned (.tuple #[.string (nm p), .bool true]) ∧ YBet w0 gN b g b2 g2 m w3) ∨
    (Calls Try.prog 13 #[.pointer (some ⟨b, 0, none⟩)] wr fun e w2 => e = .returned (.tuple #[.int .i64 0, .bool false]) ∧
      Calls Try.prog 26 #[.pointer (some ⟨b2, 0, none⟩)] w2 fun e w3 => e = .returned (.tuple #[.string ByteArray.empty, .bool false]) ∧ YBet w0 gN b g b2 g2 m w3) := by
  obtain ⟨f, f2, xs, cl, h, hx⟩ := h
  cases xs with
  | nil =>
    refine .inr (h.1.getNo.mono ?_)
    rintro e w2 ⟨rfl, hW, hF⟩
    have h2 := h.i hW hF
    refine ⟨rfl, (h2.ws.getNo).mono ?_⟩
    rintro e w3 ⟨rfl, hW3, hF3⟩
    exact ⟨rfl, f, f2, [], cl, h2.t hW3 hF3, by simp⟩
  | cons x xs =>
    obtain ⟨p, rfl⟩ := Int.eq_ofNat_of_zero_le (hx x (by simp)).1
    refine .inl ⟨p, by have := (hx p (by simp)).2; omega, h.1.get.mono ?_⟩
    rintro e w2 ⟨rfl, hW, hF⟩
    have h2 := h.i hW hF
    refine ⟨rfl, (QS.W.get (x := nm p) (xs := xs.map nm) h2.ws).mono ?_⟩
    rintro e w3 ⟨rfl, hW3, hF3⟩
    exact ⟨rfl, _, _, xs, cl, h2.t hW3 hF3, fun y hy => hx y (by simp [hy])⟩
theorem YRel.alls {f f2 : Nat} {xs : List Int} {cl dl : Bool} {ys : List ByteArray} (h : YRel w0 gN b g b2 g2 m f f2 xs cl ys dl wr) :
    Calls Try.prog 20 #[.pointer (some ⟨b, 0, none⟩)] wr fun e w2 => ∃ v, e = .returned v ∧ (∃ A n c, v = .slice A n c ∧ n = xs.length) ∧
      Calls Try.prog 29 #[.pointer (some ⟨b2, 0, none⟩)] w2 fun e w3 => ∃ u, e = .returned u ∧ YRel w0 gN b g b2 g2 m f f2 xs cl ys dl w3 ∧ Sl w3 (fun k => k < w3.heap.size) v (xs.map iv) ∧ Sl w3 (fun k => k < w3.heap.size) u (ys.map sv) := by
  refine h.1.all.mono ?_
  rintro e w2 ⟨v, rfl, hv, -, hF⟩
  have hv2 := hv.sl
  obtain ⟨A, n, c, hvv, hn, -⟩ := id hv
  refine ⟨v, rfl, ⟨A, n, c, hvv, by simpa using hn⟩, ((h.same hF).ws.all).mono ?_⟩
  rintro e w3 ⟨u, rfl, hu, -, hF3⟩
  exact ⟨u, rfl, (h.same hF).same hF3, hv2.keptTo fun k hk => ⟨hF3.block k hk.lt id, Nat.lt_of_lt_of_le hk.lt hF3.size⟩, hu.sl.mono fun k hk => hk.lt⟩
end
set_option maxRecDepth 100000 in
set_option maxHeartbeats 8000000 in
theorem types_any (room : Int) (hroom : room ≤ 9223372036854775807) (A : Option Addr) (n c : Nat) (ds : List (Int × Value × List Int)) (w : World) (h : DAt w A n c ds) :
    Calls Try.prog 5 #[.int .i64 room, .slice A n c] w fun e w' => e = .returned (.bool true) ∧ Frm (fun _ => False) w w' := by
  have hsm := small_any A n c ds w h
  have H := Lib.hid (And.intro h hsm)
  have hbd : n ≤ c ∧ c ≤ 9223372036854775807 := ⟨h.2.1, h.2.2.1⟩
  obtain ⟨hnc, hcm⟩ := hbd
  clear h hsm
  have HS : Hid (∃ s, s = smallB ds) := ⟨_, rfl⟩
  obtain ⟨s, hs⟩ := HS.out
  have Hs := Lib.hid hs
  rw [← hs] at H
  clear HS hs
  have hmay := may_any room
  cases s
  · clear hmay
    go_enter Try.func5, Try.ntmps5
    go_wp2_with fail
    refine H.out.2.mono ?_
    rintro e w' ⟨rfl, rfl⟩
    go_wp2_with fail
    refine (wakes_any w).mono ?_
    rintro e w' ⟨rfl, hF⟩
    go_wp2_with fail
    go_ret
    exact ⟨rfl, hF⟩
  · by_cases hr : 1 ≤ room ∧ room ≤ 16
    · obtain ⟨m, rfl⟩ := Int.eq_ofNat_of_zero_le (show 0 ≤ room by omega)
      rw [show decide (1 ≤ (m : Int) ∧ (m : Int) ≤ 16) = true from by simpa using hr] at hmay
      have Hmay := Lib.hid hmay
      clear hmay
      obtain ⟨i0, hi, hz0, hz1, hz2⟩ := info_parts CI.infoI
      obtain ⟨j0, hj, hy0, hy1, hy2⟩ := info_parts info_str
      go_enter Try.func5, Try.ntmps5
      go_wp2_with fail
      refine H.out.2.mono ?_
      rintro e w' ⟨rfl, rfl⟩
      go_wp2_with fail
      refine (Hmay.out w).mono ?_
      rintro e w' ⟨rfl, rfl⟩
      clear Hmay
      go_wp2_with fail
      refine (QI.W.new m _ (by omega) (by omega)).mono ?_
      rintro e w1 ⟨b, g, rfl, hW, hb, hg⟩
      have hbN := (Blk.new w 44 namesCells).kept hW.2.1 id
      have h1 := Lib.hid (And.intro hW (And.intro hb (And.intro hg hbN)))
      clear hW hb hg hbN
      go_wp2_with fail
      refine (QS.W.new m _ (by omega) (by omega)).mono ?_
      rintro e w2 ⟨b2, g2, rfl, hW, hb, hg⟩
      have HT : Hid (YBet w w.heap.size b g b2 g2 m w2) := Lib.hid (by
        obtain ⟨hI, hb, hg, hN⟩ := h1.out
        have hz : (w.alloc (.cells namesCells 44)).heap.size = w.heap.size + 1 := by simp
        have h0 := hI.2.2
        have h00 : (w.alloc (.cells namesCells 44)).heap.size ≤ b ∧ (w.alloc (.cells namesCells 44)).heap.size ≤ g := h0
        have h2 := hW.2.2
        have hI2 := hI.same hW.2.1
        refine ⟨0, 0, [], false, ⟨⟨hI2.1, ((Frm.refl _ w).alloc _).trans hI2.2.1 (fun _ h => h.elim), by omega, by omega⟩, hW.1, hN.kept hW.2.1 id, fun k hk => ?_, ?_, ?_, ?_, ?_, Nat.le_refl _⟩, by simp⟩
        · rcases hk with rfl | rfl <;> omega
        all_goals omega)
      clear h1 hW hb hg
      generalize w.heap.size = gN at *
      go_wp2_with fail
      go_loopw [10] (fun i wr => ∃ k : Nat, k ≤ n ∧ i = .int .i64 k ∧ Hid (YBet w gN b g b2 g2 m wr)) (fun i _ => n - (intOf i).toNat)
      case atStart => exact ⟨0, Nat.zero_le _, rfl, HT⟩
      case round =>
        clear HT
        obtain ⟨k, hk, rfl, hT⟩ := hrel
        by_cases hlt : k < n
        · obtain ⟨hn, _, _, hds⟩ := H.out.1
          have hkl : k < ds.length := by omega
          obtain ⟨ga, o, rfl, hga, d0, d1, hsl, hwf⟩ := hds k hkl
          have hl40 : (ds[k]).2.2.length ≤ 40 := by
            have := Hs.out
            simp [smallB] at this
            exact this.1 _ _ _ (List.getElem_mem hkl)
          clear hds hn
          generalize ds[k] = d at *
          obtain ⟨D, v, l⟩ := d
          dsimp only at d0 d1 hsl hwf hl40
          obtain ⟨A', n', c', rfl, hn', hc', hm', hrow⟩ := id hsl
          rw [List.length_map] at hn'
          have hn40 : n' ≤ 40 := by omega
          have Hd := Lib.hid (And.intro hga (And.intro d0 (And.intro d1 (And.intro hn' (And.intro hrow hwf)))))
          clear hga d0 d1 hsl hl40 hwf hn' hkl hrow
          have hB : Hid (∃ B, B = wr.heap.size) := ⟨_, rfl⟩
          obtain ⟨B, hB⟩ := hB.out
          have HB := Lib.hid hB
          have HL : Hid ((b < B ∧ g < B ∧ b2 < B ∧ g2 < B) ∧ gN < B) := Lib.hid (by rw [hB]; exact ⟨hT.out.lt, World.block_lt_of_cell? _ _ (hT.out.name 0 (by decide))⟩)
          clear hB
          go_wp2_with fail
          go_loopw [11, 12, 13] (fun vp vt i wq => ∃ q : Nat, q ≤ n' ∧ i = .int .i64 q ∧ Hid (RowsAt B (l.take q) vp vt wq ∧ Frm (fun _ => False) wr wq)) (fun _ _ i _ => n' - (intOf i).toNat)
          case atStart => exact ⟨0, Nat.zero_le _, rfl, Lib.hid ⟨⟨by simpa [pls] using World.ownsRow_nil _ _ _ _, by simpa [pls] using World.ownsRow_nil _ _ _ _⟩, Frm.refl _ _⟩⟩
          case round =>
            obtain ⟨q, hq, rfl, hR⟩ := hrel
            have hfw := (hT.out.frm.trans hR.out.2 (fun _ h => h.elim))
            have c1 := hfw.cell Hd.out.2.2.1 id
            by_cases hql : q < n'
            · obtain ⟨_, _, _, hn2, hrow, hwf⟩ := Hd.out
              have hqk : q < l.length := by omega
              obtain ⟨gl, ol, rfl, hgl, hcs⟩ := hrow.resolve_left (by omega)
              have ce : wr.cell? ⟨gl, ol + q, none⟩ = some (.int .i64 l[q]) := by have := hfw.cell (hcs q (by simpa using hqk)) id; simpa [iv] using this
              have hts := List.take_succ_eq_append_getElem hqk
              have hqq : (l.take q).length = q := by simp; omega
              have HX := Lib.hid (And.intro hts hqq)
              have hcn := ((hT.out.same hR.out.2).name (pl l[q]) (pl_lt _))
              clear hn2 hrow hwf hcs hts hqq hfw
              generalize hxx : l[q] = x at *
              have hp4 := pl_lt x
              have ht1 : IntKind.i64.wrap (Int.tmod x 4 + 4) = Int.tmod x 4 + 4 := IntWalk.i64_in _ (by have := tm4 x; omega)
              have ht2 : Int.tmod (Int.tmod x 4 + 4) 4 = (pl x : Int)   := tm4b x
              generalize hpx : pl x = p at *
              have Hpx := Lib.hid hpx
              clear hpx
              clear hxx hqk
              obtain ⟨hrp, hrt⟩ := hR.out.1
              rw [HX.out.2] at hrp hrt
              obtain ⟨Ap, cp, rfl, hcp1, hcp2⟩ := own_form hrp
              obtain ⟨At, ct, rfl, hct1, hct2⟩ := own_form hrt
              have hF0 : Frm (fun k => B ≤ k) wr (wr.alloc (.cells #[.int .i64 p] 3)) := (Frm.refl (fun k => B ≤ k) wr).alloc _
              have hBs : B ≤ wr.heap.size := by have h1 := hR.out.2.size; have h2 := HB.out; omega
              go_wp2_with (first
                | (at_builtin; refine wpList_append_sl (by rfl) _ _ 31 (by rfl) B 3 i0 (.int .i64 0) 8 Try.underlying31 hi hz0 hz1 hz2 (by rfl) _ q _ (by rfl) (by exact hrp.alloc _) (fun k => k = wr.heap.size) _ [.int .i64 p] (by rfl) (by exact Sl.blk1 wr _ _) (by simp [Value.oneCell']) (by unfold maxLen; simp; omega) (by simp; omega) (by simp; omega) ?_; intro A3 N3 c3 w3 HN3 hNc3 hc3 hown3 hg3 hat3; have hF3 := Lib.hid ((Frm.refl (fun k => B ≤ k) wr).alloc _ |>.grown hg3 fun k hk => .inl (hrp.lt k hk).1); have hvt := (hR.out.1.one hg3).1; rw [HX.out.2] at hvt; have hcn3 := hF3.out.cell hcn (by have := HL.out.2; simp; omega); clear hcn)
                | (at_builtin; refine wpList_append_sl (by rfl) _ _ 48 (by rfl) B 9 j0 (.string ByteArray.empty) 16 Try.underlying48 hj hy0 hy1 hy2 (by rfl) _ q _ (by rfl) (by exact hvt.alloc _) (fun k => k = w3.heap.size) _ [.string (nm p)] (by rfl) (by exact Sl.blk1 w3 _ _) (by simp [Value.oneCell']) (by unfold maxLen; simp; omega) (by simp; omega) (by have := hF3.out.size; simp; omega) ?_; intro A5 N5 c5 w5 HN5 hNc5 hc5 hown5 hg5 hat5))
              go_roundw
              case rel =>
                refine ⟨q + 1, by omega, by go_num, Lib.hid ?_⟩
                have epx := Hpx.out
                subst epx
                have e3 := HN3.out
                have e5 := HN5.out
                simp at e3 e5
                exact ⟨RowsAt.two HX.out.2 HX.out.1 e3 e5 hown3 hvt hown5 hg5, (hR.out.2.trans hF3.out fun k hk => .inr (by have := HB.out; omega)).trans (((Frm.refl (fun k => B ≤ k) w3).alloc _).grown hg5 fun k hk => .inl (hvt.lt k hk).1) fun k hk => .inr (by have := HB.out; omega)⟩
              case measure => simp [intOf]; omega
            · obtain rfl : q = n' := by omega
              obtain ⟨_, _, _, hn2, _, _⟩ := Hd.out
              have hB2 := Lib.hid (hT.out.same hR.out.2)
              have hR2 := hR.out.1
              rw [List.take_of_length_le (by omega)] at hR2
              have HR2 := Lib.hid hR2
              have c0 := (hT.out.frm.trans hR.out.2 (fun _ h => h.elim)).cell Hd.out.2.1 id
              clear hn2 hR2 hfw hql
              go_upto_block 4 with fail
              go_cut [15] (fun v wc => v = .bool true ∧ Hid (YBet w gN b g b2 g2 m wc))
              case first =>
                by_cases hD0 : D = 0
                · subst hD0
                  obtain ⟨t, hc⟩ := hB2.out.put HL.out.1 HR2.out
                  have Hc := Lib.hid hc
                  clear hc
                  cases t
                  all_goals
                    go_wp2_with fail
                    refine Hc.out.mono ?_
                    rintro e w2 ⟨rfl, hc⟩
                    have Hc2 := Lib.hid hc
                    clear hc
                    go_wp2_with fail
                    refine Hc2.out.mono ?_
                    rintro e w3 ⟨rfl, hY⟩
                    have HY := Lib.hid hY
                    clear hY
                    go_wp2_with fail
                    go_meet
                    case rel => exact ⟨rfl, HY⟩
                · have hb0 : (D == 0) = false := by simpa using hD0
                  by_cases hD1 : D = 1
                  · subst hD1
                    rcases hB2.out.get with ⟨p, hp4, hc⟩ | hc
                    · have Hc := Lib.hid hc
                      clear hc
                      go_wp2_with fail
                      refine Hc.out.mono ?_
                      rintro e w2 ⟨rfl, hc⟩
                      have Hc2 := Lib.hid hc
                      clear hc
                      go_wp2_with fail
                      refine Hc2.out.mono ?_
                      rintro e w3 ⟨rfl, hY⟩
                      have HY := Lib.hid hY
                      have hcn := hY.name p hp4
                      clear hY
                      generalize nm p = s at *
                      go_wp2_with fail
                      go_meet
                      case rel => exact ⟨rfl, HY⟩
                    · have Hc := Lib.hid hc
                      clear hc
                      go_wp2_with fail
                      refine Hc.out.mono ?_
                      rintro e w2 ⟨rfl, hc⟩
                      have Hc2 := Lib.hid hc
                      clear hc
                      go_wp2_with fail
                      refine Hc2.out.mono ?_
                      rintro e w3 ⟨rfl, hY⟩
                      have HY := Lib.hid hY
                      clear hY
                      go_wp2_with fail
                      go_meet
                      case rel => exact ⟨rfl, HY⟩
                  · have hb1 : (D == 1) = false := by simpa using hD1
                    by_cases hD2 : D = 2
                    · subst hD2
                      obtain ⟨t, hc⟩ := hB2.out.close
                      have Hc := Lib.hid hc
                      clear hc
                      cases t
                      all_goals
                        go_wp2_with fail
                        refine Hc.out.mono ?_
                        rintro e w2 ⟨rfl, hc⟩
                        have Hc2 := Lib.hid hc
                        clear hc
                        go_wp2_with fail
                        refine Hc2.out.mono ?_
                        rintro e w3 ⟨rfl, hY⟩
                        have HY := Lib.hid hY
                        clear hY
                        go_wp2_with fail
                        go_meet
                        case rel => exact ⟨rfl, HY⟩
                    · have hb2 : (D == 2) = false := by simpa using hD2
                      obtain ⟨t, hc⟩ := hB2.out.clear
                      have Hc := Lib.hid hc
                      clear hc
                      go_wp2_with fail
                      refine Hc.out.mono ?_
                      rintro e w2 ⟨rfl, hc⟩
                      have Hc2 := Lib.hid hc
                      clear hc
                      go_wp2_with fail
                      refine Hc2.out.mono ?_
                      rintro e w3 ⟨rfl, hY⟩
                      have HY := Lib.hid hY
                      clear hY
                      go_wp2_with fail
                      go_meet
                      case rel => exact ⟨rfl, HY⟩
              case rest =>
                obtain ⟨rfl, hcut⟩ := hcut
                obtain ⟨f, f2, xs, cl, hY, hx4⟩ := hcut.out
                have HA := Lib.hid (And.intro hY.alls hx4)
                have hroom := hY.1.1.room
                obtain ⟨fr, hfr⟩ : ∃ fr : Int, (m : Int) - (xs.length : Int) = fr := ⟨_, rfl⟩
                have Hfr := Lib.hid hfr
                have hxm : xs.length ≤ 16 := by omega
                clear hcut hY hx4 hB2 HR2 c0 c1 hroom hfr hR hT HB HL Hd
                generalize hxl : xs.length = na at *
                have Hxl := Lib.hid hxl
                clear hxl
                go_wp2_with fail
                refine HA.out.1.mono ?_
                rintro e w3 ⟨va, rfl, ⟨Aa, na1, ca, rfl, hna⟩, hc⟩
                have ena : na1 = na := by have := Hxl.out; omega
                subst ena
                have Hc := Lib.hid hc
                clear hc hna
                go_wp2_with fail
                refine Hc.out.mono ?_
                rintro e w4 ⟨vu, rfl, hY4, hva, hvu⟩
                obtain ⟨Au, nu, cu, rfl, hnu, hcu, hmu, hru⟩ := id hvu
                obtain ⟨_, _, _, hee, -, hca, hma, hra⟩ := id hva
                cases hee
                have enu : nu = na1 := by have := Hxl.out; simp at hnu; omega
                subst enu
                have H4 := Lib.hid (And.intro hY4 (And.intro hra hru))
                clear hY4 hva hvu hnu hra hru Hc
                go_wp2_with fail
                refine (H4.out.1.1.len Hxl.out).mono ?_
                rintro e w' ⟨rfl, rfl⟩
                go_wp2_with fail
                refine (H4.out.1.ws.len (n := nu) (by have := Hxl.out; simpa using this)).mono ?_
                rintro e w' ⟨rfl, rfl⟩
                go_wp2_with fail
                refine (H4.out.1.1.free (n := fr) (by have := Hxl.out; have := Hfr.out; omega)).mono ?_
                rintro e w5 ⟨rfl, -, hF5⟩
                have H5 := Lib.hid (And.intro (H4.out.1.same hF5) hF5)
                clear hF5
                go_wp2_with fail
                refine (H5.out.1.ws.free (n := fr) (by have := Hxl.out; have := Hfr.out; simp; omega)).mono ?_
                rintro e w6 ⟨rfl, -, hF6⟩
                have H6 := Lib.hid (And.intro (H5.out.1.same hF6) (H5.out.2.trans hF6 fun _ h => h.elim))
                clear hF6 H5
                go_wp2_with fail
                refine (H6.out.1.1.closed).mono ?_
                rintro e w7 ⟨rfl, -, hF7⟩
                have H7 := Lib.hid (And.intro (H6.out.1.same hF7) (H6.out.2.trans hF7 fun _ h => h.elim))
                clear hF7 H6
                go_wp2_with fail
                refine (H7.out.1.ws.closed).mono ?_
                rintro e w8 ⟨rfl, -, hF8⟩
                have H8 := Lib.hid (And.intro (H7.out.1.same hF8) (H7.out.2.trans hF8 fun _ h => h.elim))
                clear hF8 H7
                have hcc : (cl != cl) = false := by cases cl <;> rfl
                go_wp2_with fail
                go_loopw [22] (fun i wr => ∃ k q : Nat, k ≤ nu ∧ i = .int .i64 k ∧ wr = w8.drewN q) (fun i _ => nu - (intOf i).toNat)
                case atStart => exact ⟨0, 0, Nat.zero_le _, rfl, rfl⟩
                case round =>
                  obtain ⟨j, q, hj, rfl, rfl⟩ := hrel
                  by_cases hjn : j < nu
                  · have hjx : j < xs.length := by have := Hxl.out; omega
                    obtain ⟨_, hra, hru⟩ := H4.out
                    obtain ⟨g1, o1, rfl, hg1, hra⟩ := hra.resolve_left (by omega)
                    obtain ⟨g3, o3, rfl, hg3, hru⟩ := hru.resolve_left (by omega)
                    have e1 := H8.out.2.cell (hra j (by simpa using hjx)) id
                    have e2 := H8.out.2.cell (hru j (by simpa using hjx)) id
                    simp only [List.getElem_map] at e1 e2
                    obtain ⟨hx0, hx4⟩ := HA.out.2 xs[j] (List.getElem_mem hjx)
                    clear hra hru
                    generalize xs[j] = x at *
                    obtain ⟨p, rfl⟩ := Int.eq_ofNat_of_zero_le hx0
                    have hp4 : p < 4 := by omega
                    have e3 := H8.out.1.name p hp4
                    simp only [iv, sv] at e1 e2
                    have hl0 : decide ((p : Int) < 0) = false := by simp
                    have hl3 : decide ((3 : Int) < (p : Int)) = false := by simp; omega
                    have hl3' : decide (3 < p) = false := by simp; omega
                    clear hx0 hx4 hjx
                    generalize nm p = s at *
                    go_wp2_with fail
                    go_quiet (fail)
                    rename_i nq
                    go_wp2_with fail
                    go_roundw
                    case rel => exact ⟨j + 1, q + nq, by omega, by go_num, rfl⟩
                    case measure => simp [intOf]; omega
                  · obtain rfl : j = nu := by omega
                    go_wp2_with fail
                    go_roundw
                    case rel => exact ⟨k + 1, by omega, by go_num, Lib.hid (YBet.same ⟨f, f2, xs, cl, H8.out.1, HA.out.2⟩ ((Frm.refl _ w8).drewN q))⟩
                    case measure => simp [intOf]; omega
        · obtain rfl : k = n := by omega
          obtain ⟨f, f2, xs, cl, hY, _⟩ := hT.out
          have hfr := Lib.hid hY.frm
          clear hT hY
          go_wp2_with fail
          refine (wakes_any wr).mono ?_
          rintro e w5 ⟨rfl, hF5⟩
          go_wp2_with fail
          go_ret
          exact ⟨rfl, hfr.out.trans hF5 (fun _ h => h.elim)⟩
    · rw [show decide (1 ≤ room ∧ room ≤ 16) = false from by simpa using hr] at hmay
      have Hmay := Lib.hid hmay
      clear hmay hr
      go_enter Try.func5, Try.ntmps5
      go_wp2_with fail
      refine H.out.2.mono ?_
      rintro e w' ⟨rfl, rfl⟩
      go_wp2_with fail
      refine (Hmay.out w).mono ?_
      rintro e w' ⟨rfl, rfl⟩
      go_wp2_with fail
      refine (wakes_any w).mono ?_
      rintro e w' ⟨rfl, hF⟩
      go_wp2_with fail
      go_ret
      exact ⟨rfl, hF⟩
end Go.Proofs.Ytchhfhldpkaadaa
