/- The walk of teasellaw21.FifoOrder. -/
import Derived.Test.YtchhfhldpkaadaaTh
import Derived.Deep.DeepCutAuto
import Derived.Deep.CutBlock
import Derived.Deep.RegionHeld3
namespace Go.Proofs.Ytchhfhldpkaadaa
open Go.RowKit Go.Shelf
/-- A queue, and two rows of the walk's own: what was put, what was got (so many). -/
def ORel (w0 : World) (B b g m f : Nat) (xs : List Int) (cl : Bool) (ps : List Int) (q : Nat) (vP vG : Value) (wr : World) : Prop :=
  QI.W w0 b g m f xs cl wr ∧ wr.ownsRow B 3 1 vP ps.length (ps.map iv) ∧ (∃ gs, wr.ownsRow B 3 1 vG q gs) ∧ b < B ∧ g < B ∧ (∀ k, vP.ownBlock = some k → vG.ownBlock ≠ some k) ∧ w0.heap.size ≤ B ∧ B ≤ wr.heap.size
section
variable {w0 wr w2 : World} {B b g m f f' q N c : Nat} {xs xs' ps l : List Int} {cl cl' : Bool} {vP vG : Value} {A : Option Addr}
theorem ORel.frm (h : ORel w0 B b g m f xs cl ps q vP vG wr) : Frm (fun _ => False) w0 wr := h.1.2.1
theorem ORel.same (h : ORel w0 B b g m f xs cl ps q vP vG wr) (hF : Frm (fun _ => False) wr w2) : ORel w0 B b g m f xs cl ps q vP vG w2 := by
  obtain ⟨h1, h2, ⟨gs, h3⟩, h4, h5, h6, h7, h8⟩ := h
  exact ⟨h1.same hF, hF.own h2 (fun _ _ => id), ⟨gs, hF.own h3 (fun _ _ => id)⟩, h4, h5, h6, h7, Nat.le_trans h8 hF.size⟩
theorem ORel.qs (h : ORel w0 B b g m f xs cl ps q vP vG wr) (hW : QI.W w0 b g m f' xs' cl' w2) (hF : Frm (fun k => k = b ∨ k = g) wr w2) : ORel w0 B b g m f' xs' cl' ps q vP vG w2 := by
  obtain ⟨h1, h2, ⟨gs, h3⟩, h4, h5, h6, h7, h8⟩ := h
  exact ⟨hW, hF.own h2 (fun k hk => by have := (h2.lt k hk).1; omega), ⟨gs, hF.own h3 (fun k hk => by have := (h3.lt k hk).1; omega)⟩, h4, h5, h6, h7, Nat.le_trans h8 hF.size⟩
theorem ORel.put (h : ORel w0 B b g m f xs cl ps q vP vG wr) (hN : N = ps.length + (l.map iv).length) (ho : w2.ownsRow B 3 1 (.slice A N c) N (ps.map iv ++ l.map iv)) (hg : wr.grownBy w2 vP.ownBlock) (hat : (Value.slice A N c).ownBlock = vP.ownBlock ∨ (Value.slice A N c).ownBlock = some wr.heap.size) :
    ORel w0 B b g m f xs cl (ps ++ l) q (.slice A N c) vG w2 := by
  obtain ⟨h1, h2, ⟨gs, h3⟩, h4, h5, h6, h7, h8⟩ := h
  have hF : Frm (fun k => vP.ownBlock = some k) wr w2 := (Frm.refl _ wr).grown hg (fun k hk => .inl hk)
  have hn : ∀ k, vP.ownBlock = some k → B ≤ k := fun k hk => (h2.lt k hk).1
  subst hN
  rw [List.length_map] at *
  refine ⟨h1.kept hF (fun e => by have := hn _ e; omega) (fun e => by have := hn _ e; omega) (fun k hk => by have := hn k hk; omega), by simpa using ho, ⟨gs, hF.own h3 (fun k hk e => h6 k e hk)⟩, h4, h5, ?_, h7, Nat.le_trans h8 hF.size⟩
  rcases hat with e | e
  · rw [e]; exact h6
  · rw [e]; intro k hk hk2; cases hk; have := (h3.lt _ hk2).2; omega
theorem ORel.got (h : ORel w0 B b g m f xs cl ps q vP vG wr) {gs' : List Value} {o : Obj} (hN : N = q + 1) (ho : w2.ownsRow B 3 1 (.slice A N c) N gs') (hg : (wr.alloc o).grownBy w2 vG.ownBlock) (hat : (Value.slice A N c).ownBlock = vG.ownBlock ∨ (Value.slice A N c).ownBlock = some (wr.alloc o).heap.size) :
    ORel w0 B b g m f xs cl ps (q + 1) vP (.slice A N c) w2 := by
  obtain ⟨h1, h2, ⟨gs, h3⟩, h4, h5, h6, h7, h8⟩ := h
  have hF : Frm (fun k => vG.ownBlock = some k) wr w2 := ((Frm.refl _ wr).alloc o).grown hg (fun k hk => .inl hk)
  have hn : ∀ k, vG.ownBlock = some k → B ≤ k := fun k hk => (h3.lt k hk).1
  subst hN
  refine ⟨h1.kept hF (fun e => by have := hn _ e; omega) (fun e => by have := hn _ e; omega) (fun k hk => by have := hn k hk; omega), hF.own h2 (fun k hk e => h6 k hk e), ⟨gs', ho⟩, h4, h5, ?_, h7, Nat.le_trans h8 hF.size⟩
  rcases hat with e | e
  · rw [e]; exact h6
  · rw [e]; intro k hk hk2; cases hk2; have := (h2.lt _ hk).2; simp at this; omega
end
/-- Between two deeds. -/
def OBet (w0 : World) (B b g m : Nat) (k : Nat) (vP vG vc : Value) (wr : World) : Prop :=
  ∃ f cl ps q, vc = .bool cl ∧ ORel w0 B b g m f (ps.drop q) cl ps q vP vG wr ∧ q ≤ ps.length ∧ ps.length ≤ 40 * k
set_option maxRecDepth 100000 in
set_option maxHeartbeats 4000000 in
theorem order_any (room : Int) (hroom : room ≤ 9223372036854775807) (A : Option Addr) (n c : Nat) (ds : List (Int × Value × List Int)) (w : World) (h : DAt w A n c ds) :
    Calls Try.prog 4 #[.int .i64 room, .slice A n c] w fun e w' => e = .returned (.bool true) ∧ Frm (fun _ => False) w w' := by
  have hsm := small_any A n c ds w h
  have H := Lib.hid (And.intro h hsm)
  have hbd : n ≤ c ∧ c ≤ 9223372036854775807 := ⟨h.2.1, h.2.2.1⟩
  obtain ⟨hnc, hcm⟩ := hbd
  clear h hsm
  have HS : Hid (∃ s, s = smallB ds) := ⟨_, rfl⟩
  obtain ⟨s, hs⟩ := HS.out
  have Hs := Lib.hid hs
  rw [← hs] at H
  clear HS hs
  have hmay := may_any room
  cases s
  · clear hmay
    go_enter Try.func4, Try.ntmps4
    go_wp2_with fail
    refine H.out.2.mono ?_
    rintro e w' ⟨rfl, rfl⟩
    go_wp2_with fail
    refine (wakes_any w).mono ?_
    rintro e w' ⟨rfl, hF⟩
    go_wp2_with fail
    go_ret
    exact ⟨rfl, hF⟩
  · by_cases hr : 1 ≤ room ∧ room ≤ 16
    · obtain ⟨m, rfl⟩ := Int.eq_ofNat_of_zero_le (show 0 ≤ room by omega)
      rw [show decide (1 ≤ (m : Int) ∧ (m : Int) ≤ 16) = true from by simpa using hr] at hmay
      have Hmay := Lib.hid hmay
      clear hmay
      obtain ⟨i0, hi, hz0, hz1, hz2⟩ := info_parts CI.infoI
      go_enter Try.func4, Try.ntmps4
      go_wp2_with fail
      refine H.out.2.mono ?_
      rintro e w' ⟨rfl, rfl⟩
      go_wp2_with fail
      refine (Hmay.out w).mono ?_
      rintro e w' ⟨rfl, rfl⟩
      clear Hmay
      go_wp2_with fail
      refine (QI.W.new m w (by omega) (by omega)).mono ?_
      rintro e w1 ⟨b, g, rfl, hW, hb, hg⟩
      have HT : Hid (OBet w w1.heap.size b g m 0 (.slice none 0 0) (.slice none 0 0) (.bool false) w1) := Lib.hid
        ⟨0, false, [], 0, rfl, ⟨hW, World.ownsRow_nil _ _ _ _, ⟨[], World.ownsRow_nil _ _ _ _⟩, hb, hg, fun _ h => (by cases h), hW.2.1.size, Nat.le_refl _⟩, by simp, by simp⟩
      clear hW hb hg
      generalize hB : w1.heap.size = B at *
      clear hB
      go_wp2_with fail
      go_loopw [7, 8, 9, 10] (fun vP vG vc i wr => ∃ k : Nat, k ≤ n ∧ i = .int .i64 k ∧ Hid (OBet w B b g m k vP vG vc wr)) (fun _ _ _ i _ => n - (intOf i).toNat)
      case atStart => exact ⟨0, Nat.zero_le _, rfl, HT⟩
      case round =>
        clear HT
        obtain ⟨k, hk, rfl, hT⟩ := hrel
        obtain ⟨f, cl, ps, q, rfl, hT, hq, hp⟩ := hT.out
        by_cases hlt : k < n
        · obtain ⟨hn, _, _, hds⟩ := H.out.1
          have hkl : k < ds.length := by omega
          have hk80 : k ≤ 80 := by
            have := Hs.out
            simp [smallB] at this
            omega
          obtain ⟨ga, o, rfl, hga, d0, d1, hsl, hwf⟩ := hds k hkl
          have hl40 : (ds[k]).2.2.length ≤ 40 := by
            have := Hs.out
            simp [smallB] at this
            exact this.1 _ _ _ (List.getElem_mem hkl)
          have c0 := hT.frm.cell d0 id
          have c1 := hT.frm.cell d1 id
          clear hds hn
          generalize ds[k] = d at *
          obtain ⟨D, v, l⟩ := d
          dsimp only at c0 c1 d0 d1 hsl hwf hl40
          obtain ⟨A', n', c', rfl, hn', hc', hm', _⟩ := id hsl
          rw [List.length_map] at hn'
          have hn40 : n' ≤ 40 := by omega
          have Hd := Lib.hid (And.intro hga (And.intro d0 (And.intro d1 (And.intro hsl hn'))))
          have hP3 : ps.length ≤ 3200 := by omega
          have hT' := Lib.hid (And.intro hT hp)
          obtain ⟨AP, cP, rfl, hcP1, hcP2⟩ := own_form hT.2.1
          obtain ⟨gs, hgs⟩ := id hT.2.2.1
          obtain ⟨AG, cG, rfl, hcG1, hcG2⟩ := own_form hgs
          have hrm := hT.1.1.room.2.2.2
          rw [List.length_drop] at hrm
          clear hga d0 d1 hsl hl40 hwf hn' hkl hT hp hgs
          generalize hpn : ps.length = p at *
          have Hp := Lib.hid hpn
          clear hpn
          go_upto_block 2 with fail
          go_cut [7, 8, 9] (fun vP vG vc wc => Hid (OBet w B b g m (k + 1) vP vG vc wc))
          case first =>
            by_cases hD0 : D = 0
            · subst hD0
              go_wp2_with fail
              refine (hT'.out.1.1.putAll (K := fun q => q < w.heap.size) (Hd.out.2.2.2.1.keptTo fun q hq => ⟨hT'.out.1.frm.block q hq id, hq⟩) (fun q hq => ⟨by have := hT'.out.1.1.2.2; omega, by have := hT'.out.1.1.2.2; omega, Nat.lt_of_lt_of_le hq hT'.out.1.frm.size⟩)).mono ?_
              rintro e w2 ⟨rfl, hW, hF⟩
              have c2 : w2.cell? ⟨ga, o + k * 2 + 1, none⟩ = some (.slice A' n' c') := (hT'.out.1.frm.trans hF (fun q hq => .inr (by have := hT'.out.1.1.2.2; omega))).cell Hd.out.2.2.1 id
              by_cases hfit : cl = false ∧ (p : Int) - (q : Int) + (n' : Int) ≤ (m : Int)
              · obtain ⟨rfl, hle⟩ := hfit
                have e : fitB m (ps.drop q) false l = true := by simp [fitB]; have := Hp.out; have := Hd.out.2.2.2.2; omega
                have h2 := hT'.out.1.qs hW hF
                unfold newIn at h2
                rw [e, if_pos rfl] at h2
                rw [e]
                have H2 := Lib.hid h2
                clear h2 hW hF e
                have hown := H2.out.2.1
                rw [Hp.out] at hown
                go_wp2_with (at_builtin; refine wpList_append_sl (by rfl) _ _ 31 (by rfl) B 3 i0 (.int .i64 0) 8 Try.underlying31 hi hz0 hz1 hz2 (by rfl) _ p _ (by rfl) hown (fun q => q < w.heap.size) _ (l.map iv) (by rfl) (by exact Hd.out.2.2.2.1.keptTo fun q hq => ⟨H2.out.frm.block q hq id, hq⟩) (iv_one l) (by unfold maxLen; rw [List.length_map]; have := Hd.out.2.2.2.2; omega) (by rw [List.length_map]; have := Hd.out.2.2.2.2; omega) (by exact H2.out.2.2.2.2.2.2.2) ?_; intro A3 N3 c3 w3 HN3 hNc3 hc3 hown3 hg3 hat3)
                go_meet
                case rel => exact Lib.hid ⟨f, false, ps ++ l, q, rfl, by
                  have := H2.out.put (by rw [HN3.out, Hp.out]) hown3 hg3 hat3
                  rwa [List.drop_append_of_le_length (by have := Hp.out; omega)], by have := Hp.out; simp; omega, by have := Hp.out; have := Hd.out.2.2.2.2; have := hT'.out.2; simp; omega⟩
              · have e : fitB m (ps.drop q) cl l = false := by
                  cases cl
                  · simp [fitB]; have := Hp.out; have := Hd.out.2.2.2.2; simp at hfit; omega
                  · simp [fitB]
                have h2 := hT'.out.1.qs hW hF
                unfold newIn at h2
                rw [e, if_neg (by decide)] at h2
                rw [e]
                have H2 := Lib.hid h2
                clear h2 hW hF e
                cases cl with
                | true =>
                  clear hfit
                  go_wp2_with fail
                  go_meet
                  case rel => exact Lib.hid ⟨f, true, ps, q, rfl, H2.out, by have := Hp.out; omega, by have := Hp.out; have := hT'.out.2; omega⟩
                | false =>
                  have hle : ¬ (p : Int) - (q : Int) + (n' : Int) ≤ (m : Int) := fun h => hfit ⟨rfl, h⟩
                  clear hfit
                  go_wp2_with fail
                  go_meet
                  case rel => exact Lib.hid ⟨f, false, ps, q, rfl, H2.out, by have := Hp.out; omega, by have := Hp.out; have := hT'.out.2; omega⟩
            · have hb0 : (D == 0) = false := by simpa using hD0
              by_cases hD2 : D = 2
              · subst hD2
                go_wp2_with fail
                refine (hT'.out.1.1.close rfl).mono ?_
                rintro e w2 ⟨rfl, hW, hF⟩
                have H2 := Lib.hid (hT'.out.1.qs hW hF)
                have hcc : ((!cl) == cl) = false := by cases cl <;> rfl
                clear hW hF
                go_wp2_with fail
                go_meet
                case rel => exact Lib.hid ⟨f, true, ps, q, rfl, H2.out, by have := Hp.out; omega, by have := Hp.out; have := hT'.out.2; omega⟩
              · have hb2 : (D == 2) = false := by simpa using hD2
                by_cases hqp : q < p
                · obtain ⟨x, xs, hxs⟩ : ∃ x xs, ps.drop q = x :: xs := by
                    cases h : ps.drop q with
                    | nil => have := List.drop_eq_nil_iff.1 h; have := Hp.out; omega
                    | cons x xs => exact ⟨x, xs, rfl⟩
                  have hx2 : ps.drop (q + 1) = xs := by rw [← List.drop_drop, hxs]; rfl
                  have hpx : ps[q]? = some x := by have := congrArg (fun l => l[0]?) hxs; simpa using this
                  have Hx := Lib.hid (And.intro hxs (And.intro hx2 hpx))
                  have hget := hT'.out.1.1
                  rw [hxs] at hget
                  have Hget := Lib.hid hget
                  clear hxs hx2 hpx hget
                  have hdd : decide (q < p) = true := by simpa using hqp
                  go_wp2_with fail
                  refine (Hget.out.get).mono ?_
                  rintro e w2 ⟨rfl, hW, hF⟩
                  have h2 := hT'.out.1.qs hW hF
                  rw [← Hx.out.2.1] at h2
                  have H2 := Lib.hid h2
                  have hsl := OSl.of_own (K := fun _ => True) h2.2.1 (fun _ _ => trivial)
                  obtain ⟨Ax, nx, cx, he, hnx, _, _, hrow⟩ := hsl
                  cases he
                  rcases hrow with ⟨_, _⟩ | ⟨gp, op, cur, rfl, _, hbk, _, hcs⟩
                  · simp at hnx; omega
                  have hop : op = 0 := by
                    rcases h2.2.1.2 with ⟨h, _⟩ | ⟨_, _, _, h, _⟩
                    · cases h
                    · cases h; rfl
                  subst hop
                  have cq : w2.cell? ⟨gp, q, none⟩ = some (.int .i64 x) := by
                    have hql : q < ps.length := by have := Hp.out; omega
                    rw [hbk.cell, ← Nat.zero_add q, hcs q (by simpa using hql)]
                    have := Hx.out.2.2
                    rw [List.getElem?_eq_getElem hql] at this
                    simp [iv, Option.some.inj this]
                  obtain ⟨gs, hgs⟩ := h2.2.2.1
                  have Hg := Lib.hid hgs
                  clear hW hF h2 hbk hcs hgs hnx
                  go_wp2_with (at_builtin; refine wpList_append_sl (by rfl) _ _ 31 (by rfl) B 3 i0 (.int .i64 0) 8 Try.underlying31 hi hz0 hz1 hz2 (by rfl) _ q _ (by rfl) (by exact Hg.out.alloc _) (fun q => q = w2.heap.size) _ [.int .i64 x] (by rfl) (by exact Sl.blk1 w2 _ _) (by simp [Value.oneCell']) (by unfold maxLen; simp; omega) (by simp; omega) (by have := H2.out.2.2.2.2.2.2.2; simp; omega) ?_; intro A3 N3 c3 w3 HN3 hNc3 hc3 hown3 hg3 hat3)
                  go_meet
                  case rel => exact Lib.hid ⟨_, cl, ps, q + 1, rfl, H2.out.got HN3.out hown3 hg3 hat3, by have := Hp.out; omega, by have := Hp.out; have := hT'.out.2; omega⟩
                · have hdd : decide (q < p) = false := by simpa using hqp
                  have hxs : ps.drop q = [] := List.drop_eq_nil_iff.2 (by have := Hp.out; omega)
                  have hget := hT'.out.1.1
                  rw [hxs] at hget
                  have Hget := Lib.hid (And.intro hget hxs)
                  clear hxs hget
                  go_wp2_with fail
                  refine (Hget.out.1.getNo).mono ?_
                  rintro e w2 ⟨rfl, hW, hF⟩
                  have h2 := hT'.out.1.qs hW hF
                  rw [← Hget.out.2] at h2
                  have H2 := Lib.hid h2
                  clear hW hF h2
                  go_wp2_with fail
                  go_meet
                  case rel => exact Lib.hid ⟨_, cl, ps, q, rfl, H2.out, by have := Hp.out; omega, by have := Hp.out; have := hT'.out.2; omega⟩
          case rest =>
            obtain ⟨f2, cl2, ps2, q2, rfl, h2, hq2, hp2⟩ := hcut.out
            clear hT' Hd c0 c1 Hp hq hrm hcP1 hcP2 hcG1 hcG2 hP3 hcut
            obtain ⟨AP2, cP2, rfl, hcP1, hcP2⟩ := own_form h2.2.1
            obtain ⟨gs, hgs⟩ := id h2.2.2.1
            obtain ⟨AG2, cG2, rfl, hcG1, hcG2⟩ := own_form hgs
            have hrm := h2.1.1.room
            rw [List.length_drop] at hrm
            obtain ⟨_, hm16, _, hrm⟩ := hrm
            have hlen : (ps2.drop q2).length = ps2.length - q2 := List.length_drop
            have hsl := (OSl.of_own (K := fun _ => True) h2.2.1 (fun _ _ => trivial)).sl
            have hdr := fun w => run_drop (P := Try.prog) (sz := 1) Try.underlying31 (fun w => by kernel_rfl) AP2 ps2.length cP2 q2 (by omega) (by omega) w
            simp only [Int.toNat_natCast, Nat.mul_one] at hdr
            have hsd := hsl.drop q2 hq2
            have H2 := Lib.hid (And.intro h2 (And.intro hsd (And.intro hp2 hlen)))
            clear h2 hsl hsd hgs hlen
            generalize hpe : ps2.length = p2 at *
            have Hpe := Lib.hid hpe
            clear hpe
            generalize (if cP2 = q2 then AP2 else AP2.map (·.add q2)) = A5 at *
            have hsub : IntKind.i64.wrap ((p2 : Int) - (q2 : Int)) = (p2 : Int) - (q2 : Int) := IntWalk.i64_in _ (by omega)
            have hne : (((p2 - q2 : Nat) : Int) != (p2 : Int) - (q2 : Int)) = false := by simp; omega
            have hgt : decide (m < p2 - q2) = false := by simp; omega
            generalize hL : p2 - q2 = L at *
            clear hL
            go_wp2_with fail
            go_region_held3 (fun _ => True) (exact trivial)
              (first
              | (go_at_call 21; refine ((H2.out.1.1.drewN 1).len H2.out.2.2.2).mono ?_; rintro e w' ⟨rfl, rfl⟩)
              | (go_at_call 20; refine ((H2.out.1.1.drewN 1).all).mono ?_; rintro e w3 ⟨v3, rfl, hv3, hW3, hF3⟩; have h3 := Lib.hid ((H2.out.1.same ((Frm.refl _ wc).drewN 1)).same hF3))
              | (go_at_call 19; refine (ints_any v3 (.slice A5 L (cP2 - q2)) _ _ (ps2.drop q2) (ps2.drop q2) _ (by exact hv3.sl) (by have := H2.out.2.1.keptTo (w' := w3) (K' := fun _ => True) (fun k hk => ⟨hF3.block k hk.lt id, trivial⟩); rw [List.map_drop]; exact this)).mono ?_; rintro e w5 ⟨rfl, k5, rfl⟩; have h5 := Lib.hid (h3.out.same ((Frm.refl _ w3).drewN k5))))
            go_wp2_with fail
            go_roundw
            case rel => exact ⟨k + 1, by omega, by go_num, Lib.hid ⟨f2, cl2, ps2, q2, rfl, h5.out, by have := Hpe.out; omega, by have := H2.out.2.2.1; have := Hpe.out; omega⟩⟩
            case measure => simp [intOf]; omega
        · obtain rfl : k = n := by omega
          have hfr := Lib.hid hT.frm
          clear hT
          go_wp2_with fail
          refine (wakes_any wr).mono ?_
          rintro e w5 ⟨rfl, hF5⟩
          go_wp2_with fail
          go_ret
          exact ⟨rfl, hfr.out.trans hF5 (fun _ h => h.elim)⟩
    · rw [show decide (1 ≤ room ∧ room ≤ 16) = false from by simpa using hr] at hmay
      have Hmay := Lib.hid hmay
      clear hmay hr
      go_enter Try.func4, Try.ntmps4
      go_wp2_with fail
      refine H.out.2.mono ?_
      rintro e w' ⟨rfl, rfl⟩
      go_wp2_with fail
      refine (Hmay.out w).mono ?_
      rintro e w' ⟨rfl, rfl⟩
      go_wp2_with fail
      refine (wakes_any w).mono ?_
      rintro e w' ⟨rfl, hF⟩
      go_wp2_with fail
      go_ret
      exact ⟨rfl, hF⟩
end Go.Proofs.Ytchhfhldpkaadaa
