/- The walk of teaselref23.OwnPipes. -/
import Derived.Test.YtbfcpapehfdphaaPr
import Derived.Deep.DeepCutAuto
namespace Go.Proofs.Ytbfcpapehfdphaa
open Go.RowKit
theorem PR.mono {w : World} {nb nb' : Nat} {v : Value} {ps : List Pk} (h : PR w nb v ps) (hb : nb' ≤ nb) : PR w nb' v ps :=
  ⟨World.ownsRow.mono h.1 hb, fun x hx => World.ownsRow.mono (h.2.1 x hx) hb, h.2.2⟩
def OwnpPost (ps : List Pk) (w : World) (e : Ending) (w' : World) : Prop := ∃ A N c ps', e = .returned (.slice A N c) ∧ PR w' w.heap.size (.slice A N c) ps' ∧ N = ps.length ∧ N ≤ c ∧ c ≤ 9223372036854775807 ∧ ps'.map (·.p) = ps.map (·.p) ∧ Frm (fun _ => False) w w'
set_option maxHeartbeats 1600000 in
theorem ownp_any (A : Option Addr) (n c : Nat) (ps : List Pk) (w : World) (h : PAt w (fun q => q < w.heap.size) (.slice A n c) ps) (hn : n ≤ 1000) (hin : ∀ p ∈ ps, p.p.ins.length ≤ 1000000) :
    Calls Try.prog 26 #[.slice A n c] w (OwnpPost ps w) := by
  obtain ⟨hps, hnc, hcm, hcs⟩ := h.cells
  have H := Lib.hid (And.intro hps (And.intro hcs (And.intro h.2 hin)))
  clear h hps hcs hin
  obtain ⟨iu, hu, hu0, hu1, hu2⟩ := infoCu'
  obtain ⟨i0, hi, hz0, hz1, hz2⟩ := info_parts infoP
  go_enter Try.func26, Try.ntmps26
  go_wp2_with fail
  go_loopw [3, 4] (fun o i wr => ∃ (k : Nat) (Av : Option Addr) (cv : Nat), k ≤ n ∧ i = .int .i64 k ∧ o = .slice Av k cv ∧ Hid (∃ zs, PR wr w.heap.size (.slice Av k cv) zs ∧ zs.map (·.p) = (ps.map (·.p)).take k ∧ Frm (fun _ => False) w wr)) (fun _ i _ => n - (intOf i).toNat)
  case atStart => exact ⟨0, none, 0, Nat.zero_le _, rfl, rfl, Lib.hid ⟨[], PR.nil _ _, rfl, Frm.refl _ _⟩⟩
  case round =>
    obtain ⟨k, Av, cv, hk, rfl, rfl, hT⟩ := hrel
    by_cases hlt : k < n
    · obtain ⟨hps, hcs, hsl, hin⟩ := H.out
      obtain ⟨zs, hPR, hzs, hF⟩ := hT.out
      have hkx : k < ps.length := by omega
      obtain ⟨g, o, rfl, hg, d0, d1, d2⟩ := hcs k hkx
      have sa := hsl ps[k] (List.getElem_mem hkx)
      have hl := hin ps[k] (List.getElem_mem hkx)
      have hts : (ps.map (·.p)).take (k + 1) = (ps.map (·.p)).take k ++ [ps[k].p] := by rw [List.take_succ_eq_append_getElem (by simpa using hkx)]; simp
      obtain ⟨x, hxk⟩ : ∃ x, x = ps[k] := ⟨_, rfl⟩
      rw [← hxk] at d0 d1 d2 sa hl hts
      obtain ⟨vx, r, l, b⟩ := x
      obtain ⟨A5, n5, c5, e5, hn5, -⟩ := id sa
      dsimp only at *
      subst e5
      replace d0 := hF.cell d0 id
      replace d1 := hF.cell d1 id
      replace d2 := hF.cell d2 id
      have hzl : zs.length = k := by have := congrArg List.length hzs; simp at this; omega
      have HS := Lib.hid (And.intro sa (And.intro hl (And.intro hts (And.intro hPR (And.intro hzs (And.intro hF hzl))))))
      clear hps hcs hsl hin hPR hzs hF hkx hg sa hl hts hxk hn5 hzl hT
      go_upto_region 6 with fail
      obtain ⟨W5, hW5⟩ : ∃ W, W = wr.alloc (.cells #[.int .i64 r, .slice A5 n5 c5, .bool b] 46) := ⟨_, rfl⟩
      rw [← hW5]
      have hF5 : Frm (fun _ => False) wr W5 := by rw [hW5]; exact (Frm.refl _ wr).alloc _
      have hb5 : Blk W5 wr.heap.size 46 #[.int .i64 r, .slice A5 n5 c5, .bool b] := by rw [hW5]; exact Blk.new wr _ _
      clear hW5 d0 d1 d2
      obtain ⟨gp, hgp⟩ : ∃ g, g = wr.heap.size := ⟨_, rfl⟩
      rw [← hgp] at hb5 ⊢
      have p1 : (W5.alloc (.cells #[] 23)).cell? ⟨gp, 1, none⟩ = some (.slice A5 n5 c5) := (hb5.alloc _).cell 1
      have H5 := Lib.hid (And.intro hF5 (And.intro hb5 hgp))
      clear hF5 hb5 hgp
      go_upto_region 7 with (at_builtin; go_loud (refine wpList_append_sl (by rfl) _ _ 44 (by rfl) W5.heap.size 23 iu (.int .u32 0) 4 Try.underlying44 hu hu0 hu1 hu2 (by rfl) _ 0 [] (by rfl) (own_new0 rfl (Nat.le_refl _)) (fun q => q < w.heap.size) _ (uv l) (by rfl) (by exact HS.out.1.keptTo fun q hq => ⟨((HS.out.2.2.2.2.2.1.trans H5.out.1 fun _ h => h.elim).alloc _).block q hq id, hq⟩) (uv_one l) (by unfold maxLen; rw [uv_length]; have := HS.out.2.1; omega) (by rw [uv_length]; have := HS.out.2.1; omega) (by simp) ?_); go_loud (intro A6 N6 c6 W6 HN6 hNc6 hc6 hown6 hg6 hat6; have hF6 : Frm (fun _ => False) W5 W6 := ((Frm.refl _ W5).alloc _).grown hg6 (fun q hq => Or.inr (by have h : some W5.heap.size = some q := hq; injection h; omega)); have hb6 := H5.out.2.1.kept hF6 id; have f6 := hb6.frozen 1; have e6 : W6.cell? ⟨gp, 1, none⟩ = some (.slice A5 n5 c5) := hb6.cell 1; have H6 := Lib.hid (And.intro hown6 (And.intro hF6 (And.intro hb6 HN6))); clear hown6 hg6 hat6 hF6 hb6))
      have hFs : Frm (fun q => q = gp) W6 (W6.setCell ⟨gp, 1, none⟩ (.slice A6 N6 c6)) := (Frm.refl (fun q => q = gp) W6).setCell ⟨gp, 1, none⟩ (.inl rfl) _
      have hb7 : Blk (W6.setCell ⟨gp, 1, none⟩ (.slice A6 N6 c6)) gp 46 #[.int .i64 r, .slice A6 N6 c6, .bool b] := H6.out.2.2.1.set_ 1 _
      have ho7 : (W6.setCell ⟨gp, 1, none⟩ (.slice A6 N6 c6)).ownsRow W5.heap.size 23 1 (.slice A6 N6 c6) N6 (uv l) := by
        have := hFs.own H6.out.1 fun q hq hk => own_blk_ne H6.out.1 H6.out.2.2.1 (by decide) (by rw [hq, hk])
        simpa using this
      have hFw : Frm (fun _ => False) wr (W6.setCell ⟨gp, 1, none⟩ (.slice A6 N6 c6)) := (H5.out.1.trans H6.out.2.1 fun _ h => h.elim).trans hFs fun q hq => .inr (by rw [hq, H5.out.2.2]; exact Nat.le_refl _)
      generalize W6.setCell ⟨gp, 1, none⟩ (.slice A6 N6 c6) = W7 at *
      have e0 : W7.cell? ⟨gp, 0, none⟩ = some (.int .i64 r) := hb7.cell 0
      have e1 : W7.cell? ⟨gp, 1, none⟩ = some (.slice A6 N6 c6) := hb7.cell 1
      have e2 : W7.cell? ⟨gp, 2, none⟩ = some (.bool b) := hb7.cell 2
      have hPR7 := HS.out.2.2.2.1.keptF hFw
      have hN6 : N6 = l.length := by have := H6.out.2.2.2.out; rw [uv_length] at this; omega
      have hs5 : wr.heap.size ≤ W5.heap.size := H5.out.1.size
      have hsw : w.heap.size ≤ wr.heap.size := HS.out.2.2.2.2.2.1.size
      have hsW : wr.heap.size ≤ W7.heap.size := hFw.size
      have H7 := Lib.hid (And.intro ho7 (And.intro hFw (And.intro hPR7 (And.intro hN6 (And.intro hs5 (And.intro hsw hsW))))))
      clear ho7 hFw hPR7 hN6 hs5 hsw hsW hFs hb7 f6 e6 p1 H6
      go_wp2_with (at_builtin; refine wpList_append_slz (by rfl) _ _ 26 (by rfl) w.heap.size 46 i0 _ 3 40 Try.underlying26 hi hz0 hz1 hz2 (by rfl) (by decide) _ k (zs.flatMap pCells) (by rfl) (by have := H7.out.2.2.1.1; rw [HS.out.2.2.2.2.2.2] at this; exact ((Frm.refl (fun _ => False) W7).alloc _).own this fun _ _ => id) (fun q => q = W7.heap.size) _ 1 [.int .i64 r, .slice A6 N6 c6, .bool b] (by rfl) (SlZ.blk3 W7 _ _ _ _) rfl (by intro u hu; simp only [List.mem_cons, List.not_mem_nil, or_false] at hu; rcases hu with rfl | rfl | rfl <;> rfl) (by unfold maxLen; omega) (by omega) (by have := H7.out.2.2.2.2.2.1; have := H7.out.2.2.2.2.2.2; simp; omega) ?_; intro A8 N8 c8 W8 HN8 hNc8 hc8 hown8 hg8 hat8; have H8 := Lib.hid (And.intro hown8 hg8); clear hown8 hg8 hat8)
      go_roundw
      case rel =>
        obtain rfl : N8 = k + 1 := HN8.out
        obtain ⟨ho7, hFw, hPR7, hN6, hs5, hsw, hsW⟩ := H7.out
        obtain ⟨-, -, hts, hPR, hzs, hF, hzl⟩ := HS.out
        subst hN6
        have hF8 : Frm (fun q => (Value.slice Av k cv).ownBlock = some q) W7 W8 := ((Frm.refl _ W7).alloc _).grown H8.out.2 fun q hq => .inl hq
        refine ⟨k + 1, A8, c8, by omega, by go_num, rfl, Lib.hid ⟨zs ++ [⟨.slice A6 l.length c6, ⟨r, l, b⟩⟩], ?_, ?_, ?_⟩⟩
        · exact PR.snoc (x := ⟨.slice A6 l.length c6, ⟨r, l, b⟩⟩) hPR7 (World.ownsRow.mono ho7 (by omega)) (fun y hy q hq hk => by
            have h1 := (World.ownsRow.lt (hPR.2.1 y hy) q hq).2
            have h2 := (World.ownsRow.lt ho7 q hk).1
            omega) (by rw [hzl]; exact H8.out.1) hF8
        · rw [List.map_append, hzs, hts]; rfl
        · exact (hF.trans hFw fun _ h => h.elim).trans hF8 fun q hq => .inr (World.ownsRow.lt hPR.1 q hq).1
      case measure => simp [intOf]; omega
    · obtain rfl : k = n := by omega
      go_wp2_with fail
      go_ret
      obtain ⟨zs, hPR, hzs, hF⟩ := hT.out
      have hps := H.out.1
      obtain ⟨A9, c9, e9, h9, h9'⟩ := own_form hPR.1
      have hzl : zs.length = k := by have := congrArg List.length hzs; simp at this; omega
      rw [hzl] at e9 h9
      cases e9
      exact ⟨_, _, _, zs, rfl, hPR, hps, h9, h9', by rw [hzs, List.take_of_length_le (by simp; omega)], hF⟩
end Go.Proofs.Ytbfcpapehfdphaa
