/- The walk of teasellaw24.wakes. -/
import Derived.Test.YtnibllkcacalhaaGH
namespace Go.Proofs.Ytnibllkcacalhaa
set_option maxRecDepth 100000
open Go.RowKit
def TrueF (w : World) (e : Ending) (w' : World) : Prop := e = .returned (.bool true) ∧ Frm (fun _ => False) w w'
theorem tr {w w' w'' : World} (h : Frm (fun _ => False) w w') (h' : Frm (fun _ => False) w' w'') : Frm (fun _ => False) w w'' := h.trans h' fun _ h => h.elim
set_option maxRecDepth 100000 in
set_option maxHeartbeats 12800000 in
theorem wakes_any (w : World) : Calls Try.prog 9 #[] w (TrueF w) := by
  go_enter Try.func9, Try.ntmps9
  have hF0 : Frm (fun _ => False) w w := Frm.refl _ _
  have HF0 := Lib.hid hF0
  clear hF0
  go_wp2_with fail
  refine (two_any true _).mono ?_
  rintro e t1 ⟨Vt1, rfl, hV1, hFt1⟩
  obtain ⟨p1, p2, p3, p4, p5, p6, rfl⟩ := hV1.form
  have HT1 := Lib.hid (And.intro (NetV.nr hV1) (tr HF0.out hFt1))
  clear hV1 hFt1
  go_wp2_with fail
  refine (finish_n _ (twoN true) t1 HT1.out.1 (smTwo _).1 (smTwo _).2).mono ?_
  rw [finA]
  rintro e s1 ⟨Vs1, rfl, hV, hF⟩
  obtain ⟨A1a, n1a, c1a, Aa, na, ca, rfl⟩ := hV.form
  have HR1 := Lib.hid (And.intro (NB.new (cells_nr hV)) (And.intro hF (tr HT1.out.2 (tr hF ((Frm.refl _ s1).alloc (.cells #[.slice A1a n1a c1a, .slice Aa na ca] 25))))))
  clear hV hF
  go_upto_region 2 with fail
  obtain ⟨ga, hga⟩ : ∃ g, g = s1.heap.size := ⟨_, rfl⟩
  rw [← hga] at HR1 ⊢
  have hFs : Frm (fun _ => False) s1 (s1.alloc (.cells #[.slice A1a n1a c1a, .slice Aa na ca] 25)) := (Frm.refl _ _).alloc _
  have HP1 : Hid (∀ W, Frm (fun _ => False) (s1.alloc (.cells #[.slice A1a n1a c1a, .slice Aa na ca] 25)) W → NB W ga A1a n1a c1a Aa na ca netA) := Lib.hid fun W hW => HR1.out.1.kept hW
  have HF1 := Lib.hid HR1.out.2.2
  generalize s1.alloc (.cells #[.slice A1a n1a c1a, .slice Aa na ca] 25) = w1 at *
  clear HR1 HT1 hFs hga
  go_wp2_with fail
  refine (two_any false _).mono ?_
  rintro e t2 ⟨Vt2, rfl, hV2, hFt2⟩
  obtain ⟨p1, p2, p3, p4, p5, p6, rfl⟩ := hV2.form
  have HT2 := Lib.hid (And.intro (NetV.nr hV2) (tr HF1.out hFt2))
  have HQ2 := Lib.hid (fun W (hW : Frm (fun _ => False) t2 W) => HP1.out W (tr hFt2 hW))
  clear hV2 hFt2 HP1
  go_wp2_with fail
  refine (finish_n _ (twoN false) t2 HT2.out.1 (smTwo _).1 (smTwo _).2).mono ?_
  rw [finB]
  rintro e s2 ⟨Vs2, rfl, hV, hF⟩
  obtain ⟨A1b, n1b, c1b, Ab, nb, cb, rfl⟩ := hV.form
  have HR2 := Lib.hid (And.intro (NB.new (cells_nr hV)) (And.intro hF (tr HT2.out.2 (tr hF ((Frm.refl _ s2).alloc (.cells #[.slice A1b n1b c1b, .slice Ab nb cb] 25))))))
  clear hV hF
  go_upto_region 3 with fail
  obtain ⟨gb, hgb⟩ : ∃ g, g = s2.heap.size := ⟨_, rfl⟩
  rw [← hgb] at HR2 ⊢
  have hFs : Frm (fun _ => False) s2 (s2.alloc (.cells #[.slice A1b n1b c1b, .slice Ab nb cb] 25)) := (Frm.refl _ _).alloc _
  have HP2 : Hid (∀ W, Frm (fun _ => False) (s2.alloc (.cells #[.slice A1b n1b c1b, .slice Ab nb cb] 25)) W → NB W ga A1a n1a c1a Aa na ca netA ∧ NB W gb A1b n1b c1b Ab nb cb netB) := Lib.hid fun W hW => ⟨(HQ2.out W (tr HR2.out.2.1 (tr hFs hW))), HR2.out.1.kept hW⟩
  have HF2 := Lib.hid HR2.out.2.2
  generalize s2.alloc (.cells #[.slice A1b n1b c1b, .slice Ab nb cb] 25) = w2 at *
  clear HR2 HT2 HQ2 hFs hgb
  go_wp2_with fail
  refine (two_any true _).mono ?_
  rintro e t3 ⟨Vt3, rfl, hV3, hFt3⟩
  obtain ⟨p1, p2, p3, p4, p5, p6, rfl⟩ := hV3.form
  have HT3 := Lib.hid (And.intro (NetV.nr hV3) (tr HF2.out hFt3))
  have HQ3 := Lib.hid (fun W (hW : Frm (fun _ => False) t3 W) => HP2.out W (tr hFt3 hW))
  clear hV3 hFt3 HP2
  go_wp2_with fail
  have hFa3 : Frm (fun _ => False) t3 (t3.alloc (.cells #[.int .i64 0, .int .i64 1, .int .i64 (-1), .int .i64 7] 3)) := (Frm.refl _ _).alloc _
  refine (run_n _ (twoN true) _ [0, 1, -1, 7] _ (HT3.out.1.kept hFa3) (smTwo _).1 ((Sl.blk t3 #[.int .i64 0, .int .i64 1, .int .i64 (-1), .int .i64 7] 3 (xs := [0, 1, -1, 7].map iv) rfl ⟨rfl, by simp⟩).keptTo fun q hq => ⟨rfl, by rw [hq]; simp⟩) (by simp)).mono ?_
  rw [runC]
  rintro e s3 ⟨Vs3, rfl, hV, hF⟩
  replace hF := tr hFa3 hF
  clear hFa3
  obtain ⟨A1c, n1c, c1c, Ac, nc, cc, rfl⟩ := hV.form
  have HR3 := Lib.hid (And.intro (NB.new (cells_nr hV)) (And.intro hF (tr HT3.out.2 (tr hF ((Frm.refl _ s3).alloc (.cells #[.slice A1c n1c c1c, .slice Ac nc cc] 25))))))
  clear hV hF
  go_upto_region 4 with fail
  obtain ⟨gc, hgc⟩ : ∃ g, g = s3.heap.size := ⟨_, rfl⟩
  rw [← hgc] at HR3 ⊢
  have hFs : Frm (fun _ => False) s3 (s3.alloc (.cells #[.slice A1c n1c c1c, .slice Ac nc cc] 25)) := (Frm.refl _ _).alloc _
  have HP3 : Hid (∀ W, Frm (fun _ => False) (s3.alloc (.cells #[.slice A1c n1c c1c, .slice Ac nc cc] 25)) W → NB W ga A1a n1a c1a Aa na ca netA ∧ NB W gb A1b n1b c1b Ab nb cb netB ∧ NB W gc A1c n1c c1c Ac nc cc netC) := Lib.hid fun W hW => ⟨(HQ3.out W (tr HR3.out.2.1 (tr hFs hW))).1, (HQ3.out W (tr HR3.out.2.1 (tr hFs hW))).2, HR3.out.1.kept hW⟩
  have HF3 := Lib.hid HR3.out.2.2
  generalize s3.alloc (.cells #[.slice A1c n1c c1c, .slice Ac nc cc] 25) = w3 at *
  clear HR3 HT3 HQ3 hFs hgc
  go_wp2_with fail
  refine (two_any true _).mono ?_
  rintro e t4 ⟨Vt4, rfl, hV4, hFt4⟩
  obtain ⟨p1, p2, p3, p4, p5, p6, rfl⟩ := hV4.form
  have HT4 := Lib.hid (And.intro (NetV.nr hV4) (tr HF3.out hFt4))
  have HQ4 := Lib.hid (fun W (hW : Frm (fun _ => False) t4 W) => HP3.out W (tr hFt4 hW))
  clear hV4 hFt4 HP3
  go_wp2_with fail
  refine (step_n _ (twoN true) 1 t4 HT4.out.1 (smTwo _).1).mono ?_
  unfold StepTold
  rw [stepX]
  rintro e s4 ⟨Vs4, rfl, hV, hF⟩
  obtain ⟨A1e, n1e, c1e, Ae, ne, ce, rfl⟩ := hV.form
  have HR4 := Lib.hid (And.intro (NB.new (cells_nr hV)) (And.intro hF (tr HT4.out.2 (tr hF ((Frm.refl _ s4).alloc (.cells #[.slice A1e n1e c1e, .slice Ae ne ce] 25))))))
  clear hV hF
  go_upto_region 5 with fail
  obtain ⟨ge, hge⟩ : ∃ g, g = s4.heap.size := ⟨_, rfl⟩
  rw [← hge] at HR4 ⊢
  have hFs : Frm (fun _ => False) s4 (s4.alloc (.cells #[.slice A1e n1e c1e, .slice Ae ne ce] 25)) := (Frm.refl _ _).alloc _
  have HP4 : Hid (∀ W, Frm (fun _ => False) (s4.alloc (.cells #[.slice A1e n1e c1e, .slice Ae ne ce] 25)) W → NB W ga A1a n1a c1a Aa na ca netA ∧ NB W gb A1b n1b c1b Ab nb cb netB ∧ NB W gc A1c n1c c1c Ac nc cc netC ∧ NB W ge A1e n1e c1e Ae ne ce (twoN true)) := Lib.hid fun W hW => ⟨(HQ4.out W (tr HR4.out.2.1 (tr hFs hW))).1, (HQ4.out W (tr HR4.out.2.1 (tr hFs hW))).2.1, (HQ4.out W (tr HR4.out.2.1 (tr hFs hW))).2.2, HR4.out.1.kept hW⟩
  have HF4 := Lib.hid HR4.out.2.2
  generalize s4.alloc (.cells #[.slice A1e n1e c1e, .slice Ae ne ce] 25) = w4 at *
  clear HR4 HT4 HQ4 hFs hge
  go_wp2_with fail
  refine (two_any true _).mono ?_
  rintro e t5 ⟨Vt5, rfl, hV5, hFt5⟩
  obtain ⟨p1, p2, p3, p4, p5, p6, rfl⟩ := hV5.form
  have HT5 := Lib.hid (And.intro (NetV.nr hV5) (tr HF4.out hFt5))
  have HQ5 := Lib.hid (fun W (hW : Frm (fun _ => False) t5 W) => HP4.out W (tr hFt5 hW))
  clear hV5 hFt5 HP4
  go_wp2_with fail
  refine (step_n _ (twoN true) 0 t5 HT5.out.1 (smTwo _).1).mono ?_
  unfold StepTold
  rw [stepD]
  rintro e s5 ⟨Vs5, rfl, hV, hF⟩
  obtain ⟨A1d, n1d, c1d, Ad, nd, cd, rfl⟩ := hV.form
  have HR5 := Lib.hid (And.intro (NB.new (cells_nr hV)) (And.intro hF (tr HT5.out.2 (tr hF ((Frm.refl _ s5).alloc (.cells #[.slice A1d n1d c1d, .slice Ad nd cd] 25))))))
  clear hV hF
  go_upto_region 6 with fail
  obtain ⟨gd, hgd⟩ : ∃ g, g = s5.heap.size := ⟨_, rfl⟩
  rw [← hgd] at HR5 ⊢
  have hFs : Frm (fun _ => False) s5 (s5.alloc (.cells #[.slice A1d n1d c1d, .slice Ad nd cd] 25)) := (Frm.refl _ _).alloc _
  have HP5 : Hid (∀ W, Frm (fun _ => False) (s5.alloc (.cells #[.slice A1d n1d c1d, .slice Ad nd cd] 25)) W → NB W ga A1a n1a c1a Aa na ca netA ∧ NB W gb A1b n1b c1b Ab nb cb netB ∧ NB W gc A1c n1c c1c Ac nc cc netC ∧ NB W ge A1e n1e c1e Ae ne ce (twoN true) ∧ NB W gd A1d n1d c1d Ad nd cd netD) := Lib.hid fun W hW => ⟨(HQ5.out W (tr HR5.out.2.1 (tr hFs hW))).1, (HQ5.out W (tr HR5.out.2.1 (tr hFs hW))).2.1, (HQ5.out W (tr HR5.out.2.1 (tr hFs hW))).2.2.1, (HQ5.out W (tr HR5.out.2.1 (tr hFs hW))).2.2.2, HR5.out.1.kept hW⟩
  have HF5 := Lib.hid HR5.out.2.2
  generalize s5.alloc (.cells #[.slice A1d n1d c1d, .slice Ad nd cd] 25) = w5 at *
  clear HR5 HT5 HQ5 hFs hgd
  go_upto_region 7 with fail
  have hFx : Frm (fun _ => False) w5 ((w5.alloc (.cells #[.int .i64 0, .slice none 0 0, .bool false] 52)).alloc (.cells #[.slice (some ⟨w5.heap.size, 0, none⟩) 1 1, .slice none 0 0] 25)) := ((Frm.refl _ w5).alloc _).alloc _
  have hrx : NR (w5.alloc (.cells #[.int .i64 0, .slice none 0 0, .bool false] 52)) (.agg #[.slice (some ⟨w5.heap.size, 0, none⟩) 1 1, .slice none 0 0]) netX :=
    ⟨_, _, _, _, _, _, rfl, [⟨.slice none 0 0, ⟨0, [], false⟩⟩], [], ⟨(slz_at (Blk.new w5 _ _) 3 1 _ rfl rfl (by omega)).keptTo fun q hq => ⟨rfl, by rw [hq]; simp⟩, fun p hp => by simp at hp; subst hp; exact Sl.nil_ _ _⟩, ⟨SlZ.nil _ _ _, fun k hk => by simp at hk⟩, rfl, rfl⟩
  have hbx := NB.new hrx
  obtain ⟨kx, hkx⟩ : ∃ k, k = w5.heap.size := ⟨_, rfl⟩
  rw [World.size_alloc] at hbx
  rw [← hkx] at hFx hrx hbx ⊢
  obtain ⟨gx, hgx⟩ : ∃ k, k = kx + 1 := ⟨_, rfl⟩
  rw [← hgx] at hbx ⊢
  have HP6 : Hid (∀ W, Frm (fun _ => False) ((w5.alloc (.cells #[.int .i64 0, .slice none 0 0, .bool false] 52)).alloc (.cells #[.slice (some ⟨kx, 0, none⟩) 1 1, .slice none 0 0] 25)) W → NB W ga A1a n1a c1a Aa na ca netA ∧ NB W gb A1b n1b c1b Ab nb cb netB ∧ NB W gc A1c n1c c1c Ac nc cc netC ∧ NB W ge A1e n1e c1e Ae ne ce (twoN true) ∧ NB W gd A1d n1d c1d Ad nd cd netD ∧ NB W gx (some ⟨kx, 0, none⟩) 1 1 none 0 0 netX) := Lib.hid fun W hW => ⟨(HP5.out W (tr hFx hW)).1, (HP5.out W (tr hFx hW)).2.1, (HP5.out W (tr hFx hW)).2.2.1, (HP5.out W (tr hFx hW)).2.2.2.1, (HP5.out W (tr hFx hW)).2.2.2.2, hbx.kept hW⟩
  have HF6 := Lib.hid (tr HF5.out hFx)
  generalize (w5.alloc (.cells #[.int .i64 0, .slice none 0 0, .bool false] 52)).alloc (.cells #[.slice (some ⟨kx, 0, none⟩) 1 1, .slice none 0 0] 25) = w6 at *
  clear HP5 hFx hrx hbx hkx hgx
  have hx6 := (HP6.out w6 (Frm.refl _ _)).2.2.2.2.2
  have x0 := hx6.c0
  have x1 := hx6.c1
  have Hx6 := Lib.hid hx6.r
  clear hx6
  go_wp2_with fail
  refine (finish_n _ netX w6 Hx6.out smX.1 smX.2).mono ?_
  rw [finX]
  rintro e s7 ⟨Vs7, rfl, hV, hF⟩
  obtain ⟨A1z, n1z, c1z, Az, nz, cz, rfl⟩ := hV.form
  have HFz := Lib.hid hF
  clear hV hF x0 x1
  go_upto_region 8 with fail
  have hFs : Frm (fun _ => False) s7 (s7.alloc (.cells #[.slice A1z n1z c1z, .slice Az nz cz] 25)) := (Frm.refl _ _).alloc _
  have HP7 := Lib.hid (fun W (hW : Frm (fun _ => False) (s7.alloc (.cells #[.slice A1z n1z c1z, .slice Az nz cz] 25)) W) => HP6.out W (tr HFz.out (tr hFs hW)))
  have HF7 := Lib.hid (tr HF6.out (tr HFz.out hFs))
  generalize s7.alloc (.cells #[.slice A1z n1z c1z, .slice Az nz cz] 25) = w7 at *
  clear HP6 HF6 HFz hFs Hx6
  obtain ⟨ha, hb, hc, -, hd, -⟩ := HP7.out w7 (Frm.refl _ _)
  obtain ⟨-, la⟩ := ha.len
  obtain ⟨-, lb⟩ := hb.len
  obtain ⟨-, lc⟩ := hc.len
  obtain ⟨ld, -⟩ := hd.len
  obtain rfl : na = 2 := la
  obtain rfl : nb = 2 := lb
  obtain rfl : nc = 2 := lc
  obtain rfl : n1d = 1 := ld
  obtain ⟨qa, oa, rfl, sa⟩ := ha.sum 1 ⟨[⟨2, 0, 0⟩, ⟨2, 0, 0⟩, ⟨2, 0, 0⟩], 3, 5983, 0⟩ rfl
  obtain ⟨qb, ob, rfl, sb⟩ := hb.sum 1 ⟨[⟨2, 0, 0⟩, ⟨2, 0, 0⟩, ⟨2, 0, 0⟩], 2, 193, 0⟩ rfl
  obtain ⟨qc, oc, rfl, sc⟩ := hc.sum 1 ⟨[⟨2, 0, 0⟩, ⟨2, 0, 0⟩, ⟨2, 0, 0⟩], 2, 193, 0⟩ rfl
  obtain ⟨qd, od, A5d, c5d, rfl, sd⟩ := hd.pin 0 ⟨1, [5], false⟩ rfl
  have HS := Lib.hid (And.intro sa (And.intro sb (And.intro sc sd)))
  clear sa sb sc sd ha hb hc hd
  have HW7 : Hid (Frm (fun _ => False) w7 w7) := Lib.hid (Frm.refl _ _)
  have ha := (HP7.out w7 HW7.out).1
  have hb := (HP7.out w7 HW7.out).2.1
  have hc := (HP7.out w7 HW7.out).2.2.1
  have hd := (HP7.out w7 HW7.out).2.2.2.2.1
  have hx := (HP7.out w7 HW7.out).2.2.2.2.2
  have xa0 := ha.c0
  have xa1 := ha.c1
  have xb0 := hb.c0
  have xb1 := hb.c1
  have xc0 := hc.c0
  have xc1 := hc.c1
  have xd0 := hd.c0
  have xd1 := hd.c1
  have xx0 := hx.c0
  have xx1 := hx.c1
  have s1 := HS.out.1 w7 HW7.out
  have s2 := HS.out.2.1 w7 HW7.out
  have s3 := HS.out.2.2.1 w7 HW7.out
  have s4 := HS.out.2.2.2 w7 HW7.out
  dsimp only [List.length_cons, List.length_nil] at s1 s2 s3 s4
  simp only [Nat.zero_mul, Nat.add_zero] at s4
  have HX := Lib.hid (And.intro ha (And.intro hb (And.intro hc (And.intro hd hx))))
  clear ha hb hc hd hx
  go_upto_region 10 with fail
  go_wp2_with fail
  refine (over_n _ netA w7 HX.out.1.r).mono ?_
  rw [overA]
  rintro e w8 ⟨rfl, hF⟩
  have HW8 := Lib.hid (tr HW7.out hF)
  clear hF HW7
  clear xa0 xa1 xb0 xb1 xc0 xc1 xd0 xd1 xx0 xx1 s1 s2 s3 s4 HX
  have ha := (HP7.out w8 HW8.out).1
  have hb := (HP7.out w8 HW8.out).2.1
  have hc := (HP7.out w8 HW8.out).2.2.1
  have hd := (HP7.out w8 HW8.out).2.2.2.2.1
  have hx := (HP7.out w8 HW8.out).2.2.2.2.2
  have xa0 := ha.c0
  have xa1 := ha.c1
  have xb0 := hb.c0
  have xb1 := hb.c1
  have xc0 := hc.c0
  have xc1 := hc.c1
  have xd0 := hd.c0
  have xd1 := hd.c1
  have xx0 := hx.c0
  have xx1 := hx.c1
  have s1 := HS.out.1 w8 HW8.out
  have s2 := HS.out.2.1 w8 HW8.out
  have s3 := HS.out.2.2.1 w8 HW8.out
  have s4 := HS.out.2.2.2 w8 HW8.out
  dsimp only [List.length_cons, List.length_nil] at s1 s2 s3 s4
  simp only [Nat.zero_mul, Nat.add_zero] at s4
  have HX := Lib.hid (And.intro ha (And.intro hb (And.intro hc (And.intro hd hx))))
  clear ha hb hc hd hx
  go_wp2_with fail
  refine (stuck_n _ netA w8 HX.out.1.r).mono ?_
  rw [stuckA]
  rintro e w9 ⟨rfl, hF⟩
  have HW9 := Lib.hid (tr HW8.out hF)
  clear hF HW8
  clear xa0 xa1 xb0 xb1 xc0 xc1 xd0 xd1 xx0 xx1 s1 s2 s3 s4 HX
  have ha := (HP7.out w9 HW9.out).1
  have hb := (HP7.out w9 HW9.out).2.1
  have hc := (HP7.out w9 HW9.out).2.2.1
  have hd := (HP7.out w9 HW9.out).2.2.2.2.1
  have hx := (HP7.out w9 HW9.out).2.2.2.2.2
  have xa0 := ha.c0
  have xa1 := ha.c1
  have xb0 := hb.c0
  have xb1 := hb.c1
  have xc0 := hc.c0
  have xc1 := hc.c1
  have xd0 := hd.c0
  have xd1 := hd.c1
  have xx0 := hx.c0
  have xx1 := hx.c1
  have s1 := HS.out.1 w9 HW9.out
  have s2 := HS.out.2.1 w9 HW9.out
  have s3 := HS.out.2.2.1 w9 HW9.out
  have s4 := HS.out.2.2.2 w9 HW9.out
  dsimp only [List.length_cons, List.length_nil] at s1 s2 s3 s4
  simp only [Nat.zero_mul, Nat.add_zero] at s4
  have HX := Lib.hid (And.intro ha (And.intro hb (And.intro hc (And.intro hd hx))))
  clear ha hb hc hd hx
  go_wp2_with fail
  refine (stuck_n _ netB w9 HX.out.2.1.r).mono ?_
  rw [stuckB]
  rintro e w10 ⟨rfl, hF⟩
  have HW10 := Lib.hid (tr HW9.out hF)
  clear hF HW9
  clear xa0 xa1 xb0 xb1 xc0 xc1 xd0 xd1 xx0 xx1 s1 s2 s3 s4 HX
  have ha := (HP7.out w10 HW10.out).1
  have hb := (HP7.out w10 HW10.out).2.1
  have hc := (HP7.out w10 HW10.out).2.2.1
  have hd := (HP7.out w10 HW10.out).2.2.2.2.1
  have hx := (HP7.out w10 HW10.out).2.2.2.2.2
  have xa0 := ha.c0
  have xa1 := ha.c1
  have xb0 := hb.c0
  have xb1 := hb.c1
  have xc0 := hc.c0
  have xc1 := hc.c1
  have xd0 := hd.c0
  have xd1 := hd.c1
  have xx0 := hx.c0
  have xx1 := hx.c1
  have s1 := HS.out.1 w10 HW10.out
  have s2 := HS.out.2.1 w10 HW10.out
  have s3 := HS.out.2.2.1 w10 HW10.out
  have s4 := HS.out.2.2.2 w10 HW10.out
  dsimp only [List.length_cons, List.length_nil] at s1 s2 s3 s4
  simp only [Nat.zero_mul, Nat.add_zero] at s4
  have HX := Lib.hid (And.intro ha (And.intro hb (And.intro hc (And.intro hd hx))))
  clear ha hb hc hd hx
  go_wp2_with fail
  refine (over_n _ netB w10 HX.out.2.1.r).mono ?_
  rw [overB']
  rintro e w11 ⟨rfl, hF⟩
  have HW11 := Lib.hid (tr HW10.out hF)
  clear hF HW10
  clear xa0 xa1 xb0 xb1 xc0 xc1 xd0 xd1 xx0 xx1 s1 s2 s3 s4 HX
  have ha := (HP7.out w11 HW11.out).1
  have hb := (HP7.out w11 HW11.out).2.1
  have hc := (HP7.out w11 HW11.out).2.2.1
  have hd := (HP7.out w11 HW11.out).2.2.2.2.1
  have hx := (HP7.out w11 HW11.out).2.2.2.2.2
  have xa0 := ha.c0
  have xa1 := ha.c1
  have xb0 := hb.c0
  have xb1 := hb.c1
  have xc0 := hc.c0
  have xc1 := hc.c1
  have xd0 := hd.c0
  have xd1 := hd.c1
  have xx0 := hx.c0
  have xx1 := hx.c1
  have s1 := HS.out.1 w11 HW11.out
  have s2 := HS.out.2.1 w11 HW11.out
  have s3 := HS.out.2.2.1 w11 HW11.out
  have s4 := HS.out.2.2.2 w11 HW11.out
  dsimp only [List.length_cons, List.length_nil] at s1 s2 s3 s4
  simp only [Nat.zero_mul, Nat.add_zero] at s4
  have HX := Lib.hid (And.intro ha (And.intro hb (And.intro hc (And.intro hd hx))))
  clear ha hb hc hd hx
  go_wp2_with fail
  refine (ready_n _ netD w11 HX.out.2.2.2.1.r).mono ?_
  rw [readyD]
  rintro e r1 ⟨v, rfl, hown, -, hF⟩
  obtain ⟨Av, cv, rfl, -, -⟩ := own_form hown
  have hFi : Frm (fun _ => False) r1 (r1.alloc (.cells #[.int .i64 1] 3)) := (Frm.refl _ _).alloc _
  have hi := ints_any (.slice Av ([1] : List Int).length cv) (.slice (some ⟨r1.heap.size, 0, none⟩) 1 1) _ _ [1] [1] (r1.alloc (.cells #[.int .i64 1] 3)) (Sl.ofZ (SlZ.of_own (K := fun _ => True) (hFi.own hown fun _ _ => id) fun _ _ => trivial)) (Sl.blk r1 #[.int .i64 1] 3 (xs := [1].map iv) rfl ⟨rfl, by simp⟩)
  have HI := Lib.hid (And.intro hi (tr hF hFi))
  clear hown hF hFi hi
  clear xa0 xa1 xb0 xb1 xc0 xc1 xd0 xd1 xx0 xx1 s1 s2 s3 s4 HX
  have HW7b := Lib.hid (tr HW11.out HI.out.2)
  go_wp2_with fail
  refine HI.out.1.mono ?_
  rintro e w12 ⟨rfl, kk, rfl⟩
  have hd0 : Frm (fun _ => False) (r1.alloc (.cells #[.int .i64 1] 3)) ((r1.alloc (.cells #[.int .i64 1] 3)).drewN kk) := (Frm.refl _ _).drewN kk
  have HW12 := Lib.hid (tr HW7b.out hd0)
  clear hd0 HI HW7b HW11
  generalize (r1.alloc (.cells #[.int .i64 1] 3)).drewN kk = w12 at *
  rw [show decide (([1] : List Int) = [1]) = true from by decide]
  have ha := (HP7.out w12 HW12.out).1
  have hb := (HP7.out w12 HW12.out).2.1
  have hc := (HP7.out w12 HW12.out).2.2.1
  have hd := (HP7.out w12 HW12.out).2.2.2.2.1
  have hx := (HP7.out w12 HW12.out).2.2.2.2.2
  have xa0 := ha.c0
  have xa1 := ha.c1
  have xb0 := hb.c0
  have xb1 := hb.c1
  have xc0 := hc.c0
  have xc1 := hc.c1
  have xd0 := hd.c0
  have xd1 := hd.c1
  have xx0 := hx.c0
  have xx1 := hx.c1
  have s1 := HS.out.1 w12 HW12.out
  have s2 := HS.out.2.1 w12 HW12.out
  have s3 := HS.out.2.2.1 w12 HW12.out
  have s4 := HS.out.2.2.2 w12 HW12.out
  dsimp only [List.length_cons, List.length_nil] at s1 s2 s3 s4
  simp only [Nat.zero_mul, Nat.add_zero] at s4
  have HX := Lib.hid (And.intro ha (And.intro hb (And.intro hc (And.intro hd hx))))
  clear ha hb hc hd hx
  go_wp2_with fail
  refine (clean_n _ netA w12 HX.out.1.r).mono ?_
  rw [cleanA]
  rintro e w13 ⟨rfl, hF⟩
  have HW13 := Lib.hid (tr HW12.out hF)
  clear hF HW12
  clear xa0 xa1 xb0 xb1 xc0 xc1 xd0 xd1 xx0 xx1 s1 s2 s3 s4 HX
  have ha := (HP7.out w13 HW13.out).1
  have hb := (HP7.out w13 HW13.out).2.1
  have hc := (HP7.out w13 HW13.out).2.2.1
  have hd := (HP7.out w13 HW13.out).2.2.2.2.1
  have hx := (HP7.out w13 HW13.out).2.2.2.2.2
  have xa0 := ha.c0
  have xa1 := ha.c1
  have xb0 := hb.c0
  have xb1 := hb.c1
  have xc0 := hc.c0
  have xc1 := hc.c1
  have xd0 := hd.c0
  have xd1 := hd.c1
  have xx0 := hx.c0
  have xx1 := hx.c1
  have s1 := HS.out.1 w13 HW13.out
  have s2 := HS.out.2.1 w13 HW13.out
  have s3 := HS.out.2.2.1 w13 HW13.out
  have s4 := HS.out.2.2.2 w13 HW13.out
  dsimp only [List.length_cons, List.length_nil] at s1 s2 s3 s4
  simp only [Nat.zero_mul, Nat.add_zero] at s4
  have HX := Lib.hid (And.intro ha (And.intro hb (And.intro hc (And.intro hd hx))))
  clear ha hb hc hd hx
  go_wp2_with fail
  refine (right_n _ netA w13 HX.out.1.r).mono ?_
  rw [rightA]
  rintro e w14 ⟨rfl, hF⟩
  have HW14 := Lib.hid (tr HW13.out hF)
  clear hF HW13
  clear xa0 xa1 xb0 xb1 xc0 xc1 xd0 xd1 xx0 xx1 s1 s2 s3 s4 HX
  have ha := (HP7.out w14 HW14.out).1
  have hb := (HP7.out w14 HW14.out).2.1
  have hc := (HP7.out w14 HW14.out).2.2.1
  have hd := (HP7.out w14 HW14.out).2.2.2.2.1
  have hx := (HP7.out w14 HW14.out).2.2.2.2.2
  have xa0 := ha.c0
  have xa1 := ha.c1
  have xb0 := hb.c0
  have xb1 := hb.c1
  have xc0 := hc.c0
  have xc1 := hc.c1
  have xd0 := hd.c0
  have xd1 := hd.c1
  have xx0 := hx.c0
  have xx1 := hx.c1
  have s1 := HS.out.1 w14 HW14.out
  have s2 := HS.out.2.1 w14 HW14.out
  have s3 := HS.out.2.2.1 w14 HW14.out
  have s4 := HS.out.2.2.2 w14 HW14.out
  dsimp only [List.length_cons, List.length_nil] at s1 s2 s3 s4
  simp only [Nat.zero_mul, Nat.add_zero] at s4
  have HX := Lib.hid (And.intro ha (And.intro hb (And.intro hc (And.intro hd hx))))
  clear ha hb hc hd hx
  go_wp2_with fail
  refine (right_n _ netX w14 HX.out.2.2.2.2.r).mono ?_
  rw [rightX]
  rintro e w15 ⟨rfl, hF⟩
  have HW15 := Lib.hid (tr HW14.out hF)
  clear hF HW14
  clear xa0 xa1 xb0 xb1 xc0 xc1 xd0 xd1 xx0 xx1 s1 s2 s3 s4 HX
  have ha := (HP7.out w15 HW15.out).1
  have hb := (HP7.out w15 HW15.out).2.1
  have hc := (HP7.out w15 HW15.out).2.2.1
  have hd := (HP7.out w15 HW15.out).2.2.2.2.1
  have hx := (HP7.out w15 HW15.out).2.2.2.2.2
  have xa0 := ha.c0
  have xa1 := ha.c1
  have xb0 := hb.c0
  have xb1 := hb.c1
  have xc0 := hc.c0
  have xc1 := hc.c1
  have xd0 := hd.c0
  have xd1 := hd.c1
  have xx0 := hx.c0
  have xx1 := hx.c1
  have s1 := HS.out.1 w15 HW15.out
  have s2 := HS.out.2.1 w15 HW15.out
  have s3 := HS.out.2.2.1 w15 HW15.out
  have s4 := HS.out.2.2.2 w15 HW15.out
  dsimp only [List.length_cons, List.length_nil] at s1 s2 s3 s4
  simp only [Nat.zero_mul, Nat.add_zero] at s4
  have HX := Lib.hid (And.intro ha (And.intro hb (And.intro hc (And.intro hd hx))))
  clear ha hb hc hd hx
  go_wp2_with fail
  refine (same_n _ _ netA netA w15 HX.out.1.r HX.out.1.r).mono ?_
  rw [sameAA]
  rintro e w16 ⟨rfl, hF⟩
  have HW16 := Lib.hid (tr HW15.out hF)
  clear hF HW15
  clear xa0 xa1 xb0 xb1 xc0 xc1 xd0 xd1 xx0 xx1 s1 s2 s3 s4 HX
  have ha := (HP7.out w16 HW16.out).1
  have hb := (HP7.out w16 HW16.out).2.1
  have hc := (HP7.out w16 HW16.out).2.2.1
  have hd := (HP7.out w16 HW16.out).2.2.2.2.1
  have hx := (HP7.out w16 HW16.out).2.2.2.2.2
  have xa0 := ha.c0
  have xa1 := ha.c1
  have xb0 := hb.c0
  have xb1 := hb.c1
  have xc0 := hc.c0
  have xc1 := hc.c1
  have xd0 := hd.c0
  have xd1 := hd.c1
  have xx0 := hx.c0
  have xx1 := hx.c1
  have s1 := HS.out.1 w16 HW16.out
  have s2 := HS.out.2.1 w16 HW16.out
  have s3 := HS.out.2.2.1 w16 HW16.out
  have s4 := HS.out.2.2.2 w16 HW16.out
  dsimp only [List.length_cons, List.length_nil] at s1 s2 s3 s4
  simp only [Nat.zero_mul, Nat.add_zero] at s4
  have HX := Lib.hid (And.intro ha (And.intro hb (And.intro hc (And.intro hd hx))))
  clear ha hb hc hd hx
  go_wp2_with fail
  refine (same_n _ _ netA netB w16 HX.out.1.r HX.out.2.1.r).mono ?_
  rw [sameAB]
  rintro e w17 ⟨rfl, hF⟩
  have HW17 := Lib.hid (tr HW16.out hF)
  clear hF HW16
  clear xa0 xa1 xb0 xb1 xc0 xc1 xd0 xd1 xx0 xx1 s1 s2 s3 s4 HX
  have ha := (HP7.out w17 HW17.out).1
  have hb := (HP7.out w17 HW17.out).2.1
  have hc := (HP7.out w17 HW17.out).2.2.1
  have hd := (HP7.out w17 HW17.out).2.2.2.2.1
  have hx := (HP7.out w17 HW17.out).2.2.2.2.2
  have xa0 := ha.c0
  have xa1 := ha.c1
  have xb0 := hb.c0
  have xb1 := hb.c1
  have xc0 := hc.c0
  have xc1 := hc.c1
  have xd0 := hd.c0
  have xd1 := hd.c1
  have xx0 := hx.c0
  have xx1 := hx.c1
  have s1 := HS.out.1 w17 HW17.out
  have s2 := HS.out.2.1 w17 HW17.out
  have s3 := HS.out.2.2.1 w17 HW17.out
  have s4 := HS.out.2.2.2 w17 HW17.out
  dsimp only [List.length_cons, List.length_nil] at s1 s2 s3 s4
  simp only [Nat.zero_mul, Nat.add_zero] at s4
  have HX := Lib.hid (And.intro ha (And.intro hb (And.intro hc (And.intro hd hx))))
  clear ha hb hc hd hx
  go_wp2_with fail
  go_ret
  exact ⟨rfl, tr HF7.out HW17.out⟩
end Go.Proofs.Ytnibllkcacalhaa
