/- Part f of the lemmas and walks. -/
import Derived.Test.YtakempimcbofgaaGreatAe

namespace Go.Proofs.YtakempimcbofgaaGreat
open Go.RowKit

set_option maxRecDepth 100000 in
set_option maxHeartbeats 8000000 in
theorem solve_any (q0 q1 q2 q3 b0 b1 : Rat) (n : Nat) (v vb : Value) (w : World) (hm : MatAt w v q0 q1 q2 q3) (hr : RowAt n w vb b0 b1) (s0 : szR q0 1000) (s1 : szR q1 1000) (s2 : szR q2 1000) (s3 : szR q3 1000) (s4 : szR b0 1000) (s5 : szR b1 1000) (hd : (det2 q0 q1 q2 q3).num.natAbs ≠ 0) :
  Calls Tryz.prog 24 #[v, vb] w (RetSol (det2 b0 q1 b1 q3 / det2 q0 q1 q2 q3) (det2 q0 b0 q2 b1 / det2 q0 q1 q2 q3) w) := by
 have HM := Lib.hid hm
 obtain ⟨RB, r0, r1, rfl, _, hR, e0, e1⟩ := hr
 have Z0 := Lib.hid s0
 have Z1 := Lib.hid s1
 have Z2 := Lib.hid s2
 have Z3 := Lib.hid s3
 have Z4 := Lib.hid s4
 have Z5 := Lib.hid s5
 clear s0 s1 s2 s3 s4 s5
 obtain ⟨MB, MB1, MB2, MT, MT1, MT2, m0, m1, m2, m3, rfl, hM0, hM1, hM2, f0, f1, f2, f3⟩ := hm
 have HS := Lib.hid (((((Sx.init w).addQ f0).addQ f1).addQ f2).addQ f3)
 have MO0 := Lib.hid (blk_cell hM0 0 (.slice (some ⟨MB1, 0, none⟩) 2 2) rfl)
 have MO1 := Lib.hid (blk_cell hM0 1 (.slice (some ⟨MB2, 0, none⟩) 2 2) rfl)
 have MOL := Lib.hid (blk_lt hM0)
 have MR00 := Lib.hid (blk_cell hM1 0 (.bool m0.b) rfl)
 have MR01 := Lib.hid (blk_cell hM1 1 (.slice m0.a m0.n m0.c) rfl)
 have MR02 := Lib.hid (blk_cell hM1 2 (.slice m0.d m0.m m0.e) rfl)
 have MR03 := Lib.hid (blk_cell hM1 3 (.bool m1.b) rfl)
 have MR04 := Lib.hid (blk_cell hM1 4 (.slice m1.a m1.n m1.c) rfl)
 have MR05 := Lib.hid (blk_cell hM1 5 (.slice m1.d m1.m m1.e) rfl)
 have MRL0 := Lib.hid (blk_lt hM1)
 have MR10 := Lib.hid (blk_cell hM2 0 (.bool m2.b) rfl)
 have MR11 := Lib.hid (blk_cell hM2 1 (.slice m2.a m2.n m2.c) rfl)
 have MR12 := Lib.hid (blk_cell hM2 2 (.slice m2.d m2.m m2.e) rfl)
 have MR13 := Lib.hid (blk_cell hM2 3 (.bool m3.b) rfl)
 have MR14 := Lib.hid (blk_cell hM2 4 (.slice m3.a m3.n m3.c) rfl)
 have MR15 := Lib.hid (blk_cell hM2 5 (.slice m3.d m3.m m3.e) rfl)
 have MRL1 := Lib.hid (blk_lt hM2)
 clear f0 f1 f2 f3 hM0 hM1 hM2
 replace HS := Lib.hid ((HS.out.addQ e0).addQ e1)
 have RB0 := Lib.hid (blk_cell hR 0 (.bool r0.b) rfl)
 have RB1 := Lib.hid (blk_cell hR 1 (.slice r0.a r0.n r0.c) rfl)
 have RB2 := Lib.hid (blk_cell hR 2 (.slice r0.d r0.m r0.e) rfl)
 have RB3 := Lib.hid (blk_cell hR 3 (.bool r1.b) rfl)
 have RB4 := Lib.hid (blk_cell hR 4 (.slice r1.a r1.n r1.c) rfl)
 have RB5 := Lib.hid (blk_cell hR 5 (.slice r1.d r1.m r1.e) rfl)
 have RBL := Lib.hid (blk_lt hR)
 have HD0 := Lib.hid hd
 have HZT : Hid (decide ((det2 q0 q1 q2 q3).num.natAbs = 0) = false) := decide_eq_false hd
 clear e0 e1 hR hd
 go_enter Tryz.func24, Tryz.ntmps24
 go_wp2_with fail
 refine (wrongSq_any q0 q1 q2 q3 _ _ (HM.out.below HS.out.bel)).mono ?_
 rintro e w1 ⟨rfl, hb1⟩
 replace HS := Lib.hid (HS.out.below hb1)
 clear hb1
 go_wp2_with fail
 refine (minors_any q0 q1 q2 q3 _ _ (HM.out.below HS.out.bel) Z0.out Z1.out Z2.out Z3.out).mono ?_
 rintro e w2 ⟨v2, rfl, hv2, hb2⟩
 obtain ⟨z2, rfl⟩ := hv2.open3
 replace HS := Lib.hid (HS.out.below hb2)
 clear hb2
 replace HS := Lib.hid (HS.out.addQ hv2)
 clear hv2
 go_wp2_with fail
 generalize hW3 : (w2).alloc (.cells _ _) = W3 at *
 replace HS := Lib.hid (((HS.out).alloc (B := w2.heap.size) rfl (by rfl)).to hW3 (by (try simp only [nb5, nb6]); rfl))
 clear hW3
 refine (qzeroR_any (det2 q0 q1 q2 q3) _ _ (HS.out.q 0 _ _ rfl)).mono ?_
 rw [HZT.out]
 rintro e w4 ⟨rfl, hb4⟩
 replace HS := Lib.hid (HS.out.below hb4)
 clear hb4
 go_upto_region 9 with fail
 obtain ⟨ii5, hi5, hz5, hs5, hy5⟩ := info_parts info_R
 go_wp2_with (at_make; refine wpList_make_full _ rfl _ _ 56 rfl w4.heap.size 37 ii5 _ 3 Tryz.underlying56 hi5 hz5 hs5 _ _ _ _ 2 rfl rfl (by rfl) (by rfl) (by rw [hy5]; omega) (by unfold maxLen; omega) (Nat.le_refl _) ?_)
 intro wm5 hown5 hgr5
 replace HS := Lib.hid (HS.out.made (cs := #[.bool false, .slice none 0 0, .slice none 0 0, .bool false, .slice none 0 0, .slice none 0 0]) hown5 hgr5 (by kernel_rfl) (by rfl))
 clear hown5 hgr5 hi5 hz5 hs5 hy5
 go_wp2_with fail
 refine wp_loop_rounds 9 ?_
 rw [rounds_succ]
 go_wp2_with fail
 refine (zeros_any _).mono ?_
 rintro e w6 ⟨ZB6, ZC6, ZD6, y6a, y6b, y6c, y6d, rfl, hza6, hzb6, hzc6, hna6, hnb6, hnc6, hka6, hkb6, hkc6, hb6⟩
 have hlt6 := HS.out.lt
 have hwz6 := HS.out.bel.size
 replace HS := Lib.hid (HS.out.below hb6)
 clear hb6
 replace HS := Lib.hid (HS.out.addZ hlt6 hwz6 hza6 hzb6 hzc6 hna6 hnb6 hnc6 hka6 hkb6 hkc6 (by rfl) (by rfl) (by rfl))
 clear hlt6 hwz6 hza6 hzb6 hzc6 hna6 hnb6 hnc6 hka6 hkb6 hkc6
 go_wp2_with fail
 refine wp_loop_rounds 9 ?_
 rw [rounds_succ]
 go_wp2_with fail
 refine wp_loop_rounds 9 ?_
 rw [rounds_succ]
 go_wp2_with fail
 refine wp_region_held_drew (S := (fun w' => Sx w w' [(ZD6, arr6 y6c y6d, 37), (ZB6, #[.slice (some ⟨ZC6, 0, none⟩) 2 2, .slice (some ⟨ZD6, 0, none⟩) 2 2], 56), (w4.heap.size, #[.bool false, .slice none 0 0, .slice none 0 0, .bool false, .slice none 0 0, .slice none 0 0], 37), (w2.heap.size, z2.arr, 37)] [])) (by kernel_rfl) ((HS.out.drew).erase 1) (fun hh => ?_)
 replace HS := Lib.hid HS.out.drew
 refine tkB (i := 0) (v := ?vk8) rfl ?hk8 ?rk8
 case hk8 => intro u hSu; go_simp <;> with_reducible rfl
 try simp only [nbs, Act.put]
 refine tkB (i := 1) (v := ?vk9) rfl ?hk9 ?rk9
 case hk9 => intro u hSu; go_simp <;> with_reducible rfl
 try simp only [nbs, Act.put]
 refine tkB (i := 2) (v := ?vk10) rfl ?hk10 ?rk10
 case hk10 => intro u hSu; go_simp <;> with_reducible rfl
 try simp only [nbs, Act.put]
 refine tkB (i := 3) (v := ?vk11) rfl ?hk11 ?rk11
 case hk11 => intro u hSu; (try dsimp only at hSu); have qb2e := (hSu.at 1 _ _ _ rfl); have qb2c0 := blk_cell qb2e 0 (.slice (some ⟨ZC6, 0, none⟩) 2 2) rfl; have qb2c1 := blk_cell qb2e 1 (.slice (some ⟨ZD6, 0, none⟩) 2 2) rfl; clear qb2e; clear hSu; go_simp <;> with_reducible rfl
 try simp only [nbs, Act.put]
 refine tkB (i := 4) (v := ?vk12) rfl ?hk12 ?rk12
 case hk12 => intro u hSu; go_simp <;> with_reducible rfl
 try simp only [nbs, Act.put]
 refine tkB (i := 5) (v := ?vk13) rfl ?hk13 ?rk13
 case hk13 => intro u hSu; go_simp <;> with_reducible rfl
 try simp only [nbs, Act.put]
 refine tkB (i := 6) (v := ?vk14) rfl ?hk14 ?rk14
 case hk14 => intro u hSu; go_simp <;> with_reducible rfl
 try simp only [nbs, Act.put]
 refine tkB (i := 7) (v := ?vk15) rfl ?hk15 ?rk15
 case hk15 => intro u hSu; go_simp <;> with_reducible rfl
 try simp only [nbs, Act.put]
 refine tkB (i := 8) (v := ?vk16) rfl ?hk16 ?rk16
 case hk16 => intro u hSu; (try dsimp only at hSu); have MOc0 := (hSu.bel.cell (p := ⟨MB, 0, none⟩) MOL.out).trans MO0.out; clear hSu; go_simp <;> with_reducible rfl
 try simp only [nbs, Act.put]
 refine tkB (i := 9) (v := ?vk17) rfl ?hk17 ?rk17
 case hk17 => intro u hSu; go_simp <;> with_reducible rfl
 try simp only [nbs, Act.put]
 refine tkB (i := 10) (v := ?vk18) rfl ?hk18 ?rk18
 case hk18 => intro u hSu; go_simp <;> with_reducible rfl
 try simp only [nbs, Act.put]
 refine tkB (i := 11) (v := ?vk19) rfl ?hk19 ?rk19
 case hk19 => intro u hSu; (try dsimp only at hSu); have MR0c0 := (hSu.bel.cell (p := ⟨MB1, 0, none⟩) MRL0.out).trans MR00.out; have MR0c1 := (hSu.bel.cell (p := ⟨MB1, 1, none⟩) MRL0.out).trans MR01.out; have MR0c2 := (hSu.bel.cell (p := ⟨MB1, 2, none⟩) MRL0.out).trans MR02.out; clear hSu; go_simp <;> with_reducible rfl
 try simp only [nbs, Act.put]
 refine tkB (i := 12) (v := ?vk20) rfl ?hk20 ?rk20
 case hk20 => intro u hSu; go_simp <;> with_reducible rfl
 try simp only [nbs, Act.put]
 refine rdA (i := 13) rfl (fun K hK => ?_)
 generalize w6.drew = Wd21 at *
 obtain ⟨b3c0, b3c1, b3c2, b3c3, b3c4, b3c5, b3f0, b3f1, b3f2, b3f3, b3f4, b3f5⟩ := fac6 (x := y6a) (y := y6b) (HS.out.at 1 _ _ _ rfl)
 have b3l := blk_lt (HS.out.at 1 _ _ _ rfl)
 go_simp
 refine hK.out _ _ ((((HS.out).st_RR_0_1 1 y6a y6b m0 rfl)).erase 1) (fun hh => ?_)
 clear hK K b3c0 b3c1 b3c2 b3c3 b3c4 b3c5 b3f0 b3f1 b3f2 b3f3 b3f4 b3f5 b3l
 try simp only [nbs, Act.put]
 generalize hW22 : (((Wd21).setCell _ _).setCell _ _).setCell _ _ = W22 at *
 replace HS := Lib.hid (((HS.out).st_RR_0_1 1 y6a y6b m0 rfl).to hW22 (by (try simp only [nb5, nb6]); rfl))
 clear hW22
 refine wpAnyH_done (by kernel_rfl) ?_ _
 go_wp2_with fail
 rw [rounds_succ]
 go_wp2_with fail
 refine wp_region_held_drew (S := (fun w' => Sx w w' [(ZD6, arr6 y6c y6d, 37), (ZB6, #[.slice (some ⟨ZC6, 0, none⟩) 2 2, .slice (some ⟨ZD6, 0, none⟩) 2 2], 56), (w4.heap.size, #[.bool false, .slice none 0 0, .slice none 0 0, .bool false, .slice none 0 0, .slice none 0 0], 37), (w2.heap.size, z2.arr, 37)] [])) (by kernel_rfl) ((HS.out.drew).erase 1) (fun hh => ?_)
 replace HS := Lib.hid HS.out.drew
 refine tkB (i := 0) (v := ?vk24) rfl ?hk24 ?rk24
 case hk24 => intro u hSu; go_simp <;> with_reducible rfl
 try simp only [nbs, Act.put]
 refine tkB (i := 1) (v := ?vk25) rfl ?hk25 ?rk25
 case hk25 => intro u hSu; go_simp <;> with_reducible rfl
 try simp only [nbs, Act.put]
 refine tkB (i := 2) (v := ?vk26) rfl ?hk26 ?rk26
 case hk26 => intro u hSu; go_simp <;> with_reducible rfl
 try simp only [nbs, Act.put]
 refine tkB (i := 3) (v := ?vk27) rfl ?hk27 ?rk27
 case hk27 => intro u hSu; (try dsimp only at hSu); have qb2e := (hSu.at 1 _ _ _ rfl); have qb2c0 := blk_cell qb2e 0 (.slice (some ⟨ZC6, 0, none⟩) 2 2) rfl; have qb2c1 := blk_cell qb2e 1 (.slice (some ⟨ZD6, 0, none⟩) 2 2) rfl; clear qb2e; clear hSu; go_simp <;> with_reducible rfl
 try simp only [nbs, Act.put]
 refine tkB (i := 4) (v := ?vk28) rfl ?hk28 ?rk28
 case hk28 => intro u hSu; go_simp <;> with_reducible rfl
 try simp only [nbs, Act.put]
 refine tkB (i := 5) (v := ?vk29) rfl ?hk29 ?rk29
 case hk29 => intro u hSu; go_simp <;> with_reducible rfl
 try simp only [nbs, Act.put]
 refine tkB (i := 6) (v := ?vk30) rfl ?hk30 ?rk30
 case hk30 => intro u hSu; go_simp <;> with_reducible rfl
 try simp only [nbs, Act.put]
 refine tkB (i := 7) (v := ?vk31) rfl ?hk31 ?rk31
 case hk31 => intro u hSu; go_simp <;> with_reducible rfl
 try simp only [nbs, Act.put]
 refine tkB (i := 8) (v := ?vk32) rfl ?hk32 ?rk32
 case hk32 => intro u hSu; (try dsimp only at hSu); have MOc0 := (hSu.bel.cell (p := ⟨MB, 0, none⟩) MOL.out).trans MO0.out; clear hSu; go_simp <;> with_reducible rfl
 try simp only [nbs, Act.put]
 refine tkB (i := 9) (v := ?vk33) rfl ?hk33 ?rk33
 case hk33 => intro u hSu; go_simp <;> with_reducible rfl
 try simp only [nbs, Act.put]
 refine tkB (i := 10) (v := ?vk34) rfl ?hk34 ?rk34
 case hk34 => intro u hSu; go_simp <;> with_reducible rfl
 try simp only [nbs, Act.put]
 refine tkB (i := 11) (v := ?vk35) rfl ?hk35 ?rk35
 case hk35 => intro u hSu; (try dsimp only at hSu); have MR0c3 := (hSu.bel.cell (p := ⟨MB1, 3, none⟩) MRL0.out).trans MR03.out; have MR0c4 := (hSu.bel.cell (p := ⟨MB1, 4, none⟩) MRL0.out).trans MR04.out; have MR0c5 := (hSu.bel.cell (p := ⟨MB1, 5, none⟩) MRL0.out).trans MR05.out; clear hSu; go_simp <;> with_reducible rfl
 try simp only [nbs, Act.put]
 refine tkB (i := 12) (v := ?vk36) rfl ?hk36 ?rk36
 case hk36 => intro u hSu; go_simp <;> with_reducible rfl
 try simp only [nbs, Act.put]
 refine rdA (i := 13) rfl (fun K hK => ?_)
 generalize W22.drew = Wd37 at *
 obtain ⟨b3c0, b3c1, b3c2, b3c3, b3c4, b3c5, b3f0, b3f1, b3f2, b3f3, b3f4, b3f5⟩ := fac6 (x := m0) (y := y6b) (HS.out.at 1 _ _ _ rfl)
 have b3l := blk_lt (HS.out.at 1 _ _ _ rfl)
 go_simp
 refine hK.out _ _ ((((HS.out).st_RR_1_1 1 m0 y6b m1 rfl)).erase 1) (fun hh => ?_)
 clear hK K b3c0 b3c1 b3c2 b3c3 b3c4 b3c5 b3f0 b3f1 b3f2 b3f3 b3f4 b3f5 b3l
 try simp only [nbs, Act.put]
 generalize hW38 : (((Wd37).setCell _ _).setCell _ _).setCell _ _ = W38 at *
 replace HS := Lib.hid (((HS.out).st_RR_1_1 1 m0 y6b m1 rfl).to hW38 (by (try simp only [nb5, nb6]); rfl))
 clear hW38
 refine wpAnyH_done (by kernel_rfl) ?_ _
 go_wp2_with fail
 rw [rounds_succ]
 go_wp2_with fail
 refine wp_region_held_drew (S := (fun w' => Sx w w' [(ZD6, arr6 y6c y6d, 37), (ZB6, #[.slice (some ⟨ZC6, 0, none⟩) 2 2, .slice (some ⟨ZD6, 0, none⟩) 2 2], 56), (w4.heap.size, #[.bool false, .slice none 0 0, .slice none 0 0, .bool false, .slice none 0 0, .slice none 0 0], 37), (w2.heap.size, z2.arr, 37)] [])) (by kernel_rfl) ((HS.out.drew).erase 1) (fun hh => ?_)
 replace HS := Lib.hid HS.out.drew
 refine tkB (i := 0) (v := ?vk40) rfl ?hk40 ?rk40
 case hk40 => intro u hSu; go_simp <;> with_reducible rfl
 try simp only [nbs, Act.put]
 refine tkB (i := 1) (v := ?vk41) rfl ?hk41 ?rk41
 case hk41 => intro u hSu; go_simp <;> with_reducible rfl
 try simp only [nbs, Act.put]
 refine tkB (i := 2) (v := ?vk42) rfl ?hk42 ?rk42
 case hk42 => intro u hSu; go_simp <;> with_reducible rfl
 try simp only [nbs, Act.put]
 refine tkB (i := 3) (v := ?vk43) rfl ?hk43 ?rk43
 case hk43 => intro u hSu; (try dsimp only at hSu); have qb2e := (hSu.at 1 _ _ _ rfl); have qb2c0 := blk_cell qb2e 0 (.slice (some ⟨ZC6, 0, none⟩) 2 2) rfl; have qb2c1 := blk_cell qb2e 1 (.slice (some ⟨ZD6, 0, none⟩) 2 2) rfl; clear qb2e; clear hSu; go_simp <;> with_reducible rfl
 try simp only [nbs, Act.put]
 refine tkB (i := 4) (v := ?vk44) rfl ?hk44 ?rk44
 case hk44 => intro u hSu; go_simp <;> with_reducible rfl
 try simp only [nbs, Act.put]
 refine tkB (i := 5) (v := ?vk45) rfl ?hk45 ?rk45
 case hk45 => intro u hSu; go_simp <;> with_reducible rfl
 try simp only [nbs, Act.put]
 refine tkB (i := 6) (v := ?vk46) rfl ?hk46 ?rk46
 case hk46 => intro u hSu; go_simp <;> with_reducible rfl
 try simp only [nbs, Act.put]
 refine tkB (i := 7) (v := ?vk47) rfl ?hk47 ?rk47
 case hk47 => intro u hSu; go_simp <;> with_reducible rfl
 try simp only [nbs, Act.put]
 refine tkB (i := 8) (v := ?vk48) rfl ?hk48 ?rk48
 case hk48 => intro u hSu; (try dsimp only at hSu); have RBc0 := (hSu.bel.cell (p := ⟨RB, 0, none⟩) RBL.out).trans RB0.out; have RBc1 := (hSu.bel.cell (p := ⟨RB, 1, none⟩) RBL.out).trans RB1.out; have RBc2 := (hSu.bel.cell (p := ⟨RB, 2, none⟩) RBL.out).trans RB2.out; clear hSu; go_simp <;> with_reducible rfl
 try simp only [nbs, Act.put]
 refine tkB (i := 9) (v := ?vk49) rfl ?hk49 ?rk49
 case hk49 => intro u hSu; go_simp <;> with_reducible rfl
 try simp only [nbs, Act.put]
 refine rdA (i := 10) rfl (fun K hK => ?_)
 generalize W38.drew = Wd50 at *
 obtain ⟨b3c0, b3c1, b3c2, b3c3, b3c4, b3c5, b3f0, b3f1, b3f2, b3f3, b3f4, b3f5⟩ := fac6 (x := m0) (y := m1) (HS.out.at 1 _ _ _ rfl)
 have b3l := blk_lt (HS.out.at 1 _ _ _ rfl)
 go_simp
 refine hK.out _ _ ((((HS.out).st_RR_0_1 1 m0 m1 r0 rfl)).erase 1) (fun hh => ?_)
 clear hK K b3c0 b3c1 b3c2 b3c3 b3c4 b3c5 b3f0 b3f1 b3f2 b3f3 b3f4 b3f5 b3l
 try simp only [nbs, Act.put]
 generalize hW51 : (((Wd50).setCell _ _).setCell _ _).setCell _ _ = W51 at *
 replace HS := Lib.hid (((HS.out).st_RR_0_1 1 m0 m1 r0 rfl).to hW51 (by (try simp only [nb5, nb6]); rfl))
 clear hW51
 refine wpAnyH_done (by kernel_rfl) ?_ _
 go_wp2_with fail
 rw [rounds_succ]
 go_wp2_with fail
 refine wp_loop_rounds 9 ?_
 rw [rounds_succ]
 go_wp2_with fail
 refine wp_region_held_drew (S := (fun w' => Sx w w' [(ZC6, arr6 r0 m1, 37), (ZB6, #[.slice (some ⟨ZC6, 0, none⟩) 2 2, .slice (some ⟨ZD6, 0, none⟩) 2 2], 56), (w4.heap.size, #[.bool false, .slice none 0 0, .slice none 0 0, .bool false, .slice none 0 0, .slice none 0 0], 37), (w2.heap.size, z2.arr, 37)] [])) (by kernel_rfl) ((HS.out.drew).erase 0) (fun hh => ?_)
 replace HS := Lib.hid HS.out.drew
 refine tkB (i := 0) (v := ?vk53) rfl ?hk53 ?rk53
 case hk53 => intro u hSu; go_simp <;> with_reducible rfl
 try simp only [nbs, Act.put]
 refine tkB (i := 1) (v := ?vk54) rfl ?hk54 ?rk54
 case hk54 => intro u hSu; go_simp <;> with_reducible rfl
 try simp only [nbs, Act.put]
 refine tkB (i := 2) (v := ?vk55) rfl ?hk55 ?rk55
 case hk55 => intro u hSu; go_simp <;> with_reducible rfl
 try simp only [nbs, Act.put]
 refine tkB (i := 3) (v := ?vk56) rfl ?hk56 ?rk56
 case hk56 => intro u hSu; (try dsimp only at hSu); have qb2e := (hSu.at 1 _ _ _ rfl); have qb2c0 := blk_cell qb2e 0 (.slice (some ⟨ZC6, 0, none⟩) 2 2) rfl; have qb2c1 := blk_cell qb2e 1 (.slice (some ⟨ZD6, 0, none⟩) 2 2) rfl; clear qb2e; clear hSu; go_simp <;> with_reducible rfl
 try simp only [nbs, Act.put]
 refine tkB (i := 4) (v := ?vk57) rfl ?hk57 ?rk57
 case hk57 => intro u hSu; go_simp <;> with_reducible rfl
 try simp only [nbs, Act.put]
 refine tkB (i := 5) (v := ?vk58) rfl ?hk58 ?rk58
 case hk58 => intro u hSu; go_simp <;> with_reducible rfl
 try simp only [nbs, Act.put]
 refine tkB (i := 6) (v := ?vk59) rfl ?hk59 ?rk59
 case hk59 => intro u hSu; go_simp <;> with_reducible rfl
 try simp only [nbs, Act.put]
 refine tkB (i := 7) (v := ?vk60) rfl ?hk60 ?rk60
 case hk60 => intro u hSu; go_simp <;> with_reducible rfl
 try simp only [nbs, Act.put]
 refine tkB (i := 8) (v := ?vk61) rfl ?hk61 ?rk61
 case hk61 => intro u hSu; (try dsimp only at hSu); have MOc1 := (hSu.bel.cell (p := ⟨MB, 1, none⟩) MOL.out).trans MO1.out; clear hSu; go_simp <;> with_reducible rfl
 try simp only [nbs, Act.put]
 refine tkB (i := 9) (v := ?vk62) rfl ?hk62 ?rk62
 case hk62 => intro u hSu; go_simp <;> with_reducible rfl
 try simp only [nbs, Act.put]
 refine tkB (i := 10) (v := ?vk63) rfl ?hk63 ?rk63
 case hk63 => intro u hSu; go_simp <;> with_reducible rfl
 try simp only [nbs, Act.put]
 refine tkB (i := 11) (v := ?vk64) rfl ?hk64 ?rk64
 case hk64 => intro u hSu; (try dsimp only at hSu); have MR1c0 := (hSu.bel.cell (p := ⟨MB2, 0, none⟩) MRL1.out).trans MR10.out; have MR1c1 := (hSu.bel.cell (p := ⟨MB2, 1, none⟩) MRL1.out).trans MR11.out; have MR1c2 := (hSu.bel.cell (p := ⟨MB2, 2, none⟩) MRL1.out).trans MR12.out; clear hSu; go_simp <;> with_reducible rfl
 try simp only [nbs, Act.put]
 refine tkB (i := 12) (v := ?vk65) rfl ?hk65 ?rk65
 case hk65 => intro u hSu; go_simp <;> with_reducible rfl
 try simp only [nbs, Act.put]
 refine rdA (i := 13) rfl (fun K hK => ?_)
 generalize W51.drew = Wd66 at *
 obtain ⟨b4c0, b4c1, b4c2, b4c3, b4c4, b4c5, b4f0, b4f1, b4f2, b4f3, b4f4, b4f5⟩ := fac6 (x := y6c) (y := y6d) (HS.out.at 0 _ _ _ rfl)
 have b4l := blk_lt (HS.out.at 0 _ _ _ rfl)
 go_simp
 refine hK.out _ _ ((((HS.out).st_RR_0_1 0 y6c y6d m2 rfl)).erase 0) (fun hh => ?_)
 clear hK K b4c0 b4c1 b4c2 b4c3 b4c4 b4c5 b4f0 b4f1 b4f2 b4f3 b4f4 b4f5 b4l
 try simp only [nbs, Act.put]
 generalize hW67 : (((Wd66).setCell _ _).setCell _ _).setCell _ _ = W67 at *
 replace HS := Lib.hid (((HS.out).st_RR_0_1 0 y6c y6d m2 rfl).to hW67 (by (try simp only [nb5, nb6]); rfl))
 clear hW67
 refine wpAnyH_done (by kernel_rfl) ?_ _
 go_wp2_with fail
 rw [rounds_succ]
 go_wp2_with fail
 refine wp_region_held_drew (S := (fun w' => Sx w w' [(ZC6, arr6 r0 m1, 37), (ZB6, #[.slice (some ⟨ZC6, 0, none⟩) 2 2, .slice (some ⟨ZD6, 0, none⟩) 2 2], 56), (w4.heap.size, #[.bool false, .slice none 0 0, .slice none 0 0, .bool false, .slice none 0 0, .slice none 0 0], 37), (w2.heap.size, z2.arr, 37)] [])) (by kernel_rfl) ((HS.out.drew).erase 0) (fun hh => ?_)
 replace HS := Lib.hid HS.out.drew
 refine tkB (i := 0) (v := ?vk69) rfl ?hk69 ?rk69
 case hk69 => intro u hSu; go_simp <;> with_reducible rfl
 try simp only [nbs, Act.put]
 refine tkB (i := 1) (v := ?vk70) rfl ?hk70 ?rk70
 case hk70 => intro u hSu; go_simp <;> with_reducible rfl
 try simp only [nbs, Act.put]
 refine tkB (i := 2) (v := ?vk71) rfl ?hk71 ?rk71
 case hk71 => intro u hSu; go_simp <;> with_reducible rfl
 try simp only [nbs, Act.put]
 refine tkB (i := 3) (v := ?vk72) rfl ?hk72 ?rk72
 case hk72 => intro u hSu; (try dsimp only at hSu); have qb2e := (hSu.at 1 _ _ _ rfl); have qb2c0 := blk_cell qb2e 0 (.slice (some ⟨ZC6, 0, none⟩) 2 2) rfl; have qb2c1 := blk_cell qb2e 1 (.slice (some ⟨ZD6, 0, none⟩) 2 2) rfl; clear qb2e; clear hSu; go_simp <;> with_reducible rfl
 try simp only [nbs, Act.put]
 refine tkB (i := 4) (v := ?vk73) rfl ?hk73 ?rk73
 case hk73 => intro u hSu; go_simp <;> with_reducible rfl
 try simp only [nbs, Act.put]
 refine tkB (i := 5) (v := ?vk74) rfl ?hk74 ?rk74
 case hk74 => intro u hSu; go_simp <;> with_reducible rfl
 try simp only [nbs, Act.put]
 refine tkB (i := 6) (v := ?vk75) rfl ?hk75 ?rk75
 case hk75 => intro u hSu; go_simp <;> with_reducible rfl
 try simp only [nbs, Act.put]
 refine tkB (i := 7) (v := ?vk76) rfl ?hk76 ?rk76
 case hk76 => intro u hSu; go_simp <;> with_reducible rfl
 try simp only [nbs, Act.put]
 refine tkB (i := 8) (v := ?vk77) rfl ?hk77 ?rk77
 case hk77 => intro u hSu; (try dsimp only at hSu); have MOc1 := (hSu.bel.cell (p := ⟨MB, 1, none⟩) MOL.out).trans MO1.out; clear hSu; go_simp <;> with_reducible rfl
 try simp only [nbs, Act.put]
 refine tkB (i := 9) (v := ?vk78) rfl ?hk78 ?rk78
 case hk78 => intro u hSu; go_simp <;> with_reducible rfl
 try simp only [nbs, Act.put]
 refine tkB (i := 10) (v := ?vk79) rfl ?hk79 ?rk79
 case hk79 => intro u hSu; go_simp <;> with_reducible rfl
 try simp only [nbs, Act.put]
 refine tkB (i := 11) (v := ?vk80) rfl ?hk80 ?rk80
 case hk80 => intro u hSu; (try dsimp only at hSu); have MR1c3 := (hSu.bel.cell (p := ⟨MB2, 3, none⟩) MRL1.out).trans MR13.out; have MR1c4 := (hSu.bel.cell (p := ⟨MB2, 4, none⟩) MRL1.out).trans MR14.out; have MR1c5 := (hSu.bel.cell (p := ⟨MB2, 5, none⟩) MRL1.out).trans MR15.out; clear hSu; go_simp <;> with_reducible rfl
 try simp only [nbs, Act.put]
 refine tkB (i := 12) (v := ?vk81) rfl ?hk81 ?rk81
 case hk81 => intro u hSu; go_simp <;> with_reducible rfl
 try simp only [nbs, Act.put]
 refine rdA (i := 13) rfl (fun K hK => ?_)
 generalize W67.drew = Wd82 at *
 obtain ⟨b4c0, b4c1, b4c2, b4c3, b4c4, b4c5, b4f0, b4f1, b4f2, b4f3, b4f4, b4f5⟩ := fac6 (x := m2) (y := y6d) (HS.out.at 0 _ _ _ rfl)
 have b4l := blk_lt (HS.out.at 0 _ _ _ rfl)
 go_simp
 refine hK.out _ _ ((((HS.out).st_RR_1_1 0 m2 y6d m3 rfl)).erase 0) (fun hh => ?_)
 clear hK K b4c0 b4c1 b4c2 b4c3 b4c4 b4c5 b4f0 b4f1 b4f2 b4f3 b4f4 b4f5 b4l
 try simp only [nbs, Act.put]
 generalize hW83 : (((Wd82).setCell _ _).setCell _ _).setCell _ _ = W83 at *
 replace HS := Lib.hid (((HS.out).st_RR_1_1 0 m2 y6d m3 rfl).to hW83 (by (try simp only [nb5, nb6]); rfl))
 clear hW83
 refine wpAnyH_done (by kernel_rfl) ?_ _
 go_wp2_with fail
 rw [rounds_succ]
 go_wp2_with fail
 refine wp_region_held_drew (S := (fun w' => Sx w w' [(ZC6, arr6 r0 m1, 37), (ZB6, #[.slice (some ⟨ZC6, 0, none⟩) 2 2, .slice (some ⟨ZD6, 0, none⟩) 2 2], 56), (w4.heap.size, #[.bool false, .slice none 0 0, .slice none 0 0, .bool false, .slice none 0 0, .slice none 0 0], 37), (w2.heap.size, z2.arr, 37)] [])) (by kernel_rfl) ((HS.out.drew).erase 0) (fun hh => ?_)
 replace HS := Lib.hid HS.out.drew
 refine tkB (i := 0) (v := ?vk85) rfl ?hk85 ?rk85
 case hk85 => intro u hSu; go_simp <;> with_reducible rfl
 try simp only [nbs, Act.put]
 refine tkB (i := 1) (v := ?vk86) rfl ?hk86 ?rk86
 case hk86 => intro u hSu; go_simp <;> with_reducible rfl
 try simp only [nbs, Act.put]
 refine tkB (i := 2) (v := ?vk87) rfl ?hk87 ?rk87
 case hk87 => intro u hSu; go_simp <;> with_reducible rfl
 try simp only [nbs, Act.put]
 refine tkB (i := 3) (v := ?vk88) rfl ?hk88 ?rk88
 case hk88 => intro u hSu; (try dsimp only at hSu); have qb2e := (hSu.at 1 _ _ _ rfl); have qb2c0 := blk_cell qb2e 0 (.slice (some ⟨ZC6, 0, none⟩) 2 2) rfl; have qb2c1 := blk_cell qb2e 1 (.slice (some ⟨ZD6, 0, none⟩) 2 2) rfl; clear qb2e; clear hSu; go_simp <;> with_reducible rfl
 try simp only [nbs, Act.put]
 refine tkB (i := 4) (v := ?vk89) rfl ?hk89 ?rk89
 case hk89 => intro u hSu; go_simp <;> with_reducible rfl
 try simp only [nbs, Act.put]
 refine tkB (i := 5) (v := ?vk90) rfl ?hk90 ?rk90
 case hk90 => intro u hSu; go_simp <;> with_reducible rfl
 try simp only [nbs, Act.put]
 refine tkB (i := 6) (v := ?vk91) rfl ?hk91 ?rk91
 case hk91 => intro u hSu; go_simp <;> with_reducible rfl
 try simp only [nbs, Act.put]
 refine tkB (i := 7) (v := ?vk92) rfl ?hk92 ?rk92
 case hk92 => intro u hSu; go_simp <;> with_reducible rfl
 try simp only [nbs, Act.put]
 refine tkB (i := 8) (v := ?vk93) rfl ?hk93 ?rk93
 case hk93 => intro u hSu; (try dsimp only at hSu); have RBc3 := (hSu.bel.cell (p := ⟨RB, 3, none⟩) RBL.out).trans RB3.out; have RBc4 := (hSu.bel.cell (p := ⟨RB, 4, none⟩) RBL.out).trans RB4.out; have RBc5 := (hSu.bel.cell (p := ⟨RB, 5, none⟩) RBL.out).trans RB5.out; clear hSu; go_simp <;> with_reducible rfl
 try simp only [nbs, Act.put]
 refine tkB (i := 9) (v := ?vk94) rfl ?hk94 ?rk94
 case hk94 => intro u hSu; go_simp <;> with_reducible rfl
 try simp only [nbs, Act.put]
 refine rdA (i := 10) rfl (fun K hK => ?_)
 generalize W83.drew = Wd95 at *
 obtain ⟨b4c0, b4c1, b4c2, b4c3, b4c4, b4c5, b4f0, b4f1, b4f2, b4f3, b4f4, b4f5⟩ := fac6 (x := m2) (y := m3) (HS.out.at 0 _ _ _ rfl)
 have b4l := blk_lt (HS.out.at 0 _ _ _ rfl)
 go_simp
 refine hK.out _ _ ((((HS.out).st_RR_0_1 0 m2 m3 r1 rfl)).erase 0) (fun hh => ?_)
 clear hK K b4c0 b4c1 b4c2 b4c3 b4c4 b4c5 b4f0 b4f1 b4f2 b4f3 b4f4 b4f5 b4l
 try simp only [nbs, Act.put]
 generalize hW96 : (((Wd95).setCell _ _).setCell _ _).setCell _ _ = W96 at *
 replace HS := Lib.hid (((HS.out).st_RR_0_1 0 m2 m3 r1 rfl).to hW96 (by (try simp only [nb5, nb6]); rfl))
 clear hW96
 refine wpAnyH_done (by kernel_rfl) ?_ _
 go_wp2_with fail
 rw [rounds_succ]
 go_wp2_with fail
 refine wp_region_held_drew (S := (fun w' => Sx w w' [(ZD6, arr6 r1 m3, 37), (ZC6, arr6 r0 m1, 37), (ZB6, #[.slice (some ⟨ZC6, 0, none⟩) 2 2, .slice (some ⟨ZD6, 0, none⟩) 2 2], 56), (w4.heap.size, #[.bool false, .slice none 0 0, .slice none 0 0, .bool false, .slice none 0 0, .slice none 0 0], 37), (w2.heap.size, z2.arr, 37)] [])) (by kernel_rfl) ((HS.out.drew).bare) (fun hh => ?_)
 replace HS := Lib.hid HS.out.drew
 have HSW := Lib.hid HS.out.bel.size
 refine tkB (i := 0) (v := ?vk98) rfl ?hk98 ?rk98
 case hk98 => intro u hSu; go_simp <;> with_reducible rfl
 try simp only [nbs, Act.put]
 refine tkB (i := 2) (v := ?vk99) rfl ?hk99 ?rk99
 case hk99 => intro u hSu; (try dsimp only at hSu); obtain ⟨qb0c0, qb0c1, qb0c2, _⟩ := fac3 (x := z2) (hSu.at 4 _ _ _ rfl); clear hSu; go_simp <;> with_reducible rfl
 try simp only [nbs, Act.put]
 have HMB100 : MatAt _ (.slice (some ⟨ZB6, 0, none⟩) 2 2) b0 q1 b1 q3 := MatAt.of (HS.out.at 2 _ _ _ rfl) (HS.out.at 1 _ _ _ rfl) (HS.out.at 0 _ _ _ rfl) (HS.out.q 2 _ _ rfl) (HS.out.q 5 _ _ rfl) (HS.out.q 1 _ _ rfl) (HS.out.q 3 _ _ rfl)
 refine wpAnyH_modular [1, 3, 4, 5, 6, 7] [1, 3, 7] [4, 5, 6] [80, 82, 78, 83, 84, 13] #[true, true, true, true, true, true, true, true, false, false] 2 [(1, 80), (3, 82), (4, 78), (5, 83), (6, 84), (7, 13)] [(1, []), (3, [1]), (4, [3]), (5, [4]), (6, [4]), (7, [])] [7] [(1, fun v w => ∃ z101 : R3, v = z101.val ∧ Fr false w z101.val (det2 b0 q1 b1 q3)), (3, fun v w => ∃ z102 : R3, v = .tuple #[z102.val, .int .i64 0] ∧ Fr false w z102.val ((det2 b0 q1 b1 q3) / (det2 q0 q1 q2 q3))), (4, fun v w => ∃ z102q4 : R3, v = .tuple #[z102q4.val, .int .i64 0] ∧ Fr false w z102q4.val ((det2 b0 q1 b1 q3) / (det2 q0 q1 q2 q3))), (5, fun v w => ∃ z102q4q5 : R3, v = z102q4q5.val ∧ Fr false w z102q4q5.val ((det2 b0 q1 b1 q3) / (det2 q0 q1 q2 q3))), (6, fun v w => v = .int .i64 0), (7, fun v w => ∃ Br97_7 : Nat, v = .pointer (some ⟨Br97_7, 0, none⟩) ∧ W96.drew.heap.size ≤ Br97_7 ∧ w.heap[Br97_7]? = some (.cells #[.bool false, .slice none 0 0, .slice none 0 0] 37 (0, 0)))]
  rfl (by kernel_rfl) (by decide) rfl ⟨(fun v w w' hb ⟨z0, e, h0⟩ => ⟨z0, e, Fr.below h0 hb⟩), ⟨(fun v w w' hb ⟨z0, e, h0⟩ => ⟨z0, e, Fr.below h0 hb⟩), ⟨(fun v w w' hb ⟨z0, e, h0⟩ => ⟨z0, e, Fr.below h0 hb⟩), ⟨(fun v w w' hb ⟨z0, e, h0⟩ => ⟨z0, e, Fr.below h0 hb⟩), ⟨(fun v w w' hb e => e), ⟨(fun v w w' hb ⟨B, e, g, k⟩ => ⟨B, e, g, blk_keep k hb (blk_lt k)⟩), trivial⟩⟩⟩⟩⟩⟩ ⟨fun v w ⟨B, e, g, k⟩ => ⟨B, e, blk_lt k⟩, trivial⟩ (fun w' hb => Sx.below hh hb) ⟨?_, ?_, ?_, trivial⟩ ⟨?_, ?_, ?_, trivial⟩ (by decide) ?_
 ·
  refine StepM.of rfl (fun f w' hb hp K hK => ?_)
  have HSB := HS
  replace HS := Lib.hid (HS.out.below hb)
  simp only [fillA, fillT, List.foldl_cons, List.foldl_nil, Act.put, nb4, nb5, nb6]
  go_simp
  go_wp2_with (go_at_call 45; (with_reducible refine (minors_any b0 q1 b1 q3 _ _ (HMB100.below hb) Z4.out Z1.out Z5.out Z3.out).mono ?_); rintro e w101 ⟨v101, rfl, hv101, hb101⟩; obtain ⟨z101, rfl⟩ := hv101.open3)
  exact hK.out _ _ (z101.val) (by simp only [fillA, fillT, List.foldl_cons, List.foldl_nil, Act.put, nb4, nb5, nb6, nb1, nb2, nb3]) ⟨z101, rfl, hv101⟩ (fun h => absurd h (by decide)) hb101
 ·
  refine StepM.of rfl (fun f w' hb hp K hK => ?_)
  obtain ⟨z101, e1, h1_0⟩ : ∃ z101 : R3, f 80 = z101.val ∧ Fr false w' z101.val (det2 b0 q1 b1 q3) := hp 1 (by decide)
  have HSB := HS
  replace HS := Lib.hid (HS.out.below hb)
  replace HS := Lib.hid (HS.out.addQ h1_0)
  simp only [fillA, fillT, List.foldl_cons, List.foldl_nil, Act.put, nb4, nb5, nb6, e1]
  have a103 := HS.out.q 0 _ _ rfl
  have a104 := HS.out.q 1 _ _ rfl
  go_simp
  go_wp2_with (go_at_call 48; (with_reducible refine (qdiv_any (det2 b0 q1 b1 q3) (det2 q0 q1 q2 q3) _ _ _ a103 a104 (szQ_mono (szQ_of (det_sz Z4.out Z1.out Z5.out Z3.out)) (by omega)) (szQ_mono (szQ_of (det_sz Z0.out Z1.out Z2.out Z3.out)) (by omega)) HD0.out).mono ?_); rintro e w102 ⟨v102, rfl, hv102, hb102⟩; obtain ⟨z102, rfl⟩ := hv102.open3)
  exact hK.out _ _ (.tuple #[z102.val, .int .i64 0]) (by simp only [fillA, fillT, List.foldl_cons, List.foldl_nil, Act.put, nb4, nb5, nb6, nb1, nb2, nb3, e1]) ⟨z102, rfl, hv102⟩ (fun h => absurd h (by decide)) hb102
 ·
  refine StepM.of rfl (fun f w' hb hp K hK => ?_)
  have HSB := HS
  replace HS := Lib.hid (HS.out.below hb)
  simp only [fillA, fillT, List.foldl_cons, List.foldl_nil, Act.put, nb4, nb5, nb6]
  go_simp
  exact hK.out _ _ (.pointer (some ⟨w'.heap.size, 0, none⟩)) (by simp only [fillA, fillT, List.foldl_cons, List.foldl_nil, Act.put, nb4, nb5, nb6, nb1, nb2, nb3]) ⟨_, rfl, hb.size, blk_new _ _ _⟩ (fun _ => rfl) (below1 w' _)
 ·
  refine EagerM.of rfl (fun f w' hb hp => ?_)
  obtain ⟨z102, e3, h3_0⟩ : ∃ z102 : R3, f 82 = .tuple #[z102.val, .int .i64 0] ∧ Fr false w' z102.val ((det2 b0 q1 b1 q3) / (det2 q0 q1 q2 q3)) := hp 3 (by decide)
  refine ⟨.tuple #[z102.val, .int .i64 0], ⟨z102, rfl, h3_0⟩, by first | rfl | kernel_rfl, fun u => ?_⟩
  simp only [fillA, fillT, List.foldl_cons, List.foldl_nil, Act.put, nb4, nb5, nb6, e3]
  go_simp <;> with_reducible rfl
 ·
  refine EagerM.of rfl (fun f w' hb hp => ?_)
  obtain ⟨z102q4, e4, h4_0⟩ : ∃ z102q4 : R3, f 78 = .tuple #[z102q4.val, .int .i64 0] ∧ Fr false w' z102q4.val ((det2 b0 q1 b1 q3) / (det2 q0 q1 q2 q3)) := hp 4 (by decide)
  refine ⟨z102q4.val, ⟨z102q4, rfl, h4_0⟩, by first | rfl | kernel_rfl, fun u => ?_⟩
  simp only [fillA, fillT, List.foldl_cons, List.foldl_nil, Act.put, nb4, nb5, nb6, e4]
  go_simp <;> with_reducible rfl
 ·
  refine EagerM.of rfl (fun f w' hb hp => ?_)
  obtain ⟨z102q4, e4, h4_0⟩ : ∃ z102q4 : R3, f 78 = .tuple #[z102q4.val, .int .i64 0] ∧ Fr false w' z102q4.val ((det2 b0 q1 b1 q3) / (det2 q0 q1 q2 q3)) := hp 4 (by decide)
  refine ⟨.int .i64 0, rfl, by first | rfl | kernel_rfl, fun u => ?_⟩
  simp only [fillA, fillT, List.foldl_cons, List.foldl_nil, Act.put, nb4, nb5, nb6, e4]
  go_simp <;> with_reducible rfl
 ·
  intro f wr97 hb hp hd
  obtain ⟨z101, e1, h1_0⟩ : ∃ z101 : R3, f 80 = z101.val ∧ Fr false wr97 z101.val (det2 b0 q1 b1 q3) := hp 1 (by decide)
  obtain ⟨z102, e3, h3_0⟩ : ∃ z102 : R3, f 82 = .tuple #[z102.val, .int .i64 0] ∧ Fr false wr97 z102.val ((det2 b0 q1 b1 q3) / (det2 q0 q1 q2 q3)) := hp 3 (by decide)
  obtain ⟨z102q4, e4, h4_0⟩ : ∃ z102q4 : R3, f 78 = .tuple #[z102q4.val, .int .i64 0] ∧ Fr false wr97 z102q4.val ((det2 b0 q1 b1 q3) / (det2 q0 q1 q2 q3)) := hp 4 (by decide)
  obtain ⟨z102q4q5, e5, h5_0⟩ : ∃ z102q4q5 : R3, f 83 = z102q4q5.val ∧ Fr false wr97 z102q4q5.val ((det2 b0 q1 b1 q3) / (det2 q0 q1 q2 q3)) := hp 5 (by decide)
  obtain e6 : f 84 = .int .i64 0 := hp 6 (by decide)
  obtain ⟨Br97_7, e7, g7, k7⟩ : ∃ Br97_7 : Nat, f 13 = .pointer (some ⟨Br97_7, 0, none⟩) ∧ W96.drew.heap.size ≤ Br97_7 ∧ wr97.heap[Br97_7]? = some (.cells #[.bool false, .slice none 0 0, .slice none 0 0] 37 (0, 0)) := hp 7 (by decide)
  replace hh := Sx.below hh hb
  have hlt := HS.out.lt
  replace HS := Lib.hid (HS.out.below hb)
  replace HS := Lib.hid (HS.out.addQ h1_0)
  replace HS := Lib.hid (HS.out.addQ h3_0)
  replace HS := Lib.hid (HS.out.addQ h4_0)
  replace HS := Lib.hid (HS.out.addQ h5_0)
  have hge7 : w.heap.size ≤ Br97_7 := Nat.le_trans HSW.out g7
  have hne7 : ∀ b, b ∈ ([(ZD6, arr6 r1 m3, 37), (ZC6, arr6 r0 m1, 37), (ZB6, #[.slice (some ⟨ZC6, 0, none⟩) 2 2, .slice (some ⟨ZD6, 0, none⟩) 2 2], 56), (w4.heap.size, #[.bool false, .slice none 0 0, .slice none 0 0, .bool false, .slice none 0 0, .slice none 0 0], 37), (w2.heap.size, z2.arr, 37)] : List Bx) → b.1 ≠ Br97_7 := by
   intro b hb
   simp only [List.mem_cons, List.not_mem_nil, or_false] at hb
   rcases hb with rfl | rfl | rfl | rfl | rfl
   ·
    have := hlt _ (List.mem_iff_getElem?.2 ⟨0, rfl⟩); dsimp only at this ⊢; omega
   ·
    have := hlt _ (List.mem_iff_getElem?.2 ⟨1, rfl⟩); dsimp only at this ⊢; omega
   ·
    have := hlt _ (List.mem_iff_getElem?.2 ⟨2, rfl⟩); dsimp only at this ⊢; omega
   ·
    have := hlt _ (List.mem_iff_getElem?.2 ⟨3, rfl⟩); dsimp only at this ⊢; omega
   ·
    have := hlt _ (List.mem_iff_getElem?.2 ⟨4, rfl⟩); dsimp only at this ⊢; omega
  replace HS := Lib.hid (HS.out.addBox k7 hge7 (by rfl) hne7)
  simp only [fillA, fillT, List.foldl_cons, List.foldl_nil, Act.put, nb4, nb5, nb6, e1, e3, e4, e5, e6, e7]
  clear hp hd hb hlt e1 e3 e4 e5 e6 e7
  refine rdA (i := 8) rfl (fun K hK => ?_)
  have b5e := (HS.out.at 0 _ _ _ rfl)
  have b5c0 := blk_cell b5e 0 (.bool false) rfl
  have b5c1 := blk_cell b5e 1 (.slice none 0 0) rfl
  have b5c2 := blk_cell b5e 2 (.slice none 0 0) rfl
  have b5f0 := blk_frozen b5e 0
  have b5f1 := blk_frozen b5e 1
  have b5f2 := blk_frozen b5e 2
  have b5l := blk_lt b5e
  clear b5e
  go_simp
  refine hK.out _ _ ((((HS.out).st_R 0 r30 z102q4q5 rfl)).erase 0) (fun hh => ?_)
  clear hK K b5c0 b5c1 b5c2 b5f0 b5f1 b5f2 b5l
  try simp only [nbs, Act.put]
  generalize hW105 : (((wr97).setCell _ _).setCell _ _).setCell _ _ = W105 at *
  replace HS := Lib.hid (((HS.out).st_R 0 r30 z102q4q5 rfl).to hW105 (by (try simp only [nb5, nb6]); rfl))
  clear hW105
  refine tkB (i := 9) (v := ?vk106) rfl ?hk106 ?rk106
  case hk106 => intro u hSu; go_simp <;> with_reducible rfl
  try simp only [nbs, Act.put]
  refine wpAnyH_done (by kernel_rfl) ?_ _
  obtain ⟨b5c0, b5c1, b5c2, b5f0, b5f1, b5f2⟩ := fac3 (x := z102q4q5) (HS.out.at 0 _ _ _ rfl)
  have b5l := blk_lt (HS.out.at 0 _ _ _ rfl)
  have b1e := (HS.out.at 4 _ _ _ rfl)
  have b1c0 := blk_cell b1e 0 (.bool false) rfl
  have b1c1 := blk_cell b1e 1 (.slice none 0 0) rfl
  have b1c2 := blk_cell b1e 2 (.slice none 0 0) rfl
  have b1c3 := blk_cell b1e 3 (.bool false) rfl
  have b1c4 := blk_cell b1e 4 (.slice none 0 0) rfl
  have b1c5 := blk_cell b1e 5 (.slice none 0 0) rfl
  have b1f0 := blk_frozen b1e 0
  have b1f1 := blk_frozen b1e 1
  have b1f2 := blk_frozen b1e 2
  have b1f3 := blk_frozen b1e 3
  have b1f4 := blk_frozen b1e 4
  have b1f5 := blk_frozen b1e 5
  have b1l := blk_lt b1e
  clear b1e
  have bn5_1 := HS.out.ne 0 4 rfl rfl (by decide)
  go_wp2_with fail
  clear b5c0 b5c1 b5c2 b5f0 b5f1 b5f2 b5l b1c0 b1c1 b1c2 b1c3 b1c4 b1c5 b1f0 b1f1 b1f2 b1f3 b1f4 b1f5 b1l bn5_1
  generalize hW107 : (((W105).setCell _ _).setCell _ _).setCell _ _ = W107 at *
  replace HS := Lib.hid (((HS.out).st_RR_0_1 4 r30 r30 z102q4q5 rfl).to hW107 (by (try simp only [nb5, nb6]); rfl))
  clear hW107
  rw [rounds_succ]
  go_wp2_with fail
  refine (zeros_any _).mono ?_
  rintro e w108 ⟨ZB108, ZC108, ZD108, y108a, y108b, y108c, y108d, rfl, hza108, hzb108, hzc108, hna108, hnb108, hnc108, hka108, hkb108, hkc108, hb108⟩
  have hlt108 := HS.out.lt
  have hwz108 := HS.out.bel.size
  replace HS := Lib.hid (HS.out.below hb108)
  clear hb108
  replace HS := Lib.hid (HS.out.addZ hlt108 hwz108 hza108 hzb108 hzc108 hna108 hnb108 hnc108 hka108 hkb108 hkc108 (by rfl) (by rfl) (by rfl))
  clear hlt108 hwz108 hza108 hzb108 hzc108 hna108 hnb108 hnc108 hka108 hkb108 hkc108
  go_wp2_with fail
  refine wp_loop_rounds 9 ?_
  rw [rounds_succ]
  go_wp2_with fail
  refine wp_loop_rounds 9 ?_
  rw [rounds_succ]
  go_wp2_with fail
  refine wp_region_held_drew (S := (fun w' => Sx w w' [(ZD108, arr6 y108c y108d, 37), (ZB108, #[.slice (some ⟨ZC108, 0, none⟩) 2 2, .slice (some ⟨ZD108, 0, none⟩) 2 2], 56), (Br97_7, z102q4q5.arr, 37), (ZD6, arr6 r1 m3, 37), (ZC6, arr6 r0 m1, 37), (ZB6, #[.slice (some ⟨ZC6, 0, none⟩) 2 2, .slice (some ⟨ZD6, 0, none⟩) 2 2], 56), (w4.heap.size, #[.bool z102q4q5.b, .slice z102q4q5.a z102q4q5.n z102q4q5.c, .slice z102q4q5.d z102q4q5.m z102q4q5.e, .bool false, .slice none 0 0, .slice none 0 0], 37), (w2.heap.size, z2.arr, 37)] [])) (by kernel_rfl) ((HS.out.drew).erase 1) (fun hh => ?_)
  replace HS := Lib.hid HS.out.drew
  refine tkB (i := 0) (v := ?vk110) rfl ?hk110 ?rk110
  case hk110 => intro u hSu; go_simp <;> with_reducible rfl
  try simp only [nbs, Act.put]
  refine tkB (i := 1) (v := ?vk111) rfl ?hk111 ?rk111
  case hk111 => intro u hSu; go_simp <;> with_reducible rfl
  try simp only [nbs, Act.put]
  refine tkB (i := 2) (v := ?vk112) rfl ?hk112 ?rk112
  case hk112 => intro u hSu; go_simp <;> with_reducible rfl
  try simp only [nbs, Act.put]
  refine tkB (i := 3) (v := ?vk113) rfl ?hk113 ?rk113
  case hk113 => intro u hSu; (try dsimp only at hSu); have qb6e := (hSu.at 1 _ _ _ rfl); have qb6c0 := blk_cell qb6e 0 (.slice (some ⟨ZC108, 0, none⟩) 2 2) rfl; have qb6c1 := blk_cell qb6e 1 (.slice (some ⟨ZD108, 0, none⟩) 2 2) rfl; clear qb6e; clear hSu; go_simp <;> with_reducible rfl
  try simp only [nbs, Act.put]
  refine tkB (i := 4) (v := ?vk114) rfl ?hk114 ?rk114
  case hk114 => intro u hSu; go_simp <;> with_reducible rfl
  try simp only [nbs, Act.put]
  refine tkB (i := 5) (v := ?vk115) rfl ?hk115 ?rk115
  case hk115 => intro u hSu; go_simp <;> with_reducible rfl
  try simp only [nbs, Act.put]
  refine tkB (i := 6) (v := ?vk116) rfl ?hk116 ?rk116
  case hk116 => intro u hSu; go_simp <;> with_reducible rfl
  try simp only [nbs, Act.put]
  refine tkB (i := 7) (v := ?vk117) rfl ?hk117 ?rk117
  case hk117 => intro u hSu; go_simp <;> with_reducible rfl
  try simp only [nbs, Act.put]
  refine tkB (i := 8) (v := ?vk118) rfl ?hk118 ?rk118
  case hk118 => intro u hSu; (try dsimp only at hSu); have MOc0 := (hSu.bel.cell (p := ⟨MB, 0, none⟩) MOL.out).trans MO0.out; clear hSu; go_simp <;> with_reducible rfl
  try simp only [nbs, Act.put]
  refine tkB (i := 9) (v := ?vk119) rfl ?hk119 ?rk119
  case hk119 => intro u hSu; go_simp <;> with_reducible rfl
  try simp only [nbs, Act.put]
  refine tkB (i := 10) (v := ?vk120) rfl ?hk120 ?rk120
  case hk120 => intro u hSu; go_simp <;> with_reducible rfl
  try simp only [nbs, Act.put]
  refine tkB (i := 11) (v := ?vk121) rfl ?hk121 ?rk121
  case hk121 => intro u hSu; (try dsimp only at hSu); have MR0c0 := (hSu.bel.cell (p := ⟨MB1, 0, none⟩) MRL0.out).trans MR00.out; have MR0c1 := (hSu.bel.cell (p := ⟨MB1, 1, none⟩) MRL0.out).trans MR01.out; have MR0c2 := (hSu.bel.cell (p := ⟨MB1, 2, none⟩) MRL0.out).trans MR02.out; clear hSu; go_simp <;> with_reducible rfl
  try simp only [nbs, Act.put]
  refine tkB (i := 12) (v := ?vk122) rfl ?hk122 ?rk122
  case hk122 => intro u hSu; go_simp <;> with_reducible rfl
  try simp only [nbs, Act.put]
  refine rdA (i := 13) rfl (fun K hK => ?_)
  generalize w108.drew = Wd123 at *
  obtain ⟨b7c0, b7c1, b7c2, b7c3, b7c4, b7c5, b7f0, b7f1, b7f2, b7f3, b7f4, b7f5⟩ := fac6 (x := y108a) (y := y108b) (HS.out.at 1 _ _ _ rfl)
  have b7l := blk_lt (HS.out.at 1 _ _ _ rfl)
  go_simp
  refine hK.out _ _ ((((HS.out).st_RR_0_1 1 y108a y108b m0 rfl)).erase 1) (fun hh => ?_)
  clear hK K b7c0 b7c1 b7c2 b7c3 b7c4 b7c5 b7f0 b7f1 b7f2 b7f3 b7f4 b7f5 b7l
  try simp only [nbs, Act.put]
  generalize hW124 : (((Wd123).setCell _ _).setCell _ _).setCell _ _ = W124 at *
  replace HS := Lib.hid (((HS.out).st_RR_0_1 1 y108a y108b m0 rfl).to hW124 (by (try simp only [nb5, nb6]); rfl))
  clear hW124
  refine wpAnyH_done (by kernel_rfl) ?_ _
  go_wp2_with fail
  rw [rounds_succ]
  go_wp2_with fail
  refine wp_region_held_drew (S := (fun w' => Sx w w' [(ZD108, arr6 y108c y108d, 37), (ZB108, #[.slice (some ⟨ZC108, 0, none⟩) 2 2, .slice (some ⟨ZD108, 0, none⟩) 2 2], 56), (Br97_7, z102q4q5.arr, 37), (ZD6, arr6 r1 m3, 37), (ZC6, arr6 r0 m1, 37), (ZB6, #[.slice (some ⟨ZC6, 0, none⟩) 2 2, .slice (some ⟨ZD6, 0, none⟩) 2 2], 56), (w4.heap.size, #[.bool z102q4q5.b, .slice z102q4q5.a z102q4q5.n z102q4q5.c, .slice z102q4q5.d z102q4q5.m z102q4q5.e, .bool false, .slice none 0 0, .slice none 0 0], 37), (w2.heap.size, z2.arr, 37)] [])) (by kernel_rfl) ((HS.out.drew).erase 1) (fun hh => ?_)
  replace HS := Lib.hid HS.out.drew
  refine tkB (i := 0) (v := ?vk126) rfl ?hk126 ?rk126
  case hk126 => intro u hSu; go_simp <;> with_reducible rfl
  try simp only [nbs, Act.put]
  refine tkB (i := 1) (v := ?vk127) rfl ?hk127 ?rk127
  case hk127 => intro u hSu; go_simp <;> with_reducible rfl
  try simp only [nbs, Act.put]
  refine tkB (i := 2) (v := ?vk128) rfl ?hk128 ?rk128
  case hk128 => intro u hSu; go_simp <;> with_reducible rfl
  try simp only [nbs, Act.put]
  refine tkB (i := 3) (v := ?vk129) rfl ?hk129 ?rk129
  case hk129 => intro u hSu; (try dsimp only at hSu); have qb6e := (hSu.at 1 _ _ _ rfl); have qb6c0 := blk_cell qb6e 0 (.slice (some ⟨ZC108, 0, none⟩) 2 2) rfl; have qb6c1 := blk_cell qb6e 1 (.slice (some ⟨ZD108, 0, none⟩) 2 2) rfl; clear qb6e; clear hSu; go_simp <;> with_reducible rfl
  try simp only [nbs, Act.put]
  refine tkB (i := 4) (v := ?vk130) rfl ?hk130 ?rk130
  case hk130 => intro u hSu; go_simp <;> with_reducible rfl
  try simp only [nbs, Act.put]
  refine tkB (i := 5) (v := ?vk131) rfl ?hk131 ?rk131
  case hk131 => intro u hSu; go_simp <;> with_reducible rfl
  try simp only [nbs, Act.put]
  refine tkB (i := 6) (v := ?vk132) rfl ?hk132 ?rk132
  case hk132 => intro u hSu; go_simp <;> with_reducible rfl
  try simp only [nbs, Act.put]
  refine tkB (i := 7) (v := ?vk133) rfl ?hk133 ?rk133
  case hk133 => intro u hSu; go_simp <;> with_reducible rfl
  try simp only [nbs, Act.put]
  refine tkB (i := 8) (v := ?vk134) rfl ?hk134 ?rk134
  case hk134 => intro u hSu; (try dsimp only at hSu); have MOc0 := (hSu.bel.cell (p := ⟨MB, 0, none⟩) MOL.out).trans MO0.out; clear hSu; go_simp <;> with_reducible rfl
  try simp only [nbs, Act.put]
  refine tkB (i := 9) (v := ?vk135) rfl ?hk135 ?rk135
  case hk135 => intro u hSu; go_simp <;> with_reducible rfl
  try simp only [nbs, Act.put]
  refine tkB (i := 10) (v := ?vk136) rfl ?hk136 ?rk136
  case hk136 => intro u hSu; go_simp <;> with_reducible rfl
  try simp only [nbs, Act.put]
  refine tkB (i := 11) (v := ?vk137) rfl ?hk137 ?rk137
  case hk137 => intro u hSu; (try dsimp only at hSu); have MR0c3 := (hSu.bel.cell (p := ⟨MB1, 3, none⟩) MRL0.out).trans MR03.out; have MR0c4 := (hSu.bel.cell (p := ⟨MB1, 4, none⟩) MRL0.out).trans MR04.out; have MR0c5 := (hSu.bel.cell (p := ⟨MB1, 5, none⟩) MRL0.out).trans MR05.out; clear hSu; go_simp <;> with_reducible rfl
  try simp only [nbs, Act.put]
  refine tkB (i := 12) (v := ?vk138) rfl ?hk138 ?rk138
  case hk138 => intro u hSu; go_simp <;> with_reducible rfl
  try simp only [nbs, Act.put]
  refine rdA (i := 13) rfl (fun K hK => ?_)
  generalize W124.drew = Wd139 at *
  obtain ⟨b7c0, b7c1, b7c2, b7c3, b7c4, b7c5, b7f0, b7f1, b7f2, b7f3, b7f4, b7f5⟩ := fac6 (x := m0) (y := y108b) (HS.out.at 1 _ _ _ rfl)
  have b7l := blk_lt (HS.out.at 1 _ _ _ rfl)
  go_simp
  refine hK.out _ _ ((((HS.out).st_RR_1_1 1 m0 y108b m1 rfl)).erase 1) (fun hh => ?_)
  clear hK K b7c0 b7c1 b7c2 b7c3 b7c4 b7c5 b7f0 b7f1 b7f2 b7f3 b7f4 b7f5 b7l
  try simp only [nbs, Act.put]
  generalize hW140 : (((Wd139).setCell _ _).setCell _ _).setCell _ _ = W140 at *
  replace HS := Lib.hid (((HS.out).st_RR_1_1 1 m0 y108b m1 rfl).to hW140 (by (try simp only [nb5, nb6]); rfl))
  clear hW140
  refine wpAnyH_done (by kernel_rfl) ?_ _
  go_wp2_with fail
  rw [rounds_succ]
  go_wp2_with fail
  refine wp_region_held_drew (S := (fun w' => Sx w w' [(ZD108, arr6 y108c y108d, 37), (ZB108, #[.slice (some ⟨ZC108, 0, none⟩) 2 2, .slice (some ⟨ZD108, 0, none⟩) 2 2], 56), (Br97_7, z102q4q5.arr, 37), (ZD6, arr6 r1 m3, 37), (ZC6, arr6 r0 m1, 37), (ZB6, #[.slice (some ⟨ZC6, 0, none⟩) 2 2, .slice (some ⟨ZD6, 0, none⟩) 2 2], 56), (w4.heap.size, #[.bool z102q4q5.b, .slice z102q4q5.a z102q4q5.n z102q4q5.c, .slice z102q4q5.d z102q4q5.m z102q4q5.e, .bool false, .slice none 0 0, .slice none 0 0], 37), (w2.heap.size, z2.arr, 37)] [])) (by kernel_rfl) ((HS.out.drew).erase 1) (fun hh => ?_)
  replace HS := Lib.hid HS.out.drew
  refine tkB (i := 0) (v := ?vk142) rfl ?hk142 ?rk142
  case hk142 => intro u hSu; go_simp <;> with_reducible rfl
  try simp only [nbs, Act.put]
  refine tkB (i := 1) (v := ?vk143) rfl ?hk143 ?rk143
  case hk143 => intro u hSu; go_simp <;> with_reducible rfl
  try simp only [nbs, Act.put]
  refine tkB (i := 2) (v := ?vk144) rfl ?hk144 ?rk144
  case hk144 => intro u hSu; go_simp <;> with_reducible rfl
  try simp only [nbs, Act.put]
  refine tkB (i := 3) (v := ?vk145) rfl ?hk145 ?rk145
  case hk145 => intro u hSu; (try dsimp only at hSu); have qb6e := (hSu.at 1 _ _ _ rfl); have qb6c0 := blk_cell qb6e 0 (.slice (some ⟨ZC108, 0, none⟩) 2 2) rfl; have qb6c1 := blk_cell qb6e 1 (.slice (some ⟨ZD108, 0, none⟩) 2 2) rfl; clear qb6e; clear hSu; go_simp <;> with_reducible rfl
  try simp only [nbs, Act.put]
  refine tkB (i := 4) (v := ?vk146) rfl ?hk146 ?rk146
  case hk146 => intro u hSu; go_simp <;> with_reducible rfl
  try simp only [nbs, Act.put]
  refine tkB (i := 5) (v := ?vk147) rfl ?hk147 ?rk147
  case hk147 => intro u hSu; go_simp <;> with_reducible rfl
  try simp only [nbs, Act.put]
  refine tkB (i := 6) (v := ?vk148) rfl ?hk148 ?rk148
  case hk148 => intro u hSu; go_simp <;> with_reducible rfl
  try simp only [nbs, Act.put]
  refine tkB (i := 7) (v := ?vk149) rfl ?hk149 ?rk149
  case hk149 => intro u hSu; go_simp <;> with_reducible rfl
  try simp only [nbs, Act.put]
  refine tkB (i := 8) (v := ?vk150) rfl ?hk150 ?rk150
  case hk150 => intro u hSu; (try dsimp only at hSu); have RBc0 := (hSu.bel.cell (p := ⟨RB, 0, none⟩) RBL.out).trans RB0.out; have RBc1 := (hSu.bel.cell (p := ⟨RB, 1, none⟩) RBL.out).trans RB1.out; have RBc2 := (hSu.bel.cell (p := ⟨RB, 2, none⟩) RBL.out).trans RB2.out; clear hSu; go_simp <;> with_reducible rfl
  try simp only [nbs, Act.put]
  refine tkB (i := 9) (v := ?vk151) rfl ?hk151 ?rk151
  case hk151 => intro u hSu; go_simp <;> with_reducible rfl
  try simp only [nbs, Act.put]
  refine rdA (i := 10) rfl (fun K hK => ?_)
  generalize W140.drew = Wd152 at *
  obtain ⟨b7c0, b7c1, b7c2, b7c3, b7c4, b7c5, b7f0, b7f1, b7f2, b7f3, b7f4, b7f5⟩ := fac6 (x := m0) (y := m1) (HS.out.at 1 _ _ _ rfl)
  have b7l := blk_lt (HS.out.at 1 _ _ _ rfl)
  go_simp
  refine hK.out _ _ ((((HS.out).st_RR_1_1 1 m0 m1 r0 rfl)).erase 1) (fun hh => ?_)
  clear hK K b7c0 b7c1 b7c2 b7c3 b7c4 b7c5 b7f0 b7f1 b7f2 b7f3 b7f4 b7f5 b7l
  try simp only [nbs, Act.put]
  generalize hW153 : (((Wd152).setCell _ _).setCell _ _).setCell _ _ = W153 at *
  replace HS := Lib.hid (((HS.out).st_RR_1_1 1 m0 m1 r0 rfl).to hW153 (by (try simp only [nb5, nb6]); rfl))
  clear hW153
  refine wpAnyH_done (by kernel_rfl) ?_ _
  go_wp2_with fail
  rw [rounds_succ]
  go_wp2_with fail
  refine wp_loop_rounds 9 ?_
  rw [rounds_succ]
  go_wp2_with fail
  refine wp_region_held_drew (S := (fun w' => Sx w w' [(ZC108, arr6 m0 r0, 37), (ZB108, #[.slice (some ⟨ZC108, 0, none⟩) 2 2, .slice (some ⟨ZD108, 0, none⟩) 2 2], 56), (Br97_7, z102q4q5.arr, 37), (ZD6, arr6 r1 m3, 37), (ZC6, arr6 r0 m1, 37), (ZB6, #[.slice (some ⟨ZC6, 0, none⟩) 2 2, .slice (some ⟨ZD6, 0, none⟩) 2 2], 56), (w4.heap.size, #[.bool z102q4q5.b, .slice z102q4q5.a z102q4q5.n z102q4q5.c, .slice z102q4q5.d z102q4q5.m z102q4q5.e, .bool false, .slice none 0 0, .slice none 0 0], 37), (w2.heap.size, z2.arr, 37)] [])) (by kernel_rfl) ((HS.out.drew).erase 0) (fun hh => ?_)
  replace HS := Lib.hid HS.out.drew
  refine tkB (i := 0) (v := ?vk155) rfl ?hk155 ?rk155
  case hk155 => intro u hSu; go_simp <;> with_reducible rfl
  try simp only [nbs, Act.put]
  refine tkB (i := 1) (v := ?vk156) rfl ?hk156 ?rk156
  case hk156 => intro u hSu; go_simp <;> with_reducible rfl
  try simp only [nbs, Act.put]
  refine tkB (i := 2) (v := ?vk157) rfl ?hk157 ?rk157
  case hk157 => intro u hSu; go_simp <;> with_reducible rfl
  try simp only [nbs, Act.put]
  refine tkB (i := 3) (v := ?vk158) rfl ?hk158 ?rk158
  case hk158 => intro u hSu; (try dsimp only at hSu); have qb6e := (hSu.at 1 _ _ _ rfl); have qb6c0 := blk_cell qb6e 0 (.slice (some ⟨ZC108, 0, none⟩) 2 2) rfl; have qb6c1 := blk_cell qb6e 1 (.slice (some ⟨ZD108, 0, none⟩) 2 2) rfl; clear qb6e; clear hSu; go_simp <;> with_reducible rfl
  try simp only [nbs, Act.put]
  refine tkB (i := 4) (v := ?vk159) rfl ?hk159 ?rk159
  case hk159 => intro u hSu; go_simp <;> with_reducible rfl
  try simp only [nbs, Act.put]
  refine tkB (i := 5) (v := ?vk160) rfl ?hk160 ?rk160
  case hk160 => intro u hSu; go_simp <;> with_reducible rfl
  try simp only [nbs, Act.put]
  refine tkB (i := 6) (v := ?vk161) rfl ?hk161 ?rk161
  case hk161 => intro u hSu; go_simp <;> with_reducible rfl
  try simp only [nbs, Act.put]
  refine tkB (i := 7) (v := ?vk162) rfl ?hk162 ?rk162
  case hk162 => intro u hSu; go_simp <;> with_reducible rfl
  try simp only [nbs, Act.put]
  refine tkB (i := 8) (v := ?vk163) rfl ?hk163 ?rk163
  case hk163 => intro u hSu; (try dsimp only at hSu); have MOc1 := (hSu.bel.cell (p := ⟨MB, 1, none⟩) MOL.out).trans MO1.out; clear hSu; go_simp <;> with_reducible rfl
  try simp only [nbs, Act.put]
  refine tkB (i := 9) (v := ?vk164) rfl ?hk164 ?rk164
  case hk164 => intro u hSu; go_simp <;> with_reducible rfl
  try simp only [nbs, Act.put]
  refine tkB (i := 10) (v := ?vk165) rfl ?hk165 ?rk165
  case hk165 => intro u hSu; go_simp <;> with_reducible rfl
  try simp only [nbs, Act.put]
  refine tkB (i := 11) (v := ?vk166) rfl ?hk166 ?rk166
  case hk166 => intro u hSu; (try dsimp only at hSu); have MR1c0 := (hSu.bel.cell (p := ⟨MB2, 0, none⟩) MRL1.out).trans MR10.out; have MR1c1 := (hSu.bel.cell (p := ⟨MB2, 1, none⟩) MRL1.out).trans MR11.out; have MR1c2 := (hSu.bel.cell (p := ⟨MB2, 2, none⟩) MRL1.out).trans MR12.out; clear hSu; go_simp <;> with_reducible rfl
  try simp only [nbs, Act.put]
  refine tkB (i := 12) (v := ?vk167) rfl ?hk167 ?rk167
  case hk167 => intro u hSu; go_simp <;> with_reducible rfl
  try simp only [nbs, Act.put]
  refine rdA (i := 13) rfl (fun K hK => ?_)
  generalize W153.drew = Wd168 at *
  obtain ⟨b8c0, b8c1, b8c2, b8c3, b8c4, b8c5, b8f0, b8f1, b8f2, b8f3, b8f4, b8f5⟩ := fac6 (x := y108c) (y := y108d) (HS.out.at 0 _ _ _ rfl)
  have b8l := blk_lt (HS.out.at 0 _ _ _ rfl)
  go_simp
  refine hK.out _ _ ((((HS.out).st_RR_0_1 0 y108c y108d m2 rfl)).erase 0) (fun hh => ?_)
  clear hK K b8c0 b8c1 b8c2 b8c3 b8c4 b8c5 b8f0 b8f1 b8f2 b8f3 b8f4 b8f5 b8l
  try simp only [nbs, Act.put]
  generalize hW169 : (((Wd168).setCell _ _).setCell _ _).setCell _ _ = W169 at *
  replace HS := Lib.hid (((HS.out).st_RR_0_1 0 y108c y108d m2 rfl).to hW169 (by (try simp only [nb5, nb6]); rfl))
  clear hW169
  refine wpAnyH_done (by kernel_rfl) ?_ _
  go_wp2_with fail
  rw [rounds_succ]
  go_wp2_with fail
  refine wp_region_held_drew (S := (fun w' => Sx w w' [(ZC108, arr6 m0 r0, 37), (ZB108, #[.slice (some ⟨ZC108, 0, none⟩) 2 2, .slice (some ⟨ZD108, 0, none⟩) 2 2], 56), (Br97_7, z102q4q5.arr, 37), (ZD6, arr6 r1 m3, 37), (ZC6, arr6 r0 m1, 37), (ZB6, #[.slice (some ⟨ZC6, 0, none⟩) 2 2, .slice (some ⟨ZD6, 0, none⟩) 2 2], 56), (w4.heap.size, #[.bool z102q4q5.b, .slice z102q4q5.a z102q4q5.n z102q4q5.c, .slice z102q4q5.d z102q4q5.m z102q4q5.e, .bool false, .slice none 0 0, .slice none 0 0], 37), (w2.heap.size, z2.arr, 37)] [])) (by kernel_rfl) ((HS.out.drew).erase 0) (fun hh => ?_)
  replace HS := Lib.hid HS.out.drew
  refine tkB (i := 0) (v := ?vk171) rfl ?hk171 ?rk171
  case hk171 => intro u hSu; go_simp <;> with_reducible rfl
  try simp only [nbs, Act.put]
  refine tkB (i := 1) (v := ?vk172) rfl ?hk172 ?rk172
  case hk172 => intro u hSu; go_simp <;> with_reducible rfl
  try simp only [nbs, Act.put]
  refine tkB (i := 2) (v := ?vk173) rfl ?hk173 ?rk173
  case hk173 => intro u hSu; go_simp <;> with_reducible rfl
  try simp only [nbs, Act.put]
  refine tkB (i := 3) (v := ?vk174) rfl ?hk174 ?rk174
  case hk174 => intro u hSu; (try dsimp only at hSu); have qb6e := (hSu.at 1 _ _ _ rfl); have qb6c0 := blk_cell qb6e 0 (.slice (some ⟨ZC108, 0, none⟩) 2 2) rfl; have qb6c1 := blk_cell qb6e 1 (.slice (some ⟨ZD108, 0, none⟩) 2 2) rfl; clear qb6e; clear hSu; go_simp <;> with_reducible rfl
  try simp only [nbs, Act.put]
  refine tkB (i := 4) (v := ?vk175) rfl ?hk175 ?rk175
  case hk175 => intro u hSu; go_simp <;> with_reducible rfl
  try simp only [nbs, Act.put]
  refine tkB (i := 5) (v := ?vk176) rfl ?hk176 ?rk176
  case hk176 => intro u hSu; go_simp <;> with_reducible rfl
  try simp only [nbs, Act.put]
  refine tkB (i := 6) (v := ?vk177) rfl ?hk177 ?rk177
  case hk177 => intro u hSu; go_simp <;> with_reducible rfl
  try simp only [nbs, Act.put]
  refine tkB (i := 7) (v := ?vk178) rfl ?hk178 ?rk178
  case hk178 => intro u hSu; go_simp <;> with_reducible rfl
  try simp only [nbs, Act.put]
  refine tkB (i := 8) (v := ?vk179) rfl ?hk179 ?rk179
  case hk179 => intro u hSu; (try dsimp only at hSu); have MOc1 := (hSu.bel.cell (p := ⟨MB, 1, none⟩) MOL.out).trans MO1.out; clear hSu; go_simp <;> with_reducible rfl
  try simp only [nbs, Act.put]
  refine tkB (i := 9) (v := ?vk180) rfl ?hk180 ?rk180
  case hk180 => intro u hSu; go_simp <;> with_reducible rfl
  try simp only [nbs, Act.put]
  refine tkB (i := 10) (v := ?vk181) rfl ?hk181 ?rk181
  case hk181 => intro u hSu; go_simp <;> with_reducible rfl
  try simp only [nbs, Act.put]
  refine tkB (i := 11) (v := ?vk182) rfl ?hk182 ?rk182
  case hk182 => intro u hSu; (try dsimp only at hSu); have MR1c3 := (hSu.bel.cell (p := ⟨MB2, 3, none⟩) MRL1.out).trans MR13.out; have MR1c4 := (hSu.bel.cell (p := ⟨MB2, 4, none⟩) MRL1.out).trans MR14.out; have MR1c5 := (hSu.bel.cell (p := ⟨MB2, 5, none⟩) MRL1.out).trans MR15.out; clear hSu; go_simp <;> with_reducible rfl
  try simp only [nbs, Act.put]
  refine tkB (i := 12) (v := ?vk183) rfl ?hk183 ?rk183
  case hk183 => intro u hSu; go_simp <;> with_reducible rfl
  try simp only [nbs, Act.put]
  refine rdA (i := 13) rfl (fun K hK => ?_)
  generalize W169.drew = Wd184 at *
  obtain ⟨b8c0, b8c1, b8c2, b8c3, b8c4, b8c5, b8f0, b8f1, b8f2, b8f3, b8f4, b8f5⟩ := fac6 (x := m2) (y := y108d) (HS.out.at 0 _ _ _ rfl)
  have b8l := blk_lt (HS.out.at 0 _ _ _ rfl)
  go_simp
  refine hK.out _ _ ((((HS.out).st_RR_1_1 0 m2 y108d m3 rfl)).erase 0) (fun hh => ?_)
  clear hK K b8c0 b8c1 b8c2 b8c3 b8c4 b8c5 b8f0 b8f1 b8f2 b8f3 b8f4 b8f5 b8l
  try simp only [nbs, Act.put]
  generalize hW185 : (((Wd184).setCell _ _).setCell _ _).setCell _ _ = W185 at *
  replace HS := Lib.hid (((HS.out).st_RR_1_1 0 m2 y108d m3 rfl).to hW185 (by (try simp only [nb5, nb6]); rfl))
  clear hW185
  refine wpAnyH_done (by kernel_rfl) ?_ _
  go_wp2_with fail
  rw [rounds_succ]
  go_wp2_with fail
  refine wp_region_held_drew (S := (fun w' => Sx w w' [(ZC108, arr6 m0 r0, 37), (ZB108, #[.slice (some ⟨ZC108, 0, none⟩) 2 2, .slice (some ⟨ZD108, 0, none⟩) 2 2], 56), (Br97_7, z102q4q5.arr, 37), (ZD6, arr6 r1 m3, 37), (ZC6, arr6 r0 m1, 37), (ZB6, #[.slice (some ⟨ZC6, 0, none⟩) 2 2, .slice (some ⟨ZD6, 0, none⟩) 2 2], 56), (w4.heap.size, #[.bool z102q4q5.b, .slice z102q4q5.a z102q4q5.n z102q4q5.c, .slice z102q4q5.d z102q4q5.m z102q4q5.e, .bool false, .slice none 0 0, .slice none 0 0], 37), (w2.heap.size, z2.arr, 37)] [])) (by kernel_rfl) ((HS.out.drew).erase 0) (fun hh => ?_)
  replace HS := Lib.hid HS.out.drew
  refine tkB (i := 0) (v := ?vk187) rfl ?hk187 ?rk187
  case hk187 => intro u hSu; go_simp <;> with_reducible rfl
  try simp only [nbs, Act.put]
  refine tkB (i := 1) (v := ?vk188) rfl ?hk188 ?rk188
  case hk188 => intro u hSu; go_simp <;> with_reducible rfl
  try simp only [nbs, Act.put]
  refine tkB (i := 2) (v := ?vk189) rfl ?hk189 ?rk189
  case hk189 => intro u hSu; go_simp <;> with_reducible rfl
  try simp only [nbs, Act.put]
  refine tkB (i := 3) (v := ?vk190) rfl ?hk190 ?rk190
  case hk190 => intro u hSu; (try dsimp only at hSu); have qb6e := (hSu.at 1 _ _ _ rfl); have qb6c0 := blk_cell qb6e 0 (.slice (some ⟨ZC108, 0, none⟩) 2 2) rfl; have qb6c1 := blk_cell qb6e 1 (.slice (some ⟨ZD108, 0, none⟩) 2 2) rfl; clear qb6e; clear hSu; go_simp <;> with_reducible rfl
  try simp only [nbs, Act.put]
  refine tkB (i := 4) (v := ?vk191) rfl ?hk191 ?rk191
  case hk191 => intro u hSu; go_simp <;> with_reducible rfl
  try simp only [nbs, Act.put]
  refine tkB (i := 5) (v := ?vk192) rfl ?hk192 ?rk192
  case hk192 => intro u hSu; go_simp <;> with_reducible rfl
  try simp only [nbs, Act.put]
  refine tkB (i := 6) (v := ?vk193) rfl ?hk193 ?rk193
  case hk193 => intro u hSu; go_simp <;> with_reducible rfl
  try simp only [nbs, Act.put]
  refine tkB (i := 7) (v := ?vk194) rfl ?hk194 ?rk194
  case hk194 => intro u hSu; go_simp <;> with_reducible rfl
  try simp only [nbs, Act.put]
  refine tkB (i := 8) (v := ?vk195) rfl ?hk195 ?rk195
  case hk195 => intro u hSu; (try dsimp only at hSu); have RBc3 := (hSu.bel.cell (p := ⟨RB, 3, none⟩) RBL.out).trans RB3.out; have RBc4 := (hSu.bel.cell (p := ⟨RB, 4, none⟩) RBL.out).trans RB4.out; have RBc5 := (hSu.bel.cell (p := ⟨RB, 5, none⟩) RBL.out).trans RB5.out; clear hSu; go_simp <;> with_reducible rfl
  try simp only [nbs, Act.put]
  refine tkB (i := 9) (v := ?vk196) rfl ?hk196 ?rk196
  case hk196 => intro u hSu; go_simp <;> with_reducible rfl
  try simp only [nbs, Act.put]
  refine rdA (i := 10) rfl (fun K hK => ?_)
  generalize W185.drew = Wd197 at *
  obtain ⟨b8c0, b8c1, b8c2, b8c3, b8c4, b8c5, b8f0, b8f1, b8f2, b8f3, b8f4, b8f5⟩ := fac6 (x := m2) (y := m3) (HS.out.at 0 _ _ _ rfl)
  have b8l := blk_lt (HS.out.at 0 _ _ _ rfl)
  go_simp
  refine hK.out _ _ ((((HS.out).st_RR_1_1 0 m2 m3 r1 rfl)).erase 0) (fun hh => ?_)
  clear hK K b8c0 b8c1 b8c2 b8c3 b8c4 b8c5 b8f0 b8f1 b8f2 b8f3 b8f4 b8f5 b8l
  try simp only [nbs, Act.put]
  generalize hW198 : (((Wd197).setCell _ _).setCell _ _).setCell _ _ = W198 at *
  replace HS := Lib.hid (((HS.out).st_RR_1_1 0 m2 m3 r1 rfl).to hW198 (by (try simp only [nb5, nb6]); rfl))
  clear hW198
  refine wpAnyH_done (by kernel_rfl) ?_ _
  go_wp2_with fail
  rw [rounds_succ]
  go_wp2_with fail
  refine wp_region_held_drew (S := (fun w' => Sx w w' [(ZD108, arr6 m2 r1, 37), (ZC108, arr6 m0 r0, 37), (ZB108, #[.slice (some ⟨ZC108, 0, none⟩) 2 2, .slice (some ⟨ZD108, 0, none⟩) 2 2], 56), (Br97_7, z102q4q5.arr, 37), (ZD6, arr6 r1 m3, 37), (ZC6, arr6 r0 m1, 37), (ZB6, #[.slice (some ⟨ZC6, 0, none⟩) 2 2, .slice (some ⟨ZD6, 0, none⟩) 2 2], 56), (w4.heap.size, #[.bool z102q4q5.b, .slice z102q4q5.a z102q4q5.n z102q4q5.c, .slice z102q4q5.d z102q4q5.m z102q4q5.e, .bool false, .slice none 0 0, .slice none 0 0], 37), (w2.heap.size, z2.arr, 37)] [])) (by kernel_rfl) ((HS.out.drew).bare) (fun hh => ?_)
  replace HS := Lib.hid HS.out.drew
  have HSW := Lib.hid HS.out.bel.size
  refine tkB (i := 0) (v := ?vk200) rfl ?hk200 ?rk200
  case hk200 => intro u hSu; go_simp <;> with_reducible rfl
  try simp only [nbs, Act.put]
  refine tkB (i := 2) (v := ?vk201) rfl ?hk201 ?rk201
  case hk201 => intro u hSu; (try dsimp only at hSu); obtain ⟨qb0c0, qb0c1, qb0c2, _⟩ := fac3 (x := z2) (hSu.at 8 _ _ _ rfl); clear hSu; go_simp <;> with_reducible rfl
  try simp only [nbs, Act.put]
  have HMB202 : MatAt _ (.slice (some ⟨ZB108, 0, none⟩) 2 2) q0 b0 q2 b1 := MatAt.of (HS.out.at 2 _ _ _ rfl) (HS.out.at 1 _ _ _ rfl) (HS.out.at 0 _ _ _ rfl) (HS.out.q 10 _ _ rfl) (HS.out.q 6 _ _ rfl) (HS.out.q 8 _ _ rfl) (HS.out.q 5 _ _ rfl)
  refine wpAnyH_modular [1, 3, 4, 5, 6, 7] [1, 3, 7] [4, 5, 6] [80, 82, 78, 83, 84, 13] #[true, true, true, true, true, true, true, true, false, false] 2 [(1, 80), (3, 82), (4, 78), (5, 83), (6, 84), (7, 13)] [(1, []), (3, [1]), (4, [3]), (5, [4]), (6, [4]), (7, [])] [7] [(1, fun v w => ∃ z203 : R3, v = z203.val ∧ Fr false w z203.val (det2 q0 b0 q2 b1)), (3, fun v w => ∃ z204 : R3, v = .tuple #[z204.val, .int .i64 0] ∧ Fr false w z204.val ((det2 q0 b0 q2 b1) / (det2 q0 q1 q2 q3))), (4, fun v w => ∃ z204q4 : R3, v = .tuple #[z204q4.val, .int .i64 0] ∧ Fr false w z204q4.val ((det2 q0 b0 q2 b1) / (det2 q0 q1 q2 q3))), (5, fun v w => ∃ z204q4q5 : R3, v = z204q4q5.val ∧ Fr false w z204q4q5.val ((det2 q0 b0 q2 b1) / (det2 q0 q1 q2 q3))), (6, fun v w => v = .int .i64 0), (7, fun v w => ∃ Br199_7 : Nat, v = .pointer (some ⟨Br199_7, 0, none⟩) ∧ W198.drew.heap.size ≤ Br199_7 ∧ w.heap[Br199_7]? = some (.cells #[.bool false, .slice none 0 0, .slice none 0 0] 37 (0, 0)))]
   rfl (by kernel_rfl) (by decide) rfl ⟨(fun v w w' hb ⟨z0, e, h0⟩ => ⟨z0, e, Fr.below h0 hb⟩), ⟨(fun v w w' hb ⟨z0, e, h0⟩ => ⟨z0, e, Fr.below h0 hb⟩), ⟨(fun v w w' hb ⟨z0, e, h0⟩ => ⟨z0, e, Fr.below h0 hb⟩), ⟨(fun v w w' hb ⟨z0, e, h0⟩ => ⟨z0, e, Fr.below h0 hb⟩), ⟨(fun v w w' hb e => e), ⟨(fun v w w' hb ⟨B, e, g, k⟩ => ⟨B, e, g, blk_keep k hb (blk_lt k)⟩), trivial⟩⟩⟩⟩⟩⟩ ⟨fun v w ⟨B, e, g, k⟩ => ⟨B, e, blk_lt k⟩, trivial⟩ (fun w' hb => Sx.below hh hb) ⟨?_, ?_, ?_, trivial⟩ ⟨?_, ?_, ?_, trivial⟩ (by decide) ?_
  ·
   refine StepM.of rfl (fun f w' hb hp K hK => ?_)
   have HSB := HS
   replace HS := Lib.hid (HS.out.below hb)
   simp only [fillA, fillT, List.foldl_cons, List.foldl_nil, Act.put, nb4, nb5, nb6]
   go_simp
   go_wp2_with (go_at_call 45; (with_reducible refine (minors_any q0 b0 q2 b1 _ _ (HMB202.below hb) Z0.out Z4.out Z2.out Z5.out).mono ?_); rintro e w203 ⟨v203, rfl, hv203, hb203⟩; obtain ⟨z203, rfl⟩ := hv203.open3)
   exact hK.out _ _ (z203.val) (by simp only [fillA, fillT, List.foldl_cons, List.foldl_nil, Act.put, nb4, nb5, nb6, nb1, nb2, nb3]) ⟨z203, rfl, hv203⟩ (fun h => absurd h (by decide)) hb203
  ·
   refine StepM.of rfl (fun f w' hb hp K hK => ?_)
   obtain ⟨z203, e1, h1_0⟩ : ∃ z203 : R3, f 80 = z203.val ∧ Fr false w' z203.val (det2 q0 b0 q2 b1) := hp 1 (by decide)
   have HSB := HS
   replace HS := Lib.hid (HS.out.below hb)
   replace HS := Lib.hid (HS.out.addQ h1_0)
   simp only [fillA, fillT, List.foldl_cons, List.foldl_nil, Act.put, nb4, nb5, nb6, e1]
   have a205 := HS.out.q 0 _ _ rfl
   have a206 := HS.out.q 5 _ _ rfl
   go_simp
   go_wp2_with (go_at_call 48; (with_reducible refine (qdiv_any (det2 q0 b0 q2 b1) (det2 q0 q1 q2 q3) _ _ _ a205 a206 (szQ_mono (szQ_of (det_sz Z0.out Z4.out Z2.out Z5.out)) (by omega)) (szQ_mono (szQ_of (det_sz Z0.out Z1.out Z2.out Z3.out)) (by omega)) HD0.out).mono ?_); rintro e w204 ⟨v204, rfl, hv204, hb204⟩; obtain ⟨z204, rfl⟩ := hv204.open3)
   exact hK.out _ _ (.tuple #[z204.val, .int .i64 0]) (by simp only [fillA, fillT, List.foldl_cons, List.foldl_nil, Act.put, nb4, nb5, nb6, nb1, nb2, nb3, e1]) ⟨z204, rfl, hv204⟩ (fun h => absurd h (by decide)) hb204
  ·
   refine StepM.of rfl (fun f w' hb hp K hK => ?_)
   have HSB := HS
   replace HS := Lib.hid (HS.out.below hb)
   simp only [fillA, fillT, List.foldl_cons, List.foldl_nil, Act.put, nb4, nb5, nb6]
   go_simp
   exact hK.out _ _ (.pointer (some ⟨w'.heap.size, 0, none⟩)) (by simp only [fillA, fillT, List.foldl_cons, List.foldl_nil, Act.put, nb4, nb5, nb6, nb1, nb2, nb3]) ⟨_, rfl, hb.size, blk_new _ _ _⟩ (fun _ => rfl) (below1 w' _)
  ·
   refine EagerM.of rfl (fun f w' hb hp => ?_)
   obtain ⟨z204, e3, h3_0⟩ : ∃ z204 : R3, f 82 = .tuple #[z204.val, .int .i64 0] ∧ Fr false w' z204.val ((det2 q0 b0 q2 b1) / (det2 q0 q1 q2 q3)) := hp 3 (by decide)
   refine ⟨.tuple #[z204.val, .int .i64 0], ⟨z204, rfl, h3_0⟩, by first | rfl | kernel_rfl, fun u => ?_⟩
   simp only [fillA, fillT, List.foldl_cons, List.foldl_nil, Act.put, nb4, nb5, nb6, e3]
   go_simp <;> with_reducible rfl
  ·
   refine EagerM.of rfl (fun f w' hb hp => ?_)
   obtain ⟨z204q4, e4, h4_0⟩ : ∃ z204q4 : R3, f 78 = .tuple #[z204q4.val, .int .i64 0] ∧ Fr false w' z204q4.val ((det2 q0 b0 q2 b1) / (det2 q0 q1 q2 q3)) := hp 4 (by decide)
   refine ⟨z204q4.val, ⟨z204q4, rfl, h4_0⟩, by first | rfl | kernel_rfl, fun u => ?_⟩
   simp only [fillA, fillT, List.foldl_cons, List.foldl_nil, Act.put, nb4, nb5, nb6, e4]
   go_simp <;> with_reducible rfl
  ·
   refine EagerM.of rfl (fun f w' hb hp => ?_)
   obtain ⟨z204q4, e4, h4_0⟩ : ∃ z204q4 : R3, f 78 = .tuple #[z204q4.val, .int .i64 0] ∧ Fr false w' z204q4.val ((det2 q0 b0 q2 b1) / (det2 q0 q1 q2 q3)) := hp 4 (by decide)
   refine ⟨.int .i64 0, rfl, by first | rfl | kernel_rfl, fun u => ?_⟩
   simp only [fillA, fillT, List.foldl_cons, List.foldl_nil, Act.put, nb4, nb5, nb6, e4]
   go_simp <;> with_reducible rfl
  ·
   intro f wr199 hb hp hd
   obtain ⟨z203, e1, h1_0⟩ : ∃ z203 : R3, f 80 = z203.val ∧ Fr false wr199 z203.val (det2 q0 b0 q2 b1) := hp 1 (by decide)
   obtain ⟨z204, e3, h3_0⟩ : ∃ z204 : R3, f 82 = .tuple #[z204.val, .int .i64 0] ∧ Fr false wr199 z204.val ((det2 q0 b0 q2 b1) / (det2 q0 q1 q2 q3)) := hp 3 (by decide)
   obtain ⟨z204q4, e4, h4_0⟩ : ∃ z204q4 : R3, f 78 = .tuple #[z204q4.val, .int .i64 0] ∧ Fr false wr199 z204q4.val ((det2 q0 b0 q2 b1) / (det2 q0 q1 q2 q3)) := hp 4 (by decide)
   obtain ⟨z204q4q5, e5, h5_0⟩ : ∃ z204q4q5 : R3, f 83 = z204q4q5.val ∧ Fr false wr199 z204q4q5.val ((det2 q0 b0 q2 b1) / (det2 q0 q1 q2 q3)) := hp 5 (by decide)
   obtain e6 : f 84 = .int .i64 0 := hp 6 (by decide)
   obtain ⟨Br199_7, e7, g7, k7⟩ : ∃ Br199_7 : Nat, f 13 = .pointer (some ⟨Br199_7, 0, none⟩) ∧ W198.drew.heap.size ≤ Br199_7 ∧ wr199.heap[Br199_7]? = some (.cells #[.bool false, .slice none 0 0, .slice none 0 0] 37 (0, 0)) := hp 7 (by decide)
   replace hh := Sx.below hh hb
   have hlt := HS.out.lt
   replace HS := Lib.hid (HS.out.below hb)
   replace HS := Lib.hid (HS.out.addQ h1_0)
   replace HS := Lib.hid (HS.out.addQ h3_0)
   replace HS := Lib.hid (HS.out.addQ h4_0)
   replace HS := Lib.hid (HS.out.addQ h5_0)
   have hge7 : w.heap.size ≤ Br199_7 := Nat.le_trans HSW.out g7
   have hne7 : ∀ b, b ∈ ([(ZD108, arr6 m2 r1, 37), (ZC108, arr6 m0 r0, 37), (ZB108, #[.slice (some ⟨ZC108, 0, none⟩) 2 2, .slice (some ⟨ZD108, 0, none⟩) 2 2], 56), (Br97_7, z102q4q5.arr, 37), (ZD6, arr6 r1 m3, 37), (ZC6, arr6 r0 m1, 37), (ZB6, #[.slice (some ⟨ZC6, 0, none⟩) 2 2, .slice (some ⟨ZD6, 0, none⟩) 2 2], 56), (w4.heap.size, #[.bool z102q4q5.b, .slice z102q4q5.a z102q4q5.n z102q4q5.c, .slice z102q4q5.d z102q4q5.m z102q4q5.e, .bool false, .slice none 0 0, .slice none 0 0], 37), (w2.heap.size, z2.arr, 37)] : List Bx) → b.1 ≠ Br199_7 := by
    intro b hb
    simp only [List.mem_cons, List.not_mem_nil, or_false] at hb
    rcases hb with rfl | rfl | rfl | rfl | rfl | rfl | rfl | rfl | rfl
    ·
     have := hlt _ (List.mem_iff_getElem?.2 ⟨0, rfl⟩); dsimp only at this ⊢; omega
    ·
     have := hlt _ (List.mem_iff_getElem?.2 ⟨1, rfl⟩); dsimp only at this ⊢; omega
    ·
     have := hlt _ (List.mem_iff_getElem?.2 ⟨2, rfl⟩); dsimp only at this ⊢; omega
    ·
     have := hlt _ (List.mem_iff_getElem?.2 ⟨3, rfl⟩); dsimp only at this ⊢; omega
    ·
     have := hlt _ (List.mem_iff_getElem?.2 ⟨4, rfl⟩); dsimp only at this ⊢; omega
    ·
     have := hlt _ (List.mem_iff_getElem?.2 ⟨5, rfl⟩); dsimp only at this ⊢; omega
    ·
     have := hlt _ (List.mem_iff_getElem?.2 ⟨6, rfl⟩); dsimp only at this ⊢; omega
    ·
     have := hlt _ (List.mem_iff_getElem?.2 ⟨7, rfl⟩); dsimp only at this ⊢; omega
    ·
     have := hlt _ (List.mem_iff_getElem?.2 ⟨8, rfl⟩); dsimp only at this ⊢; omega
   replace HS := Lib.hid (HS.out.addBox k7 hge7 (by rfl) hne7)
   simp only [fillA, fillT, List.foldl_cons, List.foldl_nil, Act.put, nb4, nb5, nb6, e1, e3, e4, e5, e6, e7]
   clear hp hd hb hlt e1 e3 e4 e5 e6 e7
   refine rdA (i := 8) rfl (fun K hK => ?_)
   have b9e := (HS.out.at 0 _ _ _ rfl)
   have b9c0 := blk_cell b9e 0 (.bool false) rfl
   have b9c1 := blk_cell b9e 1 (.slice none 0 0) rfl
   have b9c2 := blk_cell b9e 2 (.slice none 0 0) rfl
   have b9f0 := blk_frozen b9e 0
   have b9f1 := blk_frozen b9e 1
   have b9f2 := blk_frozen b9e 2
   have b9l := blk_lt b9e
   clear b9e
   go_simp
   refine hK.out _ _ ((((HS.out).st_R 0 r30 z204q4q5 rfl)).erase 0) (fun hh => ?_)
   clear hK K b9c0 b9c1 b9c2 b9f0 b9f1 b9f2 b9l
   try simp only [nbs, Act.put]
   generalize hW207 : (((wr199).setCell _ _).setCell _ _).setCell _ _ = W207 at *
   replace HS := Lib.hid (((HS.out).st_R 0 r30 z204q4q5 rfl).to hW207 (by (try simp only [nb5, nb6]); rfl))
   clear hW207
   refine tkB (i := 9) (v := ?vk208) rfl ?hk208 ?rk208
   case hk208 => intro u hSu; go_simp <;> with_reducible rfl
   try simp only [nbs, Act.put]
   refine wpAnyH_done (by kernel_rfl) ?_ _
   obtain ⟨b9c0, b9c1, b9c2, b9f0, b9f1, b9f2⟩ := fac3 (x := z204q4q5) (HS.out.at 0 _ _ _ rfl)
   have b9l := blk_lt (HS.out.at 0 _ _ _ rfl)
   have b1e := (HS.out.at 8 _ _ _ rfl)
   have b1c0 := blk_cell b1e 0 (.bool z102q4q5.b) rfl
   have b1c1 := blk_cell b1e 1 (.slice z102q4q5.a z102q4q5.n z102q4q5.c) rfl
   have b1c2 := blk_cell b1e 2 (.slice z102q4q5.d z102q4q5.m z102q4q5.e) rfl
   have b1c3 := blk_cell b1e 3 (.bool false) rfl
   have b1c4 := blk_cell b1e 4 (.slice none 0 0) rfl
   have b1c5 := blk_cell b1e 5 (.slice none 0 0) rfl
   have b1f0 := blk_frozen b1e 0
   have b1f1 := blk_frozen b1e 1
   have b1f2 := blk_frozen b1e 2
   have b1f3 := blk_frozen b1e 3
   have b1f4 := blk_frozen b1e 4
   have b1f5 := blk_frozen b1e 5
   have b1l := blk_lt b1e
   clear b1e
   have bn9_1 := HS.out.ne 0 8 rfl rfl (by decide)
   go_wp2_with fail
   clear b9c0 b9c1 b9c2 b9f0 b9f1 b9f2 b9l b1c0 b1c1 b1c2 b1c3 b1c4 b1c5 b1f0 b1f1 b1f2 b1f3 b1f4 b1f5 b1l bn9_1
   generalize hW209 : (((W207).setCell _ _).setCell _ _).setCell _ _ = W209 at *
   replace HS := Lib.hid (((HS.out).st_RR_1_1 8 z102q4q5 r30 z204q4q5 rfl).to hW209 (by (try simp only [nb5, nb6]); rfl))
   clear hW209
   rw [rounds_succ]
   go_wp2_with fail
   go_ret2
   exact ⟨_, rfl, ⟨_, z102q4q5, z204q4q5, rfl, (HS.out.ge 8 _ _ _ rfl), (HS.out.at 8 _ _ _ rfl), (HS.out.q 4 _ _ rfl), (HS.out.q 0 _ _ rfl)⟩, HS.out.bel⟩
end Go.Proofs.YtakempimcbofgaaGreat

namespace Go.Proofs.YtakempimcbofgaaGreat
open Go.RowKit

def RetPtB (b : Bool) (p : Pt) (w : World) (e : Ending) (w' : World) : Prop := e = .returned (.tuple #[.agg #[.int .i64 (cond b p.1 0), .int .i64 (cond b p.2 0)], .int .i64 (cond b 0 1)]) ∧ Below w.heap.size w w'
def RetBkP (b : Bool) (x y : Rat) (w : World) (e : Ending) (w' : World) : Prop := ∃ u v, e = .returned (.tuple #[u, v, .int .i64 (cond b 0 1)]) ∧ IsRat w' u (cond b x 0) ∧ IsRat w' v (cond b y 0) ∧ Below w.heap.size w w'
def RetBkQ (b : Bool) (x y : Rat) (w : World) (e : Ending) (w' : World) : Prop := ∃ u v, e = .returned (.tuple #[u, v, .int .i64 (cond b 0 1)]) ∧ IsR w' u (cond b x 0) ∧ IsR w' v (cond b y 0) ∧ Below w.heap.size w w'
theorem isRightOne (x y : Int) (w : World) {B T : Nat} (h : w.heap[B]? = some (.cells #[.int .i64 x, .int .i64 y] T (0, 0))) : Calls Tryz.prog 16 #[.slice (some ⟨B, 0, none⟩) 1 1] w (RetBool (ptOk (x, y)) w) := by
 have hp : PairsOf w (.slice (some ⟨B, 0, none⟩) 1 1) [(x, y)] := ⟨_, 1, rfl, fun _ => ⟨B, 0, rfl, blk_lt h, fun i hi => by
  match i, hi with
  | 0, _ => exact ⟨blk_cell h 0 _ rfl, blk_cell h 1 _ rfl⟩
  | i + 1, hi => simp at hi⟩⟩
 have := isRight_any [(x, y)] _ w hp (by simp)
 rw [show ptsOk [(x, y)] = ptOk (x, y) by simp [ptsOk]] at this
 exact this
theorem Sx.st_II {w0 w : World} {bs : List Bx} {fs : List Fx} (h : Sx w0 w bs fs) (i : Nat) (o0 : Int) (o1 : Int) (n0 : Int) (n1 : Int) {B T : Nat} (hi : bs[i]? = some (B, #[.int .i64 o0, .int .i64 o1], T)) :
  Sx w0 (((w).setCell ⟨B, 0, none⟩ (.int .i64 n0)).setCell ⟨B, 1, none⟩ (.int .i64 n1)) (bs.set i (B, #[.int .i64 n0, .int .i64 n1], T)) fs := by
 have hl := (List.getElem?_eq_some_iff.1 hi).1
 have g := ((h).set i hi 0 (v := .int .i64 n0) rfl).set i (by rw [List.getElem?_set, if_pos rfl, if_pos (by simpa using hl)]) 1 (v := .int .i64 n1) rfl
 simpa using g
set_option maxRecDepth 100000 in
set_option maxHeartbeats 8000000 in
theorem checkDir_any (a b : Int) (w : World) : Calls Tryz.prog 12 #[.agg #[.int .i64 a, .int .i64 b]] w (RetInt (dirE (a, b)) w) := by
 have HS := Lib.hid (Sx.init w)
 have HR : Hid (dirE (a, b) = errB (!(a == 0 && b == 0) && (inL a (-1048576) 1048576 && inL b (-1048576) 1048576))) := rfl
 go_enter Tryz.func12, Tryz.ntmps12
 cases t1 : (a == 0 && b == 0) with
 | true =>
  have he := eql_dir a b 0 0
  rw [t1] at he
  go_wp2_with fail
  generalize hW2 : (w).alloc (.cells _ _) = W2 at *
  replace HS := Lib.hid (((HS.out).alloc (B := w.heap.size) rfl (by rfl)).to hW2 (by (try simp only [nb5, nb6]); rfl))
  clear hW2
  go_ret
  exact ⟨by rw [HR.out, t1] <;> rfl, HS.out.bel⟩
 | false =>
  have he := eql_dir a b 0 0
  rw [t1] at he
  go_wp2_with fail
  generalize hW3 : (w).alloc (.cells _ _) = W3 at *
  replace HS := Lib.hid (((HS.out).alloc (B := w.heap.size) rfl (by rfl)).to hW3 (by (try simp only [nb5, nb6]); rfl))
  clear hW3
  cases t4 : inL a (-1048576) 1048576 with
  | true =>
   refine (within_any a (-1048576) 1048576 _).mono ?_
   rw [t4]
   rintro e w5 ⟨rfl, hb5⟩
   replace HS := Lib.hid (HS.out.below hb5)
   clear hb5
   have b0e := (HS.out.at 0 _ _ _ rfl)
   have b0c0 := blk_cell b0e 0 (.int .i64 a) rfl
   have b0c1 := blk_cell b0e 1 (.int .i64 b) rfl
   have b0f0 := blk_frozen b0e 0
   have b0f1 := blk_frozen b0e 1
   have b0l := blk_lt b0e
   clear b0e
   go_wp2_with fail
   clear b0c0 b0c1 b0f0 b0f1 b0l
   cases t6 : inL b (-1048576) 1048576 with
   | true =>
    refine (within_any b (-1048576) 1048576 _).mono ?_
    rw [t6]
    rintro e w7 ⟨rfl, hb7⟩
    replace HS := Lib.hid (HS.out.below hb7)
    clear hb7
    go_wp2_with fail
    go_ret
    exact ⟨by rw [HR.out, t1, t4, t6] <;> rfl, HS.out.bel⟩
   | false =>
    refine (within_any b (-1048576) 1048576 _).mono ?_
    rw [t6]
    rintro e w8 ⟨rfl, hb8⟩
    replace HS := Lib.hid (HS.out.below hb8)
    clear hb8
    go_wp2_with fail
    go_ret
    exact ⟨by rw [HR.out, t1, t4, t6] <;> rfl, HS.out.bel⟩
  | false =>
   refine (within_any a (-1048576) 1048576 _).mono ?_
   rw [t4]
   rintro e w9 ⟨rfl, hb9⟩
   replace HS := Lib.hid (HS.out.below hb9)
   clear hb9
   go_wp2_with fail
   go_ret
   exact ⟨by rw [HR.out, t1, t4] <;> rfl, HS.out.bel⟩
set_option maxRecDepth 100000 in
set_option maxHeartbeats 8000000 in
theorem direction_any (a b : Int) (w : World) : Calls Tryz.prog 14 #[.agg #[.int .i64 a, .int .i64 b]] w (RetInt (dirE (a, b)) w) := by
 have HS := Lib.hid (Sx.init w)
 have HR : Hid (dirE (a, b) = errB (!(a == 0 && b == 0) && (inL a (-1048576) 1048576 && inL b (-1048576) 1048576))) := rfl
 go_enter Tryz.func14, Tryz.ntmps14
 cases t1 : (a == 0) with
 | true =>
  cases t2 : (b == 0) with
  | true =>
   go_wp2_with fail
   generalize hW3 : (w).alloc (.cells _ _) = W3 at *
   replace HS := Lib.hid (((HS.out).alloc (B := w.heap.size) rfl (by rfl)).to hW3 (by (try simp only [nb5, nb6]); rfl))
   clear hW3
   go_ret
   exact ⟨by rw [HR.out, t1, t2] <;> rfl, HS.out.bel⟩
  | false =>
   go_wp2_with fail
   generalize hW4 : (w).alloc (.cells _ _) = W4 at *
   replace HS := Lib.hid (((HS.out).alloc (B := w.heap.size) rfl (by rfl)).to hW4 (by (try simp only [nb5, nb6]); rfl))
   clear hW4
   cases t5 : inL a (-1048576) 1048576 with
   | true =>
    refine (rwithin_any a 1048576 _ (by omega)).mono ?_
    rw [t5]
    rintro e w6 ⟨rfl, hb6⟩
    replace HS := Lib.hid (HS.out.below hb6)
    clear hb6
    have b0e := (HS.out.at 0 _ _ _ rfl)
    have b0c0 := blk_cell b0e 0 (.int .i64 a) rfl
    have b0c1 := blk_cell b0e 1 (.int .i64 b) rfl
    have b0f0 := blk_frozen b0e 0
    have b0f1 := blk_frozen b0e 1
    have b0l := blk_lt b0e
    clear b0e
    go_wp2_with fail
    clear b0c0 b0c1 b0f0 b0f1 b0l
    cases t7 : inL b (-1048576) 1048576 with
    | true =>
     refine (rwithin_any b 1048576 _ (by omega)).mono ?_
     rw [t7]
     rintro e w8 ⟨rfl, hb8⟩
     replace HS := Lib.hid (HS.out.below hb8)
     clear hb8
     go_wp2_with fail
     go_ret
     exact ⟨by rw [HR.out, t1, t2, t5, t7] <;> rfl, HS.out.bel⟩
    | false =>
     refine (rwithin_any b 1048576 _ (by omega)).mono ?_
     rw [t7]
     rintro e w9 ⟨rfl, hb9⟩
     replace HS := Lib.hid (HS.out.below hb9)
     clear hb9
     go_wp2_with fail
     go_ret
     exact ⟨by rw [HR.out, t1, t2, t5, t7] <;> rfl, HS.out.bel⟩
   | false =>
    refine (rwithin_any a 1048576 _ (by omega)).mono ?_
    rw [t5]
    rintro e w10 ⟨rfl, hb10⟩
    replace HS := Lib.hid (HS.out.below hb10)
    clear hb10
    go_wp2_with fail
    go_ret
    exact ⟨by rw [HR.out, t1, t2, t5] <;> rfl, HS.out.bel⟩
 | false =>
  go_wp2_with fail
  generalize hW11 : (w).alloc (.cells _ _) = W11 at *
  replace HS := Lib.hid (((HS.out).alloc (B := w.heap.size) rfl (by rfl)).to hW11 (by (try simp only [nb5, nb6]); rfl))
  clear hW11
  cases t12 : inL a (-1048576) 1048576 with
  | true =>
   refine (rwithin_any a 1048576 _ (by omega)).mono ?_
   rw [t12]
   rintro e w13 ⟨rfl, hb13⟩
   replace HS := Lib.hid (HS.out.below hb13)
   clear hb13
   have b0e := (HS.out.at 0 _ _ _ rfl)
   have b0c0 := blk_cell b0e 0 (.int .i64 a) rfl
   have b0c1 := blk_cell b0e 1 (.int .i64 b) rfl
   have b0f0 := blk_frozen b0e 0
   have b0f1 := blk_frozen b0e 1
   have b0l := blk_lt b0e
   clear b0e
   go_wp2_with fail
   clear b0c0 b0c1 b0f0 b0f1 b0l
   cases t14 : inL b (-1048576) 1048576 with
   | true =>
    refine (rwithin_any b 1048576 _ (by omega)).mono ?_
    rw [t14]
    rintro e w15 ⟨rfl, hb15⟩
    replace HS := Lib.hid (HS.out.below hb15)
    clear hb15
    go_wp2_with fail
    go_ret
    exact ⟨by rw [HR.out, t1, t12, t14] <;> rfl, HS.out.bel⟩
   | false =>
    refine (rwithin_any b 1048576 _ (by omega)).mono ?_
    rw [t14]
    rintro e w16 ⟨rfl, hb16⟩
    replace HS := Lib.hid (HS.out.below hb16)
    clear hb16
    go_wp2_with fail
    go_ret
    exact ⟨by rw [HR.out, t1, t12, t14] <;> rfl, HS.out.bel⟩
  | false =>
   refine (rwithin_any a 1048576 _ (by omega)).mono ?_
   rw [t12]
   rintro e w17 ⟨rfl, hb17⟩
   replace HS := Lib.hid (HS.out.below hb17)
   clear hb17
   go_wp2_with fail
   go_ret
   exact ⟨by rw [HR.out, t1, t12] <;> rfl, HS.out.bel⟩
set_option maxRecDepth 100000 in
set_option maxHeartbeats 8000000 in
theorem turned_any (a b x y : Int) (w : World) : Calls Tryz.prog 4 #[.agg #[.int .i64 a, .int .i64 b], .agg #[.int .i64 x, .int .i64 y]] w (RetPtB (turnB (a, b) (x, y)) (turnI (a, b) (x, y)) w) := by
 have HS := Lib.hid (Sx.init w)
 have HR : Hid (turnB (a, b) (x, y) = (dirB (a, b) && (inL x (-1048576) 1048576 && inL y (-1048576) 1048576))) := rfl
 have e0 : Hid (dirB (a, b) = true → inL x (-1048576) 1048576 = true → inL y (-1048576) 1048576 = true → IntKind.i64.wrap (a * x) = (a * x)) := fun h1 h2 h3 => by
  have r1 := (dir_range h1).1
  have r2 := (dir_range h1).2
  have r3 := inL_range h2
  have r4 := inL_range h3
  dsimp only at r1 r2
  have m1 := mul_absT r1 r3
  have m2 := mul_absT r2 r4
  have m3 := mul_absT r1 r4
  have m4 := mul_absT r2 r3
  exact IntWalk.i64_in _ (by omega)
 have e1 : Hid (dirB (a, b) = true → inL x (-1048576) 1048576 = true → inL y (-1048576) 1048576 = true → IntKind.i64.wrap (b * y) = (b * y)) := fun h1 h2 h3 => by
  have r1 := (dir_range h1).1
  have r2 := (dir_range h1).2
  have r3 := inL_range h2
  have r4 := inL_range h3
  dsimp only at r1 r2
  have m1 := mul_absT r1 r3
  have m2 := mul_absT r2 r4
  have m3 := mul_absT r1 r4
  have m4 := mul_absT r2 r3
  exact IntWalk.i64_in _ (by omega)
 have e2 : Hid (dirB (a, b) = true → inL x (-1048576) 1048576 = true → inL y (-1048576) 1048576 = true → IntKind.i64.wrap (a * y) = (a * y)) := fun h1 h2 h3 => by
  have r1 := (dir_range h1).1
  have r2 := (dir_range h1).2
  have r3 := inL_range h2
  have r4 := inL_range h3
  dsimp only at r1 r2
  have m1 := mul_absT r1 r3
  have m2 := mul_absT r2 r4
  have m3 := mul_absT r1 r4
  have m4 := mul_absT r2 r3
  exact IntWalk.i64_in _ (by omega)
 have e3 : Hid (dirB (a, b) = true → inL x (-1048576) 1048576 = true → inL y (-1048576) 1048576 = true → IntKind.i64.wrap (b * x) = (b * x)) := fun h1 h2 h3 => by
  have r1 := (dir_range h1).1
  have r2 := (dir_range h1).2
  have r3 := inL_range h2
  have r4 := inL_range h3
  dsimp only at r1 r2
  have m1 := mul_absT r1 r3
  have m2 := mul_absT r2 r4
  have m3 := mul_absT r1 r4
  have m4 := mul_absT r2 r3
  exact IntWalk.i64_in _ (by omega)
 have e4 : Hid (dirB (a, b) = true → inL x (-1048576) 1048576 = true → inL y (-1048576) 1048576 = true → IntKind.i64.wrap (a * x + b * y) = (a * x + b * y)) := fun h1 h2 h3 => by
  have r1 := (dir_range h1).1
  have r2 := (dir_range h1).2
  have r3 := inL_range h2
  have r4 := inL_range h3
  dsimp only at r1 r2
  have m1 := mul_absT r1 r3
  have m2 := mul_absT r2 r4
  have m3 := mul_absT r1 r4
  have m4 := mul_absT r2 r3
  exact IntWalk.i64_in _ (by omega)
 have e5 : Hid (dirB (a, b) = true → inL x (-1048576) 1048576 = true → inL y (-1048576) 1048576 = true → IntKind.i64.wrap (a * y - b * x) = (a * y - b * x)) := fun h1 h2 h3 => by
  have r1 := (dir_range h1).1
  have r2 := (dir_range h1).2
  have r3 := inL_range h2
  have r4 := inL_range h3
  dsimp only at r1 r2
  have m1 := mul_absT r1 r3
  have m2 := mul_absT r2 r4
  have m3 := mul_absT r1 r4
  have m4 := mul_absT r2 r3
  exact IntWalk.i64_in _ (by omega)
 go_enter Tryz.func4, Tryz.ntmps4
 go_wp2_with fail
 generalize hW1 : (((w).alloc (.cells _ _)).alloc (.cells _ _)).alloc (.cells _ _) = W1 at *
 replace HS := Lib.hid (((((HS.out).alloc (B := w.heap.size) rfl (by rfl)).alloc (B := w.heap.size + 1) (by simp) (by rfl)).alloc (B := w.heap.size + 2) (by simp) (by rfl)).to hW1 (by (try simp only [nb5, nb6]); rfl))
 clear hW1
 cases t2 : dirB (a, b) with
 | true =>
  refine (checkDir_any a b _).mono ?_
  rw [show dirE (a, b) = 0 from by unfold dirE; rw [t2]; rfl]
  rintro e w3 ⟨rfl, hb3⟩
  replace HS := Lib.hid (HS.out.below hb3)
  clear hb3
  have b1e := (HS.out.at 1 _ _ _ rfl)
  have b1c0 := blk_cell b1e 0 (.int .i64 x) rfl
  have b1c1 := blk_cell b1e 1 (.int .i64 y) rfl
  have b1f0 := blk_frozen b1e 0
  have b1f1 := blk_frozen b1e 1
  have b1l := blk_lt b1e
  clear b1e
  go_wp2_with fail
  clear b1c0 b1c1 b1f0 b1f1 b1l
  cases t4 : inL x (-1048576) 1048576 with
  | true =>
   refine (within_any x (-1048576) 1048576 _).mono ?_
   rw [t4]
   rintro e w5 ⟨rfl, hb5⟩
   replace HS := Lib.hid (HS.out.below hb5)
   clear hb5
   have b1e := (HS.out.at 1 _ _ _ rfl)
   have b1c0 := blk_cell b1e 0 (.int .i64 x) rfl
   have b1c1 := blk_cell b1e 1 (.int .i64 y) rfl
   have b1f0 := blk_frozen b1e 0
   have b1f1 := blk_frozen b1e 1
   have b1l := blk_lt b1e
   clear b1e
   go_wp2_with fail
   clear b1c0 b1c1 b1f0 b1f1 b1l
   cases t6 : inL y (-1048576) 1048576 with
   | true =>
    have f0 := e0.out t2 t4 t6
    have f1 := e1.out t2 t4 t6
    have f2 := e2.out t2 t4 t6
    have f3 := e3.out t2 t4 t6
    have f4 := e4.out t2 t4 t6
    have f5 := e5.out t2 t4 t6
    refine (within_any y (-1048576) 1048576 _).mono ?_
    rw [t6]
    rintro e w7 ⟨rfl, hb7⟩
    replace HS := Lib.hid (HS.out.below hb7)
    clear hb7
    have b0e := (HS.out.at 2 _ _ _ rfl)
    have b0c0 := blk_cell b0e 0 (.int .i64 a) rfl
    have b0c1 := blk_cell b0e 1 (.int .i64 b) rfl
    have b0f0 := blk_frozen b0e 0
    have b0f1 := blk_frozen b0e 1
    have b0l := blk_lt b0e
    clear b0e
    have b1e := (HS.out.at 1 _ _ _ rfl)
    have b1c0 := blk_cell b1e 0 (.int .i64 x) rfl
    have b1c1 := blk_cell b1e 1 (.int .i64 y) rfl
    have b1f0 := blk_frozen b1e 0
    have b1f1 := blk_frozen b1e 1
    have b1l := blk_lt b1e
    clear b1e
    have b2e := (HS.out.at 0 _ _ _ rfl)
    have b2c0 := blk_cell b2e 0 (.int .i64 0) rfl
    have b2c1 := blk_cell b2e 1 (.int .i64 0) rfl
    have b2f0 := blk_frozen b2e 0
    have b2f1 := blk_frozen b2e 1
    have b2l := blk_lt b2e
    clear b2e
    go_wp2_with fail
    clear b0c0 b0c1 b0f0 b0f1 b0l b1c0 b1c1 b1f0 b1f1 b1l b2c0 b2c1 b2f0 b2f1 b2l
    generalize hW8 : ((w7).setCell _ _).setCell _ _ = W8 at *
    replace HS := Lib.hid (((HS.out).st_II 0 0 0 ((a * x) + (b * y)) ((a * y) - (b * x)) rfl).to hW8 (by (try simp only [nb5, nb6]); rfl))
    clear hW8
    have b2e := (HS.out.at 0 _ _ _ rfl)
    have b2c0 := blk_cell b2e 0 (.int .i64 ((a * x) + (b * y))) rfl
    have b2c1 := blk_cell b2e 1 (.int .i64 ((a * y) - (b * x))) rfl
    clear b2e
    refine bodyPost_ret (v := .tuple #[.agg #[.int .i64 ((a * x) + (b * y)), .int .i64 ((a * y) - (b * x))], .int .i64 0]) (by simp [results, Tryz.results4, go_sem, b2c0, b2c1]) rfl ⟨by rw [HR.out, t2, t4, t6] <;> rfl, HS.out.bel⟩
   | false =>
    refine (within_any y (-1048576) 1048576 _).mono ?_
    rw [t6]
    rintro e w9 ⟨rfl, hb9⟩
    replace HS := Lib.hid (HS.out.below hb9)
    clear hb9
    have b2e := (HS.out.at 0 _ _ _ rfl)
    have b2c0 := blk_cell b2e 0 (.int .i64 0) rfl
    have b2c1 := blk_cell b2e 1 (.int .i64 0) rfl
    have b2f0 := blk_frozen b2e 0
    have b2f1 := blk_frozen b2e 1
    have b2l := blk_lt b2e
    clear b2e
    go_wp2_with fail
    clear b2c0 b2c1 b2f0 b2f1 b2l
    generalize hW10 : ((w9).setCell _ _).setCell _ _ = W10 at *
    replace HS := Lib.hid (((HS.out).st_II 0 0 0 0 0 rfl).to hW10 (by (try simp only [nb5, nb6]); rfl))
    clear hW10
    have b2e := (HS.out.at 0 _ _ _ rfl)
    have b2c0 := blk_cell b2e 0 (.int .i64 0) rfl
    have b2c1 := blk_cell b2e 1 (.int .i64 0) rfl
    clear b2e
    refine bodyPost_ret (v := .tuple #[.agg #[.int .i64 0, .int .i64 0], .int .i64 1]) (by simp [results, Tryz.results4, go_sem, b2c0, b2c1]) rfl ⟨by rw [HR.out, t2, t4, t6] <;> rfl, HS.out.bel⟩
  | false =>
   refine (within_any x (-1048576) 1048576 _).mono ?_
   rw [t4]
   rintro e w11 ⟨rfl, hb11⟩
   replace HS := Lib.hid (HS.out.below hb11)
   clear hb11
   have b2e := (HS.out.at 0 _ _ _ rfl)
   have b2c0 := blk_cell b2e 0 (.int .i64 0) rfl
   have b2c1 := blk_cell b2e 1 (.int .i64 0) rfl
   have b2f0 := blk_frozen b2e 0
   have b2f1 := blk_frozen b2e 1
   have b2l := blk_lt b2e
   clear b2e
   go_wp2_with fail
   clear b2c0 b2c1 b2f0 b2f1 b2l
   generalize hW12 : ((w11).setCell _ _).setCell _ _ = W12 at *
   replace HS := Lib.hid (((HS.out).st_II 0 0 0 0 0 rfl).to hW12 (by (try simp only [nb5, nb6]); rfl))
   clear hW12
   have b2e := (HS.out.at 0 _ _ _ rfl)
   have b2c0 := blk_cell b2e 0 (.int .i64 0) rfl
   have b2c1 := blk_cell b2e 1 (.int .i64 0) rfl
   clear b2e
   refine bodyPost_ret (v := .tuple #[.agg #[.int .i64 0, .int .i64 0], .int .i64 1]) (by simp [results, Tryz.results4, go_sem, b2c0, b2c1]) rfl ⟨by rw [HR.out, t2, t4] <;> rfl, HS.out.bel⟩
 | false =>
  refine (checkDir_any a b _).mono ?_
  rw [show dirE (a, b) = 1 from by unfold dirE; rw [t2]; rfl]
  rintro e w13 ⟨rfl, hb13⟩
  replace HS := Lib.hid (HS.out.below hb13)
  clear hb13
  have b2e := (HS.out.at 0 _ _ _ rfl)
  have b2c0 := blk_cell b2e 0 (.int .i64 0) rfl
  have b2c1 := blk_cell b2e 1 (.int .i64 0) rfl
  have b2f0 := blk_frozen b2e 0
  have b2f1 := blk_frozen b2e 1
  have b2l := blk_lt b2e
  clear b2e
  go_wp2_with fail
  clear b2c0 b2c1 b2f0 b2f1 b2l
  generalize hW14 : ((w13).setCell _ _).setCell _ _ = W14 at *
  replace HS := Lib.hid (((HS.out).st_II 0 0 0 0 0 rfl).to hW14 (by (try simp only [nb5, nb6]); rfl))
  clear hW14
  have b2e := (HS.out.at 0 _ _ _ rfl)
  have b2c0 := blk_cell b2e 0 (.int .i64 0) rfl
  have b2c1 := blk_cell b2e 1 (.int .i64 0) rfl
  clear b2e
  refine bodyPost_ret (v := .tuple #[.agg #[.int .i64 0, .int .i64 0], .int .i64 1]) (by simp [results, Tryz.results4, go_sem, b2c0, b2c1]) rfl ⟨by rw [HR.out, t2] <;> rfl, HS.out.bel⟩
set_option maxRecDepth 100000 in
set_option maxHeartbeats 8000000 in
theorem rturned_any (a b x y : Int) (w : World) : Calls Tryz.prog 5 #[.agg #[.int .i64 a, .int .i64 b], .agg #[.int .i64 x, .int .i64 y]] w (RetPtB (turnB (a, b) (x, y)) (turnI (a, b) (x, y)) w) := by
 have HS := Lib.hid (Sx.init w)
 have HR : Hid (turnB (a, b) (x, y) = (dirB (a, b) && (inL x (-1048576) 1048576 && inL y (-1048576) 1048576))) := rfl
 have e0 : Hid (dirB (a, b) = true → inL x (-1048576) 1048576 = true → inL y (-1048576) 1048576 = true → IntKind.i64.wrap (a * x) = (a * x)) := fun h1 h2 h3 => by
  have r1 := (dir_range h1).1
  have r2 := (dir_range h1).2
  have r3 := inL_range h2
  have r4 := inL_range h3
  dsimp only at r1 r2
  have m1 := mul_absT r1 r3
  have m2 := mul_absT r2 r4
  have m3 := mul_absT r1 r4
  have m4 := mul_absT r2 r3
  exact IntWalk.i64_in _ (by omega)
 have e1 : Hid (dirB (a, b) = true → inL x (-1048576) 1048576 = true → inL y (-1048576) 1048576 = true → IntKind.i64.wrap (b * y) = (b * y)) := fun h1 h2 h3 => by
  have r1 := (dir_range h1).1
  have r2 := (dir_range h1).2
  have r3 := inL_range h2
  have r4 := inL_range h3
  dsimp only at r1 r2
  have m1 := mul_absT r1 r3
  have m2 := mul_absT r2 r4
  have m3 := mul_absT r1 r4
  have m4 := mul_absT r2 r3
  exact IntWalk.i64_in _ (by omega)
 have e2 : Hid (dirB (a, b) = true → inL x (-1048576) 1048576 = true → inL y (-1048576) 1048576 = true → IntKind.i64.wrap (a * y) = (a * y)) := fun h1 h2 h3 => by
  have r1 := (dir_range h1).1
  have r2 := (dir_range h1).2
  have r3 := inL_range h2
  have r4 := inL_range h3
  dsimp only at r1 r2
  have m1 := mul_absT r1 r3
  have m2 := mul_absT r2 r4
  have m3 := mul_absT r1 r4
  have m4 := mul_absT r2 r3
  exact IntWalk.i64_in _ (by omega)
 have e3 : Hid (dirB (a, b) = true → inL x (-1048576) 1048576 = true → inL y (-1048576) 1048576 = true → IntKind.i64.wrap (b * x) = (b * x)) := fun h1 h2 h3 => by
  have r1 := (dir_range h1).1
  have r2 := (dir_range h1).2
  have r3 := inL_range h2
  have r4 := inL_range h3
  dsimp only at r1 r2
  have m1 := mul_absT r1 r3
  have m2 := mul_absT r2 r4
  have m3 := mul_absT r1 r4
  have m4 := mul_absT r2 r3
  exact IntWalk.i64_in _ (by omega)
 have e4 : Hid (dirB (a, b) = true → inL x (-1048576) 1048576 = true → inL y (-1048576) 1048576 = true → IntKind.i64.wrap (a * x + b * y) = (a * x + b * y)) := fun h1 h2 h3 => by
  have r1 := (dir_range h1).1
  have r2 := (dir_range h1).2
  have r3 := inL_range h2
  have r4 := inL_range h3
  dsimp only at r1 r2
  have m1 := mul_absT r1 r3
  have m2 := mul_absT r2 r4
  have m3 := mul_absT r1 r4
  have m4 := mul_absT r2 r3
  exact IntWalk.i64_in _ (by omega)
 have e5 : Hid (dirB (a, b) = true → inL x (-1048576) 1048576 = true → inL y (-1048576) 1048576 = true → IntKind.i64.wrap (a * y - b * x) = (a * y - b * x)) := fun h1 h2 h3 => by
  have r1 := (dir_range h1).1
  have r2 := (dir_range h1).2
  have r3 := inL_range h2
  have r4 := inL_range h3
  dsimp only at r1 r2
  have m1 := mul_absT r1 r3
  have m2 := mul_absT r2 r4
  have m3 := mul_absT r1 r4
  have m4 := mul_absT r2 r3
  exact IntWalk.i64_in _ (by omega)
 go_enter Tryz.func5, Tryz.ntmps5
 go_wp2_with fail
 generalize hW1 : (((w).alloc (.cells _ _)).alloc (.cells _ _)).alloc (.cells _ _) = W1 at *
 replace HS := Lib.hid (((((HS.out).alloc (B := w.heap.size) rfl (by rfl)).alloc (B := w.heap.size + 1) (by simp) (by rfl)).alloc (B := w.heap.size + 2) (by simp) (by rfl)).to hW1 (by (try simp only [nb5, nb6]); rfl))
 clear hW1
 cases t2 : dirB (a, b) with
 | true =>
  refine (direction_any a b _).mono ?_
  rw [show dirE (a, b) = 0 from by unfold dirE; rw [t2]; rfl]
  rintro e w3 ⟨rfl, hb3⟩
  replace HS := Lib.hid (HS.out.below hb3)
  clear hb3
  have b1e := (HS.out.at 1 _ _ _ rfl)
  have b1c0 := blk_cell b1e 0 (.int .i64 x) rfl
  have b1c1 := blk_cell b1e 1 (.int .i64 y) rfl
  have b1f0 := blk_frozen b1e 0
  have b1f1 := blk_frozen b1e 1
  have b1l := blk_lt b1e
  clear b1e
  go_wp2_with fail
  clear b1c0 b1c1 b1f0 b1f1 b1l
  cases t4 : inL x (-1048576) 1048576 with
  | true =>
   refine (rwithin_any x 1048576 _ (by omega)).mono ?_
   rw [t4]
   rintro e w5 ⟨rfl, hb5⟩
   replace HS := Lib.hid (HS.out.below hb5)
   clear hb5
   have b1e := (HS.out.at 1 _ _ _ rfl)
   have b1c0 := blk_cell b1e 0 (.int .i64 x) rfl
   have b1c1 := blk_cell b1e 1 (.int .i64 y) rfl
   have b1f0 := blk_frozen b1e 0
   have b1f1 := blk_frozen b1e 1
   have b1l := blk_lt b1e
   clear b1e
   go_wp2_with fail
   clear b1c0 b1c1 b1f0 b1f1 b1l
   cases t6 : inL y (-1048576) 1048576 with
   | true =>
    have f0 := e0.out t2 t4 t6
    have f1 := e1.out t2 t4 t6
    have f2 := e2.out t2 t4 t6
    have f3 := e3.out t2 t4 t6
    have f4 := e4.out t2 t4 t6
    have f5 := e5.out t2 t4 t6
    refine (rwithin_any y 1048576 _ (by omega)).mono ?_
    rw [t6]
    rintro e w7 ⟨rfl, hb7⟩
    replace HS := Lib.hid (HS.out.below hb7)
    clear hb7
    have b0e := (HS.out.at 2 _ _ _ rfl)
    have b0c0 := blk_cell b0e 0 (.int .i64 a) rfl
    have b0c1 := blk_cell b0e 1 (.int .i64 b) rfl
    have b0f0 := blk_frozen b0e 0
    have b0f1 := blk_frozen b0e 1
    have b0l := blk_lt b0e
    clear b0e
    have b1e := (HS.out.at 1 _ _ _ rfl)
    have b1c0 := blk_cell b1e 0 (.int .i64 x) rfl
    have b1c1 := blk_cell b1e 1 (.int .i64 y) rfl
    have b1f0 := blk_frozen b1e 0
    have b1f1 := blk_frozen b1e 1
    have b1l := blk_lt b1e
    clear b1e
    have b2e := (HS.out.at 0 _ _ _ rfl)
    have b2c0 := blk_cell b2e 0 (.int .i64 0) rfl
    have b2c1 := blk_cell b2e 1 (.int .i64 0) rfl
    have b2f0 := blk_frozen b2e 0
    have b2f1 := blk_frozen b2e 1
    have b2l := blk_lt b2e
    clear b2e
    go_wp2_with fail
    clear b0c0 b0c1 b0f0 b0f1 b0l b1c0 b1c1 b1f0 b1f1 b1l b2c0 b2c1 b2f0 b2f1 b2l
    generalize hW8 : ((w7).setCell _ _).setCell _ _ = W8 at *
    replace HS := Lib.hid (((HS.out).st_II 0 0 0 ((a * x) + (b * y)) ((a * y) - (b * x)) rfl).to hW8 (by (try simp only [nb5, nb6]); rfl))
    clear hW8
    have b2e := (HS.out.at 0 _ _ _ rfl)
    have b2c0 := blk_cell b2e 0 (.int .i64 ((a * x) + (b * y))) rfl
    have b2c1 := blk_cell b2e 1 (.int .i64 ((a * y) - (b * x))) rfl
    clear b2e
    refine bodyPost_ret (v := .tuple #[.agg #[.int .i64 ((a * x) + (b * y)), .int .i64 ((a * y) - (b * x))], .int .i64 0]) (by simp [results, Tryz.results5, go_sem, b2c0, b2c1]) rfl ⟨by rw [HR.out, t2, t4, t6] <;> rfl, HS.out.bel⟩
   | false =>
    refine (rwithin_any y 1048576 _ (by omega)).mono ?_
    rw [t6]
    rintro e w9 ⟨rfl, hb9⟩
    replace HS := Lib.hid (HS.out.below hb9)
    clear hb9
    have b2e := (HS.out.at 0 _ _ _ rfl)
    have b2c0 := blk_cell b2e 0 (.int .i64 0) rfl
    have b2c1 := blk_cell b2e 1 (.int .i64 0) rfl
    have b2f0 := blk_frozen b2e 0
    have b2f1 := blk_frozen b2e 1
    have b2l := blk_lt b2e
    clear b2e
    go_wp2_with fail
    clear b2c0 b2c1 b2f0 b2f1 b2l
    generalize hW10 : ((w9).setCell _ _).setCell _ _ = W10 at *
    replace HS := Lib.hid (((HS.out).st_II 0 0 0 0 0 rfl).to hW10 (by (try simp only [nb5, nb6]); rfl))
    clear hW10
    have b2e := (HS.out.at 0 _ _ _ rfl)
    have b2c0 := blk_cell b2e 0 (.int .i64 0) rfl
    have b2c1 := blk_cell b2e 1 (.int .i64 0) rfl
    clear b2e
    refine bodyPost_ret (v := .tuple #[.agg #[.int .i64 0, .int .i64 0], .int .i64 1]) (by simp [results, Tryz.results5, go_sem, b2c0, b2c1]) rfl ⟨by rw [HR.out, t2, t4, t6] <;> rfl, HS.out.bel⟩
  | false =>
   refine (rwithin_any x 1048576 _ (by omega)).mono ?_
   rw [t4]
   rintro e w11 ⟨rfl, hb11⟩
   replace HS := Lib.hid (HS.out.below hb11)
   clear hb11
   have b2e := (HS.out.at 0 _ _ _ rfl)
   have b2c0 := blk_cell b2e 0 (.int .i64 0) rfl
   have b2c1 := blk_cell b2e 1 (.int .i64 0) rfl
   have b2f0 := blk_frozen b2e 0
   have b2f1 := blk_frozen b2e 1
   have b2l := blk_lt b2e
   clear b2e
   go_wp2_with fail
   clear b2c0 b2c1 b2f0 b2f1 b2l
   generalize hW12 : ((w11).setCell _ _).setCell _ _ = W12 at *
   replace HS := Lib.hid (((HS.out).st_II 0 0 0 0 0 rfl).to hW12 (by (try simp only [nb5, nb6]); rfl))
   clear hW12
   have b2e := (HS.out.at 0 _ _ _ rfl)
   have b2c0 := blk_cell b2e 0 (.int .i64 0) rfl
   have b2c1 := blk_cell b2e 1 (.int .i64 0) rfl
   clear b2e
   refine bodyPost_ret (v := .tuple #[.agg #[.int .i64 0, .int .i64 0], .int .i64 1]) (by simp [results, Tryz.results5, go_sem, b2c0, b2c1]) rfl ⟨by rw [HR.out, t2, t4] <;> rfl, HS.out.bel⟩
 | false =>
  refine (direction_any a b _).mono ?_
  rw [show dirE (a, b) = 1 from by unfold dirE; rw [t2]; rfl]
  rintro e w13 ⟨rfl, hb13⟩
  replace HS := Lib.hid (HS.out.below hb13)
  clear hb13
  have b2e := (HS.out.at 0 _ _ _ rfl)
  have b2c0 := blk_cell b2e 0 (.int .i64 0) rfl
  have b2c1 := blk_cell b2e 1 (.int .i64 0) rfl
  have b2f0 := blk_frozen b2e 0
  have b2f1 := blk_frozen b2e 1
  have b2l := blk_lt b2e
  clear b2e
  go_wp2_with fail
  clear b2c0 b2c1 b2f0 b2f1 b2l
  generalize hW14 : ((w13).setCell _ _).setCell _ _ = W14 at *
  replace HS := Lib.hid (((HS.out).st_II 0 0 0 0 0 rfl).to hW14 (by (try simp only [nb5, nb6]); rfl))
  clear hW14
  have b2e := (HS.out.at 0 _ _ _ rfl)
  have b2c0 := blk_cell b2e 0 (.int .i64 0) rfl
  have b2c1 := blk_cell b2e 1 (.int .i64 0) rfl
  clear b2e
  refine bodyPost_ret (v := .tuple #[.agg #[.int .i64 0, .int .i64 0], .int .i64 1]) (by simp [results, Tryz.results5, go_sem, b2c0, b2c1]) rfl ⟨by rw [HR.out, t2] <;> rfl, HS.out.bel⟩
set_option maxRecDepth 100000 in
set_option maxHeartbeats 8000000 in
theorem back_any (a b x y : Int) (w : World) : Calls Tryz.prog 6 #[.agg #[.int .i64 a, .int .i64 b], .agg #[.int .i64 x, .int .i64 y]] w (RetBkP (backB (a, b) (x, y)) (backX (a, b) (x, y)) (backY (a, b) (x, y)) w) := by
 have HS := Lib.hid (Sx.init w)
 have HR : Hid (backB (a, b) (x, y) = (dirB (a, b) && ptOk (x, y))) := rfl
 go_enter Tryz.func6, Tryz.ntmps6
 go_wp2_with fail
 generalize hW1 : ((((w).alloc (.cells _ _)).alloc (.cells _ _)).alloc (.cells _ _)).alloc (.cells _ _) = W1 at *
 replace HS := Lib.hid ((((((HS.out).alloc (B := w.heap.size) rfl (by rfl)).alloc (B := w.heap.size + 1) (by simp) (by rfl)).alloc (B := w.heap.size + 2) (by simp) (by rfl)).alloc (B := w.heap.size + 3) (by simp) (by rfl)).to hW1 (by (try simp only [nb5, nb6]); rfl))
 clear hW1
 cases t2 : dirB (a, b) with
 | true =>
  refine (checkDir_any a b _).mono ?_
  rw [show dirE (a, b) = 0 from by unfold dirE; rw [t2]; rfl]
  rintro e w3 ⟨rfl, hb3⟩
  replace HS := Lib.hid (HS.out.below hb3)
  clear hb3
  have b1e := (HS.out.at 2 _ _ _ rfl)
  have b1c0 := blk_cell b1e 0 (.int .i64 x) rfl
  have b1c1 := blk_cell b1e 1 (.int .i64 y) rfl
  have b1f0 := blk_frozen b1e 0
  have b1f1 := blk_frozen b1e 1
  have b1l := blk_lt b1e
  clear b1e
  go_wp2_with fail
  clear b1c0 b1c1 b1f0 b1f1 b1l
  generalize hW4 : (w3).alloc (.cells _ _) = W4 at *
  replace HS := Lib.hid (((HS.out).alloc (B := w3.heap.size) rfl (by rfl)).to hW4 (by (try simp only [nb5, nb6]); rfl))
  clear hW4
  cases t5 : ptOk (x, y) with
  | true =>
   have hdr := dir_range t2
   dsimp only at hdr
   obtain ⟨r1, r2⟩ := hdr
   have r34 := ptOk_range t5
   unfold far at r34
   dsimp only at r34
   obtain ⟨r3, r4⟩ := r34
   have max := mul_absT r1 r3
   have mby := mul_absT r2 r4
   have mbx := mul_absT r2 r3
   have may := mul_absT r1 r4
   have maa := mul_absT r1 r1
   have mbb := mul_absT r2 r2
   have Hpax := Lib.hid (fun W => lproduct_any a x W (by omega) (by omega))
   have Zpax := Lib.hid (i64_szR (a * x) (by omega) (by omega) 1 (by omega))
   have Hpby := Lib.hid (fun W => lproduct_any b y W (by omega) (by omega))
   have Zpby := Lib.hid (i64_szR (b * y) (by omega) (by omega) 1 (by omega))
   have Hpbx := Lib.hid (fun W => lproduct_any b x W (by omega) (by omega))
   have Zpbx := Lib.hid (i64_szR (b * x) (by omega) (by omega) 1 (by omega))
   have Hpay := Lib.hid (fun W => lproduct_any a y W (by omega) (by omega))
   have Zpay := Lib.hid (i64_szR (a * y) (by omega) (by omega) 1 (by omega))
   have Hpsq := Lib.hid (fun W => lwhole_any (a * a + b * b) W (by omega) (by omega))
   have Zpsq := Lib.hid (i64_szR (a * a + b * b) (by omega) (by omega) 1 (by omega))
   have wq1 : IntKind.i64.wrap (a * a) = a * a := IntWalk.i64_in _ (by omega)
   have wq2 : IntKind.i64.wrap (b * b) = b * b := IntWalk.i64_in _ (by omega)
   have wq3 : IntKind.i64.wrap (a * a + b * b) = a * a + b * b := IntWalk.i64_in _ (by omega)
   have hsq := dir_sq t2
   unfold sqI at hsq
   dsimp only at hsq
   have HD0 : Hid (((a * a + b * b : Int) : Rat).num.natAbs ≠ 0) := by show _ ≠ _; rw [Rat.num_intCast]; omega
   have HQX : Hid (backX (a, b) (x, y) = (((a * x : Int) : Rat) - ((b * y : Int) : Rat)) / ((a * a + b * b : Int) : Rat)) := by show _ = _; rw [← Rat.intCast_sub]; rfl
   have HQY : Hid (backY (a, b) (x, y) = (((b * x : Int) : Rat) + ((a * y : Int) : Rat)) / ((a * a + b * b : Int) : Rat)) := by show _ = _; rw [← Rat.intCast_add]; rfl
   generalize ((a * x : Int) : Rat) = pax at *
   generalize ((b * y : Int) : Rat) = pby at *
   generalize ((b * x : Int) : Rat) = pbx at *
   generalize ((a * y : Int) : Rat) = pay at *
   generalize ((a * a + b * b : Int) : Rat) = psq at *
   clear r1 r2 r3 r4 max mby mbx may maa mbb hsq
   refine (isRightOne x y _ (HS.out.at 0 _ _ _ rfl)).mono ?_
   rw [t5]
   rintro e w6 ⟨rfl, hb6⟩
   replace HS := Lib.hid (HS.out.below hb6)
   clear hb6
   have b0e := (HS.out.at 4 _ _ _ rfl)
   have b0c0 := blk_cell b0e 0 (.int .i64 a) rfl
   have b0c1 := blk_cell b0e 1 (.int .i64 b) rfl
   have b0f0 := blk_frozen b0e 0
   have b0f1 := blk_frozen b0e 1
   have b0l := blk_lt b0e
   clear b0e
   go_wp2_with fail
   clear b0c0 b0c1 b0f0 b0f1 b0l
   refine (Hpsq.out _).mono ?_
   rintro e w7 ⟨v7, rfl, hv7, hb7⟩
   obtain ⟨z7, rfl⟩ := hv7.open3
   replace HS := Lib.hid (HS.out.below hb7)
   clear hb7
   replace HS := Lib.hid (HS.out.addP hv7)
   clear hv7
   go_wp2_with fail
   generalize hW8 : (w7).alloc (.cells _ _) = W8 at *
   replace HS := Lib.hid (((HS.out).alloc (B := w7.heap.size) rfl (by rfl)).to hW8 (by (try simp only [nb5, nb6]); rfl))
   clear hW8
   refine wp_region_held_drew (S := (fun w' => Sx w w' [(w7.heap.size, z7.arr, 32), (w3.heap.size, #[.int .i64 x, .int .i64 y], 25), (w.heap.size + 3, #[.bool false, .slice none 0 0, .slice none 0 0], 32), (w.heap.size + 1, #[.int .i64 x, .int .i64 y], 25), (w.heap.size, #[.int .i64 a, .int .i64 b], 23)] [])) (by kernel_rfl) ((HS.out.drew).erase 3) (fun hh => ?_)
   replace HS := Lib.hid HS.out.drew
   refine tkB (i := 0) (v := ?vk10) rfl ?hk10 ?rk10
   case hk10 => intro u hSu; go_simp <;> with_reducible rfl
   try simp only [nbs, Act.put]
   refine tkB (i := 1) (v := ?vk11) rfl ?hk11 ?rk11
   case hk11 => intro u hSu; (try dsimp only at hSu); have qb0e := (hSu.at 4 _ _ _ rfl); have qb0c0 := blk_cell qb0e 0 (.int .i64 a) rfl; have qb0c1 := blk_cell qb0e 1 (.int .i64 b) rfl; clear qb0e; clear hSu; go_simp <;> with_reducible rfl
   try simp only [nbs, Act.put]
   refine tkB (i := 2) (v := ?vk12) rfl ?hk12 ?rk12
   case hk12 => intro u hSu; go_simp <;> with_reducible rfl
   try simp only [nbs, Act.put]
   refine tkB (i := 3) (v := ?vk13) rfl ?hk13 ?rk13
   case hk13 => intro u hSu; (try dsimp only at hSu); have qb1e := (hSu.at 3 _ _ _ rfl); have qb1c0 := blk_cell qb1e 0 (.int .i64 x) rfl; have qb1c1 := blk_cell qb1e 1 (.int .i64 y) rfl; clear qb1e; clear hSu; go_simp <;> with_reducible rfl
   try simp only [nbs, Act.put]
   refine tkB (i := 5) (v := ?vk14) rfl ?hk14 ?rk14
   case hk14 => intro u hSu; go_simp <;> with_reducible rfl
   try simp only [nbs, Act.put]
   refine tkB (i := 6) (v := ?vk15) rfl ?hk15 ?rk15
   case hk15 => intro u hSu; (try dsimp only at hSu); have qb0e := (hSu.at 4 _ _ _ rfl); have qb0c0 := blk_cell qb0e 0 (.int .i64 a) rfl; have qb0c1 := blk_cell qb0e 1 (.int .i64 b) rfl; clear qb0e; clear hSu; go_simp <;> with_reducible rfl
   try simp only [nbs, Act.put]
   refine tkB (i := 7) (v := ?vk16) rfl ?hk16 ?rk16
   case hk16 => intro u hSu; go_simp <;> with_reducible rfl
   try simp only [nbs, Act.put]
   refine tkB (i := 8) (v := ?vk17) rfl ?hk17 ?rk17
   case hk17 => intro u hSu; (try dsimp only at hSu); have qb1e := (hSu.at 3 _ _ _ rfl); have qb1c0 := blk_cell qb1e 0 (.int .i64 x) rfl; have qb1c1 := blk_cell qb1e 1 (.int .i64 y) rfl; clear qb1e; clear hSu; go_simp <;> with_reducible rfl
   try simp only [nbs, Act.put]
   refine tkB (i := 11) (v := ?vk18) rfl ?hk18 ?rk18
   case hk18 => intro u hSu; (try dsimp only at hSu); obtain ⟨qb5c0, qb5c1, qb5c2, _⟩ := fac3 (x := z7) (hSu.at 0 _ _ _ rfl); clear hSu; go_simp <;> with_reducible rfl
   try simp only [nbs, Act.put]
   refine rdA (i := 4) rfl (fun K hK => ?_)
   go_simp
   go_wp2_with (go_at_call 18; (with_reducible refine (Hpax.out _).mono ?_); rintro e w19 ⟨v19, rfl, hv19, hb19⟩; obtain ⟨z19, rfl⟩ := hv19.open3)
   refine hK.out _ _ (Sx.below hh hb19) (fun hh => ?_)
   clear hK K
   try simp only [nbs, Act.put]
   replace HS := Lib.hid (HS.out.below hb19)
   clear hb19
   replace HS := Lib.hid (HS.out.addP hv19)
   clear hv19
   refine rdA (i := 9) rfl (fun K hK => ?_)
   go_simp
   go_wp2_with (go_at_call 18; (with_reducible refine (Hpby.out _).mono ?_); rintro e w20 ⟨v20, rfl, hv20, hb20⟩; obtain ⟨z20, rfl⟩ := hv20.open3)
   refine hK.out _ _ (Sx.below hh hb20) (fun hh => ?_)
   clear hK K
   try simp only [nbs, Act.put]
   replace HS := Lib.hid (HS.out.below hb20)
   clear hb20
   replace HS := Lib.hid (HS.out.addP hv20)
   clear hv20
   refine rdA (i := 10) rfl (fun K hK => ?_)
   go_simp
   have a22 := HS.out.p 1 _ _ rfl
   have a23 := HS.out.p 0 _ _ rfl
   go_wp2_with (go_at_call 19; (with_reducible refine (subRat_any pax pby _ _ _ a22 a23 (szR_mono Zpax.out (by omega)) (szR_mono Zpby.out (by omega))).mono ?_); rintro e w21 ⟨v21, rfl, hv21, hb21⟩; obtain ⟨z21, rfl⟩ := hv21.open3)
   refine hK.out _ _ (Sx.below hh hb21) (fun hh => ?_)
   clear hK K
   try simp only [nbs, Act.put]
   replace HS := Lib.hid (HS.out.below hb21)
   clear hb21 a22 a23
   replace HS := Lib.hid (HS.out.addP hv21)
   clear hv21
   refine rdA (i := 12) rfl (fun K hK => ?_)
   go_simp
   have a25 := HS.out.p 0 _ _ rfl
   have a26 := HS.out.p 3 _ _ rfl
   go_wp2_with (go_at_call 20; (with_reducible refine (divRat_any (pax - pby) psq _ _ _ a25 a26 (szR_mono (szR_sub Zpax.out Zpby.out) (by omega)) (szR_mono Zpsq.out (by omega)) HD0.out).mono ?_); rintro e w24 ⟨v24, rfl, hv24, hb24⟩; obtain ⟨z24, rfl⟩ := hv24.open3)
   refine hK.out _ _ (Sx.below hh hb24) (fun hh => ?_)
   clear hK K
   try simp only [nbs, Act.put]
   replace HS := Lib.hid (HS.out.below hb24)
   clear hb24 a25 a26
   replace HS := Lib.hid (HS.out.addP hv24)
   clear hv24
   refine tkB (i := 13) (v := ?vk27) rfl ?hk27 ?rk27
   case hk27 => intro u hSu; go_simp <;> with_reducible rfl
   try simp only [nbs, Act.put]
   refine tkB (i := 14) (v := ?vk28) rfl ?hk28 ?rk28
   case hk28 => intro u hSu; go_simp <;> with_reducible rfl
   try simp only [nbs, Act.put]
   refine tkB (i := 15) (v := ?vk29) rfl ?hk29 ?rk29
   case hk29 => intro u hSu; go_simp <;> with_reducible rfl
   try simp only [nbs, Act.put]
   refine rdA (i := 16) rfl (fun K hK => ?_)
   have b2e := (HS.out.at 3 _ _ _ rfl)
   have b2c0 := blk_cell b2e 0 (.bool false) rfl
   have b2c1 := blk_cell b2e 1 (.slice none 0 0) rfl
   have b2c2 := blk_cell b2e 2 (.slice none 0 0) rfl
   have b2f0 := blk_frozen b2e 0
   have b2f1 := blk_frozen b2e 1
   have b2f2 := blk_frozen b2e 2
   have b2l := blk_lt b2e
   clear b2e
   go_simp
   refine hK.out _ _ ((((HS.out).st_R 3 r30 z24 rfl)).erase 3) (fun hh => ?_)
   clear hK K b2c0 b2c1 b2c2 b2f0 b2f1 b2f2 b2l
   try simp only [nbs, Act.put]
   generalize hW30 : (((w24).setCell _ _).setCell _ _).setCell _ _ = W30 at *
   replace HS := Lib.hid (((HS.out).st_R 3 r30 z24 rfl).to hW30 (by (try simp only [nb5, nb6]); rfl))
   clear hW30
   refine wpAnyH_done (by kernel_rfl) ?_ _
   go_wp2_with fail
   refine wp_region_held_drew (S := (fun w' => Sx w w' [(w7.heap.size, z7.arr, 32), (w3.heap.size, #[.int .i64 x, .int .i64 y], 25), (w.heap.size + 2, z24.arr, 32), (w.heap.size + 1, #[.int .i64 x, .int .i64 y], 25), (w.heap.size, #[.int .i64 a, .int .i64 b], 23)] [])) (by kernel_rfl) ((HS.out.drew).erase 2) (fun hh => ?_)
   replace HS := Lib.hid HS.out.drew
   refine tkB (i := 0) (v := ?vk32) rfl ?hk32 ?rk32
   case hk32 => intro u hSu; go_simp <;> with_reducible rfl
   try simp only [nbs, Act.put]
   refine tkB (i := 1) (v := ?vk33) rfl ?hk33 ?rk33
   case hk33 => intro u hSu; (try dsimp only at hSu); have qb0e := (hSu.at 4 _ _ _ rfl); have qb0c0 := blk_cell qb0e 0 (.int .i64 a) rfl; have qb0c1 := blk_cell qb0e 1 (.int .i64 b) rfl; clear qb0e; clear hSu; go_simp <;> with_reducible rfl
   try simp only [nbs, Act.put]
   refine tkB (i := 2) (v := ?vk34) rfl ?hk34 ?rk34
   case hk34 => intro u hSu; go_simp <;> with_reducible rfl
   try simp only [nbs, Act.put]
   refine tkB (i := 3) (v := ?vk35) rfl ?hk35 ?rk35
   case hk35 => intro u hSu; (try dsimp only at hSu); have qb1e := (hSu.at 3 _ _ _ rfl); have qb1c0 := blk_cell qb1e 0 (.int .i64 x) rfl; have qb1c1 := blk_cell qb1e 1 (.int .i64 y) rfl; clear qb1e; clear hSu; go_simp <;> with_reducible rfl
   try simp only [nbs, Act.put]
   refine tkB (i := 5) (v := ?vk36) rfl ?hk36 ?rk36
   case hk36 => intro u hSu; go_simp <;> with_reducible rfl
   try simp only [nbs, Act.put]
   refine tkB (i := 6) (v := ?vk37) rfl ?hk37 ?rk37
   case hk37 => intro u hSu; (try dsimp only at hSu); have qb0e := (hSu.at 4 _ _ _ rfl); have qb0c0 := blk_cell qb0e 0 (.int .i64 a) rfl; have qb0c1 := blk_cell qb0e 1 (.int .i64 b) rfl; clear qb0e; clear hSu; go_simp <;> with_reducible rfl
   try simp only [nbs, Act.put]
   refine tkB (i := 7) (v := ?vk38) rfl ?hk38 ?rk38
   case hk38 => intro u hSu; go_simp <;> with_reducible rfl
   try simp only [nbs, Act.put]
   refine tkB (i := 8) (v := ?vk39) rfl ?hk39 ?rk39
   case hk39 => intro u hSu; (try dsimp only at hSu); have qb1e := (hSu.at 3 _ _ _ rfl); have qb1c0 := blk_cell qb1e 0 (.int .i64 x) rfl; have qb1c1 := blk_cell qb1e 1 (.int .i64 y) rfl; clear qb1e; clear hSu; go_simp <;> with_reducible rfl
   try simp only [nbs, Act.put]
   refine tkB (i := 11) (v := ?vk40) rfl ?hk40 ?rk40
   case hk40 => intro u hSu; (try dsimp only at hSu); obtain ⟨qb5c0, qb5c1, qb5c2, _⟩ := fac3 (x := z7) (hSu.at 0 _ _ _ rfl); clear hSu; go_simp <;> with_reducible rfl
   try simp only [nbs, Act.put]
   refine rdA (i := 4) rfl (fun K hK => ?_)
   go_simp
   go_wp2_with (go_at_call 18; (with_reducible refine (Hpbx.out _).mono ?_); rintro e w41 ⟨v41, rfl, hv41, hb41⟩; obtain ⟨z41, rfl⟩ := hv41.open3)
   refine hK.out _ _ (Sx.below hh hb41) (fun hh => ?_)
   clear hK K
   try simp only [nbs, Act.put]
   replace HS := Lib.hid (HS.out.below hb41)
   clear hb41
   replace HS := Lib.hid (HS.out.addP hv41)
   clear hv41
   refine rdA (i := 9) rfl (fun K hK => ?_)
   go_simp
   go_wp2_with (go_at_call 18; (with_reducible refine (Hpay.out _).mono ?_); rintro e w42 ⟨v42, rfl, hv42, hb42⟩; obtain ⟨z42, rfl⟩ := hv42.open3)
   refine hK.out _ _ (Sx.below hh hb42) (fun hh => ?_)
   clear hK K
   try simp only [nbs, Act.put]
   replace HS := Lib.hid (HS.out.below hb42)
   clear hb42
   replace HS := Lib.hid (HS.out.addP hv42)
   clear hv42
   refine rdA (i := 10) rfl (fun K hK => ?_)
   go_simp
   have a44 := HS.out.p 1 _ _ rfl
   have a45 := HS.out.p 0 _ _ rfl
   go_wp2_with (go_at_call 21; (with_reducible refine (addRat_any pbx pay _ _ _ a44 a45 (szR_mono Zpbx.out (by omega)) (szR_mono Zpay.out (by omega))).mono ?_); rintro e w43 ⟨v43, rfl, hv43, hb43⟩; obtain ⟨z43, rfl⟩ := hv43.open3)
   refine hK.out _ _ (Sx.below hh hb43) (fun hh => ?_)
   clear hK K
   try simp only [nbs, Act.put]
   replace HS := Lib.hid (HS.out.below hb43)
   clear hb43 a44 a45
   replace HS := Lib.hid (HS.out.addP hv43)
   clear hv43
   refine rdA (i := 12) rfl (fun K hK => ?_)
   go_simp
   have a47 := HS.out.p 0 _ _ rfl
   have a48 := HS.out.p 7 _ _ rfl
   go_wp2_with (go_at_call 20; (with_reducible refine (divRat_any (pbx + pay) psq _ _ _ a47 a48 (szR_mono (szR_add Zpbx.out Zpay.out) (by omega)) (szR_mono Zpsq.out (by omega)) HD0.out).mono ?_); rintro e w46 ⟨v46, rfl, hv46, hb46⟩; obtain ⟨z46, rfl⟩ := hv46.open3)
   refine hK.out _ _ (Sx.below hh hb46) (fun hh => ?_)
   clear hK K
   try simp only [nbs, Act.put]
   replace HS := Lib.hid (HS.out.below hb46)
   clear hb46 a47 a48
   replace HS := Lib.hid (HS.out.addP hv46)
   clear hv46
   refine tkB (i := 13) (v := ?vk49) rfl ?hk49 ?rk49
   case hk49 => intro u hSu; go_simp <;> with_reducible rfl
   try simp only [nbs, Act.put]
   refine tkB (i := 14) (v := ?vk50) rfl ?hk50 ?rk50
   case hk50 => intro u hSu; go_simp <;> with_reducible rfl
   try simp only [nbs, Act.put]
   refine tkB (i := 15) (v := ?vk51) rfl ?hk51 ?rk51
   case hk51 => intro u hSu; go_simp <;> with_reducible rfl
   try simp only [nbs, Act.put]
   refine rdA (i := 16) rfl (fun K hK => ?_)
   have b3e := (HS.out.at 2 _ _ _ rfl)
   have b3c0 := blk_cell b3e 0 (.bool false) rfl
   have b3c1 := blk_cell b3e 1 (.slice none 0 0) rfl
   have b3c2 := blk_cell b3e 2 (.slice none 0 0) rfl
   have b3f0 := blk_frozen b3e 0
   have b3f1 := blk_frozen b3e 1
   have b3f2 := blk_frozen b3e 2
   have b3l := blk_lt b3e
   clear b3e
   go_simp
   refine hK.out _ _ ((((HS.out).st_R 2 r30 z46 rfl)).erase 2) (fun hh => ?_)
   clear hK K b3c0 b3c1 b3c2 b3f0 b3f1 b3f2 b3l
   try simp only [nbs, Act.put]
   generalize hW52 : (((w46).setCell _ _).setCell _ _).setCell _ _ = W52 at *
   replace HS := Lib.hid (((HS.out).st_R 2 r30 z46 rfl).to hW52 (by (try simp only [nb5, nb6]); rfl))
   clear hW52
   refine wpAnyH_done (by kernel_rfl) ?_ _
   go_wp2_with fail
   refine wp_region_held_drew (S := (fun w' => Sx w w' [(w7.heap.size, z7.arr, 32), (w3.heap.size, #[.int .i64 x, .int .i64 y], 25), (w.heap.size + 1, #[.int .i64 x, .int .i64 y], 25), (w.heap.size, #[.int .i64 a, .int .i64 b], 23)] [])) (by kernel_rfl) (((HS.out.drew).erase 3).erase 2) (fun hh => ?_)
   replace HS := Lib.hid HS.out.drew
   refine wpAnyH_ready (rs := [0, 1]) (by kernel_rfl) (by simp) ?_
   refine AllReadyH.cons rfl (fun K hK => ?_) ?_
   ·
    obtain ⟨b2c0, b2c1, b2c2, _⟩ := fac3 (x := z24) (HS.out.at 3 _ _ _ rfl)
    go_simp
    refine hK.out _ _ hh (fun hh => ?_)
    clear hK K b2c0 b2c1 b2c2
    try simp only [nbs, Act.put]
    refine wpAnyH_ready (rs := [1, 2]) (by kernel_rfl) (by simp) ?_
    refine AllReadyH.cons rfl (fun K hK => ?_) ?_
    ·
     obtain ⟨b3c0, b3c1, b3c2, _⟩ := fac3 (x := z46) (HS.out.at 2 _ _ _ rfl)
     go_simp
     refine hK.out _ _ hh (fun hh => ?_)
     clear hK K b3c0 b3c1 b3c2
     try simp only [nbs, Act.put]
     refine rdA (i := 2) rfl (fun K hK => ?_)
     generalize W52.drew = Wd54 at *
     obtain ⟨b2c0, b2c1, b2c2, b2f0, b2f1, b2f2⟩ := fac3 (x := z24) (HS.out.at 3 _ _ _ rfl)
     have b2l := blk_lt (HS.out.at 3 _ _ _ rfl)
     go_simp
     refine hK.out _ _ ((((((HS.out).st_R 3 z24 z24 rfl)).erase 3)).erase 2) (fun hh => ?_)
     clear hK K b2c0 b2c1 b2c2 b2f0 b2f1 b2f2 b2l
     try simp only [nbs, Act.put]
     generalize hW55 : (((Wd54).setCell _ _).setCell _ _).setCell _ _ = W55 at *
     replace HS := Lib.hid (((HS.out).st_R 3 z24 z24 rfl).to hW55 (by (try simp only [nb5, nb6]); rfl))
     clear hW55
     refine rdA (i := 3) rfl (fun K hK => ?_)
     obtain ⟨b3c0, b3c1, b3c2, b3f0, b3f1, b3f2⟩ := fac3 (x := z46) (HS.out.at 2 _ _ _ rfl)
     have b3l := blk_lt (HS.out.at 2 _ _ _ rfl)
     go_simp
     refine hK.out _ _ ((((((HS.out).st_R 2 z46 z46 rfl)).erase 3)).erase 2) (fun hh => ?_)
     clear hK K b3c0 b3c1 b3c2 b3f0 b3f1 b3f2 b3l
     try simp only [nbs, Act.put]
     generalize hW56 : (((W55).setCell _ _).setCell _ _).setCell _ _ = W56 at *
     replace HS := Lib.hid (((HS.out).st_R 2 z46 z46 rfl).to hW56 (by (try simp only [nb5, nb6]); rfl))
     clear hW56
     refine tkB (i := 4) (v := ?vk57) rfl ?hk57 ?rk57
     case hk57 => intro u hSu; go_simp <;> with_reducible rfl
     try simp only [nbs, Act.put]
     refine wpAnyH_done (by kernel_rfl) ?_ _
     obtain ⟨b2c0, b2c1, b2c2, b2f0, b2f1, b2f2⟩ := fac3 (x := z24) (HS.out.at 3 _ _ _ rfl)
     have b2l := blk_lt (HS.out.at 3 _ _ _ rfl)
     obtain ⟨b3c0, b3c1, b3c2, b3f0, b3f1, b3f2⟩ := fac3 (x := z46) (HS.out.at 2 _ _ _ rfl)
     have b3l := blk_lt (HS.out.at 2 _ _ _ rfl)
     go_wp2_with fail
     clear b2c0 b2c1 b2c2 b2f0 b2f1 b2f2 b2l b3c0 b3c1 b3c2 b3f0 b3f1 b3f2 b3l
     have HT : Hid (backB (a, b) (x, y) = true) := by show _ = _; rw [HR.out, t2, t5] <;> rfl
     obtain ⟨b2c0, b2c1, b2c2, _⟩ := fac3 (x := z24) (HS.out.at 3 _ _ _ rfl)
     obtain ⟨b3c0, b3c1, b3c2, _⟩ := fac3 (x := z46) (HS.out.at 2 _ _ _ rfl)
     refine bodyPost_ret (v := .tuple #[z24.val, z46.val, .int .i64 0]) (by simp [results, Tryz.results6, go_sem, b2c0, b2c1, b2c2, b3c0, b3c1, b3c2]) rfl ⟨_, _, by rw [HT.out] <;> rfl, by rw [HT.out, HQX.out]; exact (HS.out.p 4 _ _ rfl), by rw [HT.out, HQY.out]; exact (HS.out.p 0 _ _ rfl), HS.out.bel⟩
    refine AllReadyH.cons rfl (fun K hK => ?_) AllReadyH.nil
    generalize W52.drew = Wd58 at *
    obtain ⟨b2c0, b2c1, b2c2, b2f0, b2f1, b2f2⟩ := fac3 (x := z24) (HS.out.at 3 _ _ _ rfl)
    have b2l := blk_lt (HS.out.at 3 _ _ _ rfl)
    go_simp
    refine hK.out _ _ ((((((HS.out).st_R 3 z24 z24 rfl)).erase 3)).erase 2) (fun hh => ?_)
    clear hK K b2c0 b2c1 b2c2 b2f0 b2f1 b2f2 b2l
    try simp only [nbs, Act.put]
    generalize hW59 : (((Wd58).setCell _ _).setCell _ _).setCell _ _ = W59 at *
    replace HS := Lib.hid (((HS.out).st_R 3 z24 z24 rfl).to hW59 (by (try simp only [nb5, nb6]); rfl))
    clear hW59
    refine rdA (i := 1) rfl (fun K hK => ?_)
    obtain ⟨b3c0, b3c1, b3c2, _⟩ := fac3 (x := z46) (HS.out.at 2 _ _ _ rfl)
    go_simp
    refine hK.out _ _ hh (fun hh => ?_)
    clear hK K b3c0 b3c1 b3c2
    try simp only [nbs, Act.put]
    refine rdA (i := 3) rfl (fun K hK => ?_)
    obtain ⟨b3c0, b3c1, b3c2, b3f0, b3f1, b3f2⟩ := fac3 (x := z46) (HS.out.at 2 _ _ _ rfl)
    have b3l := blk_lt (HS.out.at 2 _ _ _ rfl)
    go_simp
    refine hK.out _ _ ((((((HS.out).st_R 2 z46 z46 rfl)).erase 3)).erase 2) (fun hh => ?_)
    clear hK K b3c0 b3c1 b3c2 b3f0 b3f1 b3f2 b3l
    try simp only [nbs, Act.put]
    generalize hW60 : (((W59).setCell _ _).setCell _ _).setCell _ _ = W60 at *
    replace HS := Lib.hid (((HS.out).st_R 2 z46 z46 rfl).to hW60 (by (try simp only [nb5, nb6]); rfl))
    clear hW60
    refine tkB (i := 4) (v := ?vk61) rfl ?hk61 ?rk61
    case hk61 => intro u hSu; go_simp <;> with_reducible rfl
    try simp only [nbs, Act.put]
    refine wpAnyH_done (by kernel_rfl) ?_ _
    obtain ⟨b2c0, b2c1, b2c2, b2f0, b2f1, b2f2⟩ := fac3 (x := z24) (HS.out.at 3 _ _ _ rfl)
    have b2l := blk_lt (HS.out.at 3 _ _ _ rfl)
    obtain ⟨b3c0, b3c1, b3c2, b3f0, b3f1, b3f2⟩ := fac3 (x := z46) (HS.out.at 2 _ _ _ rfl)
    have b3l := blk_lt (HS.out.at 2 _ _ _ rfl)
    go_wp2_with fail
    clear b2c0 b2c1 b2c2 b2f0 b2f1 b2f2 b2l b3c0 b3c1 b3c2 b3f0 b3f1 b3f2 b3l
    have HT : Hid (backB (a, b) (x, y) = true) := by show _ = _; rw [HR.out, t2, t5] <;> rfl
    obtain ⟨b2c0, b2c1, b2c2, _⟩ := fac3 (x := z24) (HS.out.at 3 _ _ _ rfl)
    obtain ⟨b3c0, b3c1, b3c2, _⟩ := fac3 (x := z46) (HS.out.at 2 _ _ _ rfl)
    refine bodyPost_ret (v := .tuple #[z24.val, z46.val, .int .i64 0]) (by simp [results, Tryz.results6, go_sem, b2c0, b2c1, b2c2, b3c0, b3c1, b3c2]) rfl ⟨_, _, by rw [HT.out] <;> rfl, by rw [HT.out, HQX.out]; exact (HS.out.p 4 _ _ rfl), by rw [HT.out, HQY.out]; exact (HS.out.p 0 _ _ rfl), HS.out.bel⟩
   refine AllReadyH.cons rfl (fun K hK => ?_) AllReadyH.nil
   obtain ⟨b3c0, b3c1, b3c2, _⟩ := fac3 (x := z46) (HS.out.at 2 _ _ _ rfl)
   go_simp
   refine hK.out _ _ hh (fun hh => ?_)
   clear hK K b3c0 b3c1 b3c2
   try simp only [nbs, Act.put]
   refine rdA (i := 0) rfl (fun K hK => ?_)
   obtain ⟨b2c0, b2c1, b2c2, _⟩ := fac3 (x := z24) (HS.out.at 3 _ _ _ rfl)
   go_simp
   refine hK.out _ _ hh (fun hh => ?_)
   clear hK K b2c0 b2c1 b2c2
   try simp only [nbs, Act.put]
   refine rdA (i := 2) rfl (fun K hK => ?_)
   generalize W52.drew = Wd62 at *
   obtain ⟨b2c0, b2c1, b2c2, b2f0, b2f1, b2f2⟩ := fac3 (x := z24) (HS.out.at 3 _ _ _ rfl)
   have b2l := blk_lt (HS.out.at 3 _ _ _ rfl)
   go_simp
   refine hK.out _ _ ((((((HS.out).st_R 3 z24 z24 rfl)).erase 3)).erase 2) (fun hh => ?_)
   clear hK K b2c0 b2c1 b2c2 b2f0 b2f1 b2f2 b2l
   try simp only [nbs, Act.put]
   generalize hW63 : (((Wd62).setCell _ _).setCell _ _).setCell _ _ = W63 at *
   replace HS := Lib.hid (((HS.out).st_R 3 z24 z24 rfl).to hW63 (by (try simp only [nb5, nb6]); rfl))
   clear hW63
   refine rdA (i := 3) rfl (fun K hK => ?_)
   obtain ⟨b3c0, b3c1, b3c2, b3f0, b3f1, b3f2⟩ := fac3 (x := z46) (HS.out.at 2 _ _ _ rfl)
   have b3l := blk_lt (HS.out.at 2 _ _ _ rfl)
   go_simp
   refine hK.out _ _ ((((((HS.out).st_R 2 z46 z46 rfl)).erase 3)).erase 2) (fun hh => ?_)
   clear hK K b3c0 b3c1 b3c2 b3f0 b3f1 b3f2 b3l
   try simp only [nbs, Act.put]
   generalize hW64 : (((W63).setCell _ _).setCell _ _).setCell _ _ = W64 at *
   replace HS := Lib.hid (((HS.out).st_R 2 z46 z46 rfl).to hW64 (by (try simp only [nb5, nb6]); rfl))
   clear hW64
   refine tkB (i := 4) (v := ?vk65) rfl ?hk65 ?rk65
   case hk65 => intro u hSu; go_simp <;> with_reducible rfl
   try simp only [nbs, Act.put]
   refine wpAnyH_done (by kernel_rfl) ?_ _
   obtain ⟨b2c0, b2c1, b2c2, b2f0, b2f1, b2f2⟩ := fac3 (x := z24) (HS.out.at 3 _ _ _ rfl)
   have b2l := blk_lt (HS.out.at 3 _ _ _ rfl)
   obtain ⟨b3c0, b3c1, b3c2, b3f0, b3f1, b3f2⟩ := fac3 (x := z46) (HS.out.at 2 _ _ _ rfl)
   have b3l := blk_lt (HS.out.at 2 _ _ _ rfl)
   go_wp2_with fail
   clear b2c0 b2c1 b2c2 b2f0 b2f1 b2f2 b2l b3c0 b3c1 b3c2 b3f0 b3f1 b3f2 b3l
   have HT : Hid (backB (a, b) (x, y) = true) := by show _ = _; rw [HR.out, t2, t5] <;> rfl
   obtain ⟨b2c0, b2c1, b2c2, _⟩ := fac3 (x := z24) (HS.out.at 3 _ _ _ rfl)
   obtain ⟨b3c0, b3c1, b3c2, _⟩ := fac3 (x := z46) (HS.out.at 2 _ _ _ rfl)
   refine bodyPost_ret (v := .tuple #[z24.val, z46.val, .int .i64 0]) (by simp [results, Tryz.results6, go_sem, b2c0, b2c1, b2c2, b3c0, b3c1, b3c2]) rfl ⟨_, _, by rw [HT.out] <;> rfl, by rw [HT.out, HQX.out]; exact (HS.out.p 4 _ _ rfl), by rw [HT.out, HQY.out]; exact (HS.out.p 0 _ _ rfl), HS.out.bel⟩
  | false =>
   refine (isRightOne x y _ (HS.out.at 0 _ _ _ rfl)).mono ?_
   rw [t5]
   rintro e w66 ⟨rfl, hb66⟩
   replace HS := Lib.hid (HS.out.below hb66)
   clear hb66
   have b2e := (HS.out.at 2 _ _ _ rfl)
   have b2c0 := blk_cell b2e 0 (.bool false) rfl
   have b2c1 := blk_cell b2e 1 (.slice none 0 0) rfl
   have b2c2 := blk_cell b2e 2 (.slice none 0 0) rfl
   have b2f0 := blk_frozen b2e 0
   have b2f1 := blk_frozen b2e 1
   have b2f2 := blk_frozen b2e 2
   have b2l := blk_lt b2e
   clear b2e
   have b3e := (HS.out.at 1 _ _ _ rfl)
   have b3c0 := blk_cell b3e 0 (.bool false) rfl
   have b3c1 := blk_cell b3e 1 (.slice none 0 0) rfl
   have b3c2 := blk_cell b3e 2 (.slice none 0 0) rfl
   have b3f0 := blk_frozen b3e 0
   have b3f1 := blk_frozen b3e 1
   have b3f2 := blk_frozen b3e 2
   have b3l := blk_lt b3e
   clear b3e
   go_wp2_with fail
   clear b2c0 b2c1 b2c2 b2f0 b2f1 b2f2 b2l b3c0 b3c1 b3c2 b3f0 b3f1 b3f2 b3l
   generalize hW67 : ((((((w66).setCell _ _).setCell _ _).setCell _ _).setCell _ _).setCell _ _).setCell _ _ = W67 at *
   replace HS := Lib.hid ((((HS.out).st_R 2 r30 r30 rfl).st_R 1 r30 r30 rfl).to hW67 (by (try simp only [nb5, nb6]); rfl))
   clear hW67
   have HT : Hid (backB (a, b) (x, y) = false) := by show _ = _; rw [HR.out, t2, t5] <;> rfl
   have b2e := (HS.out.at 2 _ _ _ rfl)
   have b2c0 := blk_cell b2e 0 (.bool false) rfl
   have b2c1 := blk_cell b2e 1 (.slice none 0 0) rfl
   have b2c2 := blk_cell b2e 2 (.slice none 0 0) rfl
   clear b2e
   have b3e := (HS.out.at 1 _ _ _ rfl)
   have b3c0 := blk_cell b3e 0 (.bool false) rfl
   have b3c1 := blk_cell b3e 1 (.slice none 0 0) rfl
   have b3c2 := blk_cell b3e 2 (.slice none 0 0) rfl
   clear b3e
   refine bodyPost_ret (v := .tuple #[r30.val, r30.val, .int .i64 1]) (by simp [results, Tryz.results6, go_sem, b2c0, b2c1, b2c2, b3c0, b3c1, b3c2, r30]) rfl ⟨_, _, by rw [HT.out] <;> rfl, by rw [HT.out]; exact (isRat_r30 _), by rw [HT.out]; exact (isRat_r30 _), HS.out.bel⟩
 | false =>
  refine (checkDir_any a b _).mono ?_
  rw [show dirE (a, b) = 1 from by unfold dirE; rw [t2]; rfl]
  rintro e w68 ⟨rfl, hb68⟩
  replace HS := Lib.hid (HS.out.below hb68)
  clear hb68
  have b2e := (HS.out.at 1 _ _ _ rfl)
  have b2c0 := blk_cell b2e 0 (.bool false) rfl
  have b2c1 := blk_cell b2e 1 (.slice none 0 0) rfl
  have b2c2 := blk_cell b2e 2 (.slice none 0 0) rfl
  have b2f0 := blk_frozen b2e 0
  have b2f1 := blk_frozen b2e 1
  have b2f2 := blk_frozen b2e 2
  have b2l := blk_lt b2e
  clear b2e
  have b3e := (HS.out.at 0 _ _ _ rfl)
  have b3c0 := blk_cell b3e 0 (.bool false) rfl
  have b3c1 := blk_cell b3e 1 (.slice none 0 0) rfl
  have b3c2 := blk_cell b3e 2 (.slice none 0 0) rfl
  have b3f0 := blk_frozen b3e 0
  have b3f1 := blk_frozen b3e 1
  have b3f2 := blk_frozen b3e 2
  have b3l := blk_lt b3e
  clear b3e
  go_wp2_with fail
  clear b2c0 b2c1 b2c2 b2f0 b2f1 b2f2 b2l b3c0 b3c1 b3c2 b3f0 b3f1 b3f2 b3l
  generalize hW69 : ((((((w68).setCell _ _).setCell _ _).setCell _ _).setCell _ _).setCell _ _).setCell _ _ = W69 at *
  replace HS := Lib.hid ((((HS.out).st_R 1 r30 r30 rfl).st_R 0 r30 r30 rfl).to hW69 (by (try simp only [nb5, nb6]); rfl))
  clear hW69
  have HT : Hid (backB (a, b) (x, y) = false) := by show _ = _; rw [HR.out, t2] <;> rfl
  have b2e := (HS.out.at 1 _ _ _ rfl)
  have b2c0 := blk_cell b2e 0 (.bool false) rfl
  have b2c1 := blk_cell b2e 1 (.slice none 0 0) rfl
  have b2c2 := blk_cell b2e 2 (.slice none 0 0) rfl
  clear b2e
  have b3e := (HS.out.at 0 _ _ _ rfl)
  have b3c0 := blk_cell b3e 0 (.bool false) rfl
  have b3c1 := blk_cell b3e 1 (.slice none 0 0) rfl
  have b3c2 := blk_cell b3e 2 (.slice none 0 0) rfl
  clear b3e
  refine bodyPost_ret (v := .tuple #[r30.val, r30.val, .int .i64 1]) (by simp [results, Tryz.results6, go_sem, b2c0, b2c1, b2c2, b3c0, b3c1, b3c2, r30]) rfl ⟨_, _, by rw [HT.out] <;> rfl, by rw [HT.out]; exact (isRat_r30 _), by rw [HT.out]; exact (isRat_r30 _), HS.out.bel⟩
end Go.Proofs.YtakempimcbofgaaGreat

namespace Go.Proofs.YtakempimcbofgaaGreat
open Go.RowKit

theorem RowAt.of {w : World} {B : Nat} {x0 x1 : R3} {q0 q1 : Rat} (h : w.heap[B]? = some (.cells (arr6 x0 x1) 37 (0, 0))) (f0 : Fr false w x0.val q0) (f1 : Fr false w x1.val q1) : RowAt 0 w (.slice (some ⟨B, 0, none⟩) 2 2) q0 q1 :=
 ⟨B, x0, x1, rfl, Nat.zero_le _, h, f0, f1⟩
theorem MatAt.newF {w : World} {B1 B2 T1 T2 : Nat} {x0 x1 x2 x3 : R3} {q0 q1 q2 q3 : Rat} (T : Nat) (h1 : w.heap[B1]? = some (.cells (arr6 x0 x1) T1 (0, 0))) (h2 : w.heap[B2]? = some (.cells (arr6 x2 x3) T2 (0, 0)))
  (f0 : Fr false w x0.val q0) (f1 : Fr false w x1.val q1) (f2 : Fr false w x2.val q2) (f3 : Fr false w x3.val q3) : MatAt (w.alloc (.cells #[.slice (some ⟨B1, 0, none⟩) 2 2, .slice (some ⟨B2, 0, none⟩) 2 2] T)) (.slice (some ⟨w.heap.size, 0, none⟩) 2 2) q0 q1 q2 q3 := MatAt.new T h1 h2 f0 f1 f2 f3
set_option maxRecDepth 100000 in
set_option maxHeartbeats 8000000 in
theorem rback_any (a b x y : Int) (w : World) : Calls Tryz.prog 7 #[.agg #[.int .i64 a, .int .i64 b], .agg #[.int .i64 x, .int .i64 y]] w (RetBkQ (backB (a, b) (x, y)) (backX (a, b) (x, y)) (backY (a, b) (x, y)) w) := by
 have HS := Lib.hid (Sx.init w)
 have HR : Hid (backB (a, b) (x, y) = (dirB (a, b) && ptOk (x, y))) := rfl
 go_enter Tryz.func7, Tryz.ntmps7
 go_wp2_with fail
 generalize hW1 : ((((w).alloc (.cells _ _)).alloc (.cells _ _)).alloc (.cells _ _)).alloc (.cells _ _) = W1 at *
 replace HS := Lib.hid ((((((HS.out).alloc (B := w.heap.size) rfl (by rfl)).alloc (B := w.heap.size + 1) (by simp) (by rfl)).alloc (B := w.heap.size + 2) (by simp) (by rfl)).alloc (B := w.heap.size + 3) (by simp) (by rfl)).to hW1 (by (try simp only [nb5, nb6]); rfl))
 clear hW1
 cases t2 : dirB (a, b) with
 | true =>
  refine (direction_any a b _).mono ?_
  rw [show dirE (a, b) = 0 from by unfold dirE; rw [t2]; rfl]
  rintro e w3 ⟨rfl, hb3⟩
  replace HS := Lib.hid (HS.out.below hb3)
  clear hb3
  have b1e := (HS.out.at 2 _ _ _ rfl)
  have b1c0 := blk_cell b1e 0 (.int .i64 x) rfl
  have b1c1 := blk_cell b1e 1 (.int .i64 y) rfl
  have b1f0 := blk_frozen b1e 0
  have b1f1 := blk_frozen b1e 1
  have b1l := blk_lt b1e
  clear b1e
  go_wp2_with fail
  clear b1c0 b1c1 b1f0 b1f1 b1l
  cases t4 : ptOk (x, y) with
  | true =>
   have hdr := dir_range t2
   dsimp only at hdr
   obtain ⟨r1, r2⟩ := hdr
   have r34 := ptOk_range t4
   unfold far at r34
   dsimp only at r34
   obtain ⟨r3, r4⟩ := r34
   have wn : IntKind.i64.wrap (-b) = -b := IntWalk.i64_in _ (by omega)
   have HNqa := Lib.hid (fun W => rnum_any a W (by omega) (by omega))
   have Zqa := Lib.hid (i64_szR a (by omega) (by omega) 1 (by omega))
   have HNqb := Lib.hid (fun W => rnum_any b W (by omega) (by omega))
   have Zqb := Lib.hid (i64_szR b (by omega) (by omega) 1 (by omega))
   have HNqn := Lib.hid (fun W => rnum_any (-b) W (by omega) (by omega))
   have Zqn := Lib.hid (i64_szR (-b) (by omega) (by omega) 1 (by omega))
   have HNqx := Lib.hid (fun W => rnum_any x W (by omega) (by omega))
   have Zqx := Lib.hid (i64_szR x (by omega) (by omega) 1 (by omega))
   have HNqy := Lib.hid (fun W => rnum_any y W (by omega) (by omega))
   have Zqy := Lib.hid (i64_szR y (by omega) (by omega) 1 (by omega))
   have hsq := dir_sq t2
   have HD0 : Hid ((det2 ((a : Int) : Rat) ((b : Int) : Rat) ((-b : Int) : Rat) ((a : Int) : Rat)).num.natAbs ≠ 0) := by
    show _ ≠ _
    have e := det_sq (a, b)
    dsimp only at e
    rw [e, Rat.num_intCast]
    omega
   have HQX : Hid (backX (a, b) (x, y) = det2 ((x : Int) : Rat) ((b : Int) : Rat) ((y : Int) : Rat) ((a : Int) : Rat) / det2 ((a : Int) : Rat) ((b : Int) : Rat) ((-b : Int) : Rat) ((a : Int) : Rat)) := by
    have e := det_sq (a, b)
    have f := det_x (a, b) (x, y)
    dsimp only at e f
    show _ = _
    rw [e, f]
    rfl
   have HQY : Hid (backY (a, b) (x, y) = det2 ((a : Int) : Rat) ((x : Int) : Rat) ((-b : Int) : Rat) ((y : Int) : Rat) / det2 ((a : Int) : Rat) ((b : Int) : Rat) ((-b : Int) : Rat) ((a : Int) : Rat)) := by
    have e := det_sq (a, b)
    have f := det_y (a, b) (x, y)
    dsimp only at e f
    show _ = _
    rw [e, f]
    rfl
   generalize ((-b : Int) : Rat) = qn at *
   generalize ((a : Int) : Rat) = qa at *
   generalize ((b : Int) : Rat) = qb at *
   generalize ((x : Int) : Rat) = qx at *
   generalize ((y : Int) : Rat) = qy at *
   clear r1 r2 r3 r4 hsq
   refine (rright_any (x, y) _).mono ?_
   rw [t4]
   rintro e w5 ⟨rfl, hb5⟩
   replace HS := Lib.hid (HS.out.below hb5)
   clear hb5
   go_wp2_with fail
   refine wp_region_held_drew (S := (fun w' => Sx w w' [(w.heap.size + 3, #[.bool false, .slice none 0 0, .slice none 0 0], 37), (w.heap.size + 2, #[.bool false, .slice none 0 0, .slice none 0 0], 37), (w.heap.size + 1, #[.int .i64 x, .int .i64 y], 25), (w.heap.size, #[.int .i64 a, .int .i64 b], 23)] [])) (by kernel_rfl) ((HS.out.drew).bare) (fun hh => ?_)
   replace HS := Lib.hid HS.out.drew
   have HSW := Lib.hid HS.out.bel.size
   refine tkB (i := 0) (v := ?vk7) rfl ?hk7 ?rk7
   case hk7 => intro u hSu; go_simp <;> with_reducible rfl
   try simp only [nbs, Act.put]
   refine tkB (i := 1) (v := ?vk8) rfl ?hk8 ?rk8
   case hk8 => intro u hSu; (try dsimp only at hSu); have qb0e := (hSu.at 3 _ _ _ rfl); have qb0c0 := blk_cell qb0e 0 (.int .i64 a) rfl; have qb0c1 := blk_cell qb0e 1 (.int .i64 b) rfl; clear qb0e; clear hSu; go_simp <;> with_reducible rfl
   try simp only [nbs, Act.put]
   refine tkB (i := 3) (v := ?vk9) rfl ?hk9 ?rk9
   case hk9 => intro u hSu; go_simp <;> with_reducible rfl
   try simp only [nbs, Act.put]
   refine tkB (i := 4) (v := ?vk10) rfl ?hk10 ?rk10
   case hk10 => intro u hSu; (try dsimp only at hSu); have qb0e := (hSu.at 3 _ _ _ rfl); have qb0c0 := blk_cell qb0e 0 (.int .i64 a) rfl; have qb0c1 := blk_cell qb0e 1 (.int .i64 b) rfl; clear qb0e; clear hSu; go_simp <;> with_reducible rfl
   try simp only [nbs, Act.put]
   refine tkB (i := 7) (v := ?vk11) rfl ?hk11 ?rk11
   case hk11 => intro u hSu; go_simp <;> with_reducible rfl
   try simp only [nbs, Act.put]
   refine tkB (i := 8) (v := ?vk12) rfl ?hk12 ?rk12
   case hk12 => intro u hSu; (try dsimp only at hSu); have qb0e := (hSu.at 3 _ _ _ rfl); have qb0c0 := blk_cell qb0e 0 (.int .i64 a) rfl; have qb0c1 := blk_cell qb0e 1 (.int .i64 b) rfl; clear qb0e; clear hSu; go_simp <;> with_reducible rfl
   try simp only [nbs, Act.put]
   refine tkB (i := 9) (v := ?vk13) rfl ?hk13 ?rk13
   case hk13 => intro u hSu; go_simp <;> with_reducible rfl
   try simp only [nbs, Act.put]
   refine tkB (i := 11) (v := ?vk14) rfl ?hk14 ?rk14
   case hk14 => intro u hSu; go_simp <;> with_reducible rfl
   try simp only [nbs, Act.put]
   refine tkB (i := 12) (v := ?vk15) rfl ?hk15 ?rk15
   case hk15 => intro u hSu; (try dsimp only at hSu); have qb0e := (hSu.at 3 _ _ _ rfl); have qb0c0 := blk_cell qb0e 0 (.int .i64 a) rfl; have qb0c1 := blk_cell qb0e 1 (.int .i64 b) rfl; clear qb0e; clear hSu; go_simp <;> with_reducible rfl
   try simp only [nbs, Act.put]
   refine tkB (i := 16) (v := ?vk16) rfl ?hk16 ?rk16
   case hk16 => intro u hSu; go_simp <;> with_reducible rfl
   try simp only [nbs, Act.put]
   refine tkB (i := 17) (v := ?vk17) rfl ?hk17 ?rk17
   case hk17 => intro u hSu; (try dsimp only at hSu); have qb1e := (hSu.at 2 _ _ _ rfl); have qb1c0 := blk_cell qb1e 0 (.int .i64 x) rfl; have qb1c1 := blk_cell qb1e 1 (.int .i64 y) rfl; clear qb1e; clear hSu; go_simp <;> with_reducible rfl
   try simp only [nbs, Act.put]
   refine tkB (i := 19) (v := ?vk18) rfl ?hk18 ?rk18
   case hk18 => intro u hSu; go_simp <;> with_reducible rfl
   try simp only [nbs, Act.put]
   refine tkB (i := 20) (v := ?vk19) rfl ?hk19 ?rk19
   case hk19 => intro u hSu; (try dsimp only at hSu); have qb1e := (hSu.at 2 _ _ _ rfl); have qb1c0 := blk_cell qb1e 0 (.int .i64 x) rfl; have qb1c1 := blk_cell qb1e 1 (.int .i64 y) rfl; clear qb1e; clear hSu; go_simp <;> with_reducible rfl
   try simp only [nbs, Act.put]
   refine rdA (i := 2) rfl (fun K hK => ?_)
   go_simp
   go_wp2_with (go_at_call 25; (with_reducible refine (HNqa.out _).mono ?_); rintro e w20 ⟨v20, rfl, hv20, hb20⟩; obtain ⟨z20, rfl⟩ := hv20.open3)
   refine hK.out _ _ (Sx.below hh hb20) (fun hh => ?_)
   clear hK K
   try simp only [nbs, Act.put]
   replace HS := Lib.hid (HS.out.below hb20)
   clear hb20
   replace HS := Lib.hid (HS.out.addQ hv20)
   clear hv20
   refine rdA (i := 5) rfl (fun K hK => ?_)
   go_simp
   go_wp2_with (go_at_call 25; (with_reducible refine (HNqb.out _).mono ?_); rintro e w21 ⟨v21, rfl, hv21, hb21⟩; obtain ⟨z21, rfl⟩ := hv21.open3)
   refine hK.out _ _ (Sx.below hh hb21) (fun hh => ?_)
   clear hK K
   try simp only [nbs, Act.put]
   replace HS := Lib.hid (HS.out.below hb21)
   clear hb21
   replace HS := Lib.hid (HS.out.addQ hv21)
   clear hv21
   have HLTB := Lib.hid HS.out.lt
   have HSZB := Lib.hid HS.out.bel.size
   refine wpAnyH_modular [6, 10, 13, 14, 15, 18, 21, 22, 23, 24, 25, 26, 27, 28] [6, 10, 13, 14, 15, 18, 21, 22, 23] [24, 25, 26, 27, 28] [29, 33, 36, 37, 38, 41, 44, 45, 46, 22, 47, 48, 8, 9] #[true, true, true, true, true, true, true, true, true, true, true, true, true, true, true, true, true, true, true, true, true, true, true, true, true, true, true, true, true] 0 [(6, 29), (10, 33), (13, 36), (14, 37), (15, 38), (18, 41), (21, 44), (22, 45), (23, 46), (24, 22), (25, 47), (26, 48), (27, 8), (28, 9)] [(6, []), (10, []), (13, [10]), (14, [10, 13]), (15, [6, 14]), (18, [13]), (21, [18]), (22, [18, 21]), (23, [15, 22, 21]), (24, [23]), (25, [24]), (26, [24]), (27, [25, 23, 6, 10, 13, 14, 15, 18, 21, 22, 24]), (28, [26, 27, 6, 10, 13, 14, 15, 18, 21, 22, 23, 24, 25])] [] [(6, fun v w => ∃ (Br6_6 : Nat), v = .slice (some ⟨Br6_6, 0, none⟩) 2 2 ∧ w21.heap.size ≤ Br6_6 ∧ w.heap[Br6_6]? = some (.cells #[.bool z20.b, .slice z20.a z20.n z20.c, .slice z20.d z20.m z20.e, .bool z21.b, .slice z21.a z21.n z21.c, .slice z21.d z21.m z21.e] 37 (0, 0))), (10, fun v w => ∃ z22 : R3, v = z22.val ∧ Fr false w z22.val qn), (13, fun v w => ∃ z23 : R3, v = z23.val ∧ Fr false w z23.val qa), (14, fun v w => ∃ (Br6_14 : Nat) (z22q14 z23q14 : R3), v = .slice (some ⟨Br6_14, 0, none⟩) 2 2 ∧ w21.heap.size ≤ Br6_14 ∧ w.heap[Br6_14]? = some (.cells #[.bool z22q14.b, .slice z22q14.a z22q14.n z22q14.c, .slice z22q14.d z22q14.m z22q14.e, .bool z23q14.b, .slice z23q14.a z23q14.n z23q14.c, .slice z23q14.d z23q14.m z23q14.e] 37 (0, 0)) ∧ Fr false w z22q14.val qn ∧ Fr false w z23q14.val qa), (15, fun v w => ∃ B15x : Nat, v = .slice (some ⟨B15x, 0, none⟩) 2 2 ∧ MatAt w (.slice (some ⟨B15x, 0, none⟩) 2 2) qa qb qn qa), (18, fun v w => ∃ z24 : R3, v = z24.val ∧ Fr false w z24.val qx), (21, fun v w => ∃ z25 : R3, v = z25.val ∧ Fr false w z25.val qy), (22, fun v w => ∃ (Br6_22 : Nat) (z24q22 z25q22 : R3), v = .slice (some ⟨Br6_22, 0, none⟩) 2 2 ∧ w21.heap.size ≤ Br6_22 ∧ w.heap[Br6_22]? = some (.cells #[.bool z24q22.b, .slice z24q22.a z24q22.n z24q22.c, .slice z24q22.d z24q22.m z24q22.e, .bool z25q22.b, .slice z25q22.a z25q22.n z25q22.c, .slice z25q22.d z25q22.m z25q22.e] 37 (0, 0)) ∧ Fr false w z24q22.val qx ∧ Fr false w z25q22.val qy), (23, fun v w => ∃ zz23 : Value, v = .tuple #[zz23, .int .i64 0] ∧ RowAt w21.heap.size w zz23 (det2 qx qb qy qa / det2 qa qb qn qa) (det2 qa qx qn qy / det2 qa qb qn qa)), (24, fun v w => ∃ zz24 : Value, v = .tuple #[zz24, .int .i64 0] ∧ RowAt w21.heap.size w zz24 (det2 qx qb qy qa / det2 qa qb qn qa) (det2 qa qx qn qy / det2 qa qb qn qa)), (25, fun v w => ∃ zz25 : Value, v = zz25 ∧ RowAt w21.heap.size w zz25 (det2 qx qb qy qa / det2 qa qb qn qa) (det2 qa qx qn qy / det2 qa qb qn qa)), (26, fun v w => v = .int .i64 0), (27, fun v w => ∃ zz27 : Value, v = zz27 ∧ RowAt w21.heap.size w zz27 (det2 qx qb qy qa / det2 qa qb qn qa) (det2 qa qx qn qy / det2 qa qb qn qa)), (28, fun v w => v = .int .i64 0)]
    rfl (by kernel_rfl) (by decide) rfl ⟨(fun v w w' hb ⟨B, e, g, k⟩ => ⟨B, e, g, blk_keep k hb (blk_lt k)⟩), ⟨(fun v w w' hb ⟨z0, e, h0⟩ => ⟨z0, e, Fr.below h0 hb⟩), ⟨(fun v w w' hb ⟨z0, e, h0⟩ => ⟨z0, e, Fr.below h0 hb⟩), ⟨(fun v w w' hb ⟨B, z0, z1, e, g, k, h0, h1⟩ => ⟨B, z0, z1, e, g, blk_keep k hb (blk_lt k), Fr.below h0 hb, Fr.below h1 hb⟩), ⟨(fun v w w' hb ⟨B, e, k⟩ => ⟨B, e, k.below hb⟩), ⟨(fun v w w' hb ⟨z0, e, h0⟩ => ⟨z0, e, Fr.below h0 hb⟩), ⟨(fun v w w' hb ⟨z0, e, h0⟩ => ⟨z0, e, Fr.below h0 hb⟩), ⟨(fun v w w' hb ⟨B, z0, z1, e, g, k, h0, h1⟩ => ⟨B, z0, z1, e, g, blk_keep k hb (blk_lt k), Fr.below h0 hb, Fr.below h1 hb⟩), ⟨(fun v w w' hb ⟨z, e, r⟩ => ⟨z, e, r.below hb⟩), ⟨(fun v w w' hb ⟨z, e, r⟩ => ⟨z, e, r.below hb⟩), ⟨(fun v w w' hb ⟨z, e, r⟩ => ⟨z, e, r.below hb⟩), ⟨(fun v w w' hb e => e), ⟨(fun v w w' hb ⟨z, e, r⟩ => ⟨z, e, r.below hb⟩), ⟨(fun v w w' hb e => e), trivial⟩⟩⟩⟩⟩⟩⟩⟩⟩⟩⟩⟩⟩⟩ trivial (fun w' hb => Sx.below hh hb) ⟨?_, ?_, ?_, ?_, ?_, ?_, ?_, ?_, ?_, trivial⟩ ⟨?_, ?_, ?_, ?_, ?_, trivial⟩ (by decide) ?_
   ·
    refine StepM.of rfl (fun f w' hb hp K hK => ?_)
    have HSB := HS
    replace HS := Lib.hid (HS.out.below hb)
    simp only [fillA, fillT, List.foldl_cons, List.foldl_nil, Act.put, nb4, nb5, nb6]
    go_simp
    exact hK.out _ _ (.slice (some ⟨w'.heap.size, 0, none⟩) 2 2) (by simp only [fillA, fillT, List.foldl_cons, List.foldl_nil, Act.put, nb4, nb5, nb6, nb1, nb2, nb3]) ⟨_, rfl, hb.size, blk_new _ _ _⟩ (fun h => absurd h (by decide)) (below1 w' _)
   ·
    refine StepM.of rfl (fun f w' hb hp K hK => ?_)
    have HSB := HS
    replace HS := Lib.hid (HS.out.below hb)
    simp only [fillA, fillT, List.foldl_cons, List.foldl_nil, Act.put, nb4, nb5, nb6]
    go_simp
    go_wp2_with (go_at_call 25; (with_reducible refine (HNqn.out _).mono ?_); rintro e w22 ⟨v22, rfl, hv22, hb22⟩; obtain ⟨z22, rfl⟩ := hv22.open3)
    exact hK.out _ _ (z22.val) (by simp only [fillA, fillT, List.foldl_cons, List.foldl_nil, Act.put, nb4, nb5, nb6, nb1, nb2, nb3]) ⟨z22, rfl, hv22⟩ (fun h => absurd h (by decide)) hb22
   ·
    refine StepM.of rfl (fun f w' hb hp K hK => ?_)
    have HSB := HS
    replace HS := Lib.hid (HS.out.below hb)
    simp only [fillA, fillT, List.foldl_cons, List.foldl_nil, Act.put, nb4, nb5, nb6]
    go_simp
    go_wp2_with (go_at_call 25; (with_reducible refine (HNqa.out _).mono ?_); rintro e w23 ⟨v23, rfl, hv23, hb23⟩; obtain ⟨z23, rfl⟩ := hv23.open3)
    exact hK.out _ _ (z23.val) (by simp only [fillA, fillT, List.foldl_cons, List.foldl_nil, Act.put, nb4, nb5, nb6, nb1, nb2, nb3]) ⟨z23, rfl, hv23⟩ (fun h => absurd h (by decide)) hb23
   ·
    refine StepM.of rfl (fun f w' hb hp K hK => ?_)
    obtain ⟨z22, e10, h10_0⟩ : ∃ z22 : R3, f 33 = z22.val ∧ Fr false w' z22.val qn := hp 10 (by decide)
    obtain ⟨z23, e13, h13_0⟩ : ∃ z23 : R3, f 36 = z23.val ∧ Fr false w' z23.val qa := hp 13 (by decide)
    have HSB := HS
    replace HS := Lib.hid (HS.out.below hb)
    replace HS := Lib.hid (HS.out.addQ h10_0)
    replace HS := Lib.hid (HS.out.addQ h13_0)
    simp only [fillA, fillT, List.foldl_cons, List.foldl_nil, Act.put, nb4, nb5, nb6, e10, e13]
    go_simp
    exact hK.out _ _ (.slice (some ⟨w'.heap.size, 0, none⟩) 2 2) (by simp only [fillA, fillT, List.foldl_cons, List.foldl_nil, Act.put, nb4, nb5, nb6, nb1, nb2, nb3, e10, e13]) ⟨_, z22, z23, rfl, hb.size, blk_new _ _ _, Fr.below h10_0 (below1 w' _), Fr.below h13_0 (below1 w' _)⟩ (fun h => absurd h (by decide)) (below1 w' _)
   ·
    refine StepM.of rfl (fun f w' hb hp K hK => ?_)
    obtain ⟨Br6_6, e6, g6, k6⟩ : ∃ (Br6_6 : Nat), f 29 = .slice (some ⟨Br6_6, 0, none⟩) 2 2 ∧ w21.heap.size ≤ Br6_6 ∧ w'.heap[Br6_6]? = some (.cells #[.bool z20.b, .slice z20.a z20.n z20.c, .slice z20.d z20.m z20.e, .bool z21.b, .slice z21.a z21.n z21.c, .slice z21.d z21.m z21.e] 37 (0, 0)) := hp 6 (by decide)
    obtain ⟨Br6_14, z22q14, z23q14, e14, g14, k14, h14_0, h14_1⟩ : ∃ (Br6_14 : Nat) (z22q14 z23q14 : R3), f 37 = .slice (some ⟨Br6_14, 0, none⟩) 2 2 ∧ w21.heap.size ≤ Br6_14 ∧ w'.heap[Br6_14]? = some (.cells #[.bool z22q14.b, .slice z22q14.a z22q14.n z22q14.c, .slice z22q14.d z22q14.m z22q14.e, .bool z23q14.b, .slice z23q14.a z23q14.n z23q14.c, .slice z23q14.d z23q14.m z23q14.e] 37 (0, 0)) ∧ Fr false w' z22q14.val qn ∧ Fr false w' z23q14.val qa := hp 14 (by decide)
    have HSB := HS
    replace HS := Lib.hid (HS.out.below hb)
    replace HS := Lib.hid (HS.out.addQ h14_0)
    replace HS := Lib.hid (HS.out.addQ h14_1)
    simp only [fillA, fillT, List.foldl_cons, List.foldl_nil, Act.put, nb4, nb5, nb6, e6, e14]
    go_simp
    exact hK.out _ _ (.slice (some ⟨w'.heap.size, 0, none⟩) 2 2) (by simp only [fillA, fillT, List.foldl_cons, List.foldl_nil, Act.put, nb4, nb5, nb6, nb1, nb2, nb3, e6, e14]) ⟨_, rfl, MatAt.newF _ k6 k14 (HS.out.fra 3 _ rfl) (HS.out.fra 2 _ rfl) h14_0 h14_1⟩ (fun h => absurd h (by decide)) (below1 w' _)
   ·
    refine StepM.of rfl (fun f w' hb hp K hK => ?_)
    have HSB := HS
    replace HS := Lib.hid (HS.out.below hb)
    simp only [fillA, fillT, List.foldl_cons, List.foldl_nil, Act.put, nb4, nb5, nb6]
    go_simp
    go_wp2_with (go_at_call 25; (with_reducible refine (HNqx.out _).mono ?_); rintro e w24 ⟨v24, rfl, hv24, hb24⟩; obtain ⟨z24, rfl⟩ := hv24.open3)
    exact hK.out _ _ (z24.val) (by simp only [fillA, fillT, List.foldl_cons, List.foldl_nil, Act.put, nb4, nb5, nb6, nb1, nb2, nb3]) ⟨z24, rfl, hv24⟩ (fun h => absurd h (by decide)) hb24
   ·
    refine StepM.of rfl (fun f w' hb hp K hK => ?_)
    have HSB := HS
    replace HS := Lib.hid (HS.out.below hb)
    simp only [fillA, fillT, List.foldl_cons, List.foldl_nil, Act.put, nb4, nb5, nb6]
    go_simp
    go_wp2_with (go_at_call 25; (with_reducible refine (HNqy.out _).mono ?_); rintro e w25 ⟨v25, rfl, hv25, hb25⟩; obtain ⟨z25, rfl⟩ := hv25.open3)
    exact hK.out _ _ (z25.val) (by simp only [fillA, fillT, List.foldl_cons, List.foldl_nil, Act.put, nb4, nb5, nb6, nb1, nb2, nb3]) ⟨z25, rfl, hv25⟩ (fun h => absurd h (by decide)) hb25
   ·
    refine StepM.of rfl (fun f w' hb hp K hK => ?_)
    obtain ⟨z24, e18, h18_0⟩ : ∃ z24 : R3, f 41 = z24.val ∧ Fr false w' z24.val qx := hp 18 (by decide)
    obtain ⟨z25, e21, h21_0⟩ : ∃ z25 : R3, f 44 = z25.val ∧ Fr false w' z25.val qy := hp 21 (by decide)
    have HSB := HS
    replace HS := Lib.hid (HS.out.below hb)
    replace HS := Lib.hid (HS.out.addQ h18_0)
    replace HS := Lib.hid (HS.out.addQ h21_0)
    simp only [fillA, fillT, List.foldl_cons, List.foldl_nil, Act.put, nb4, nb5, nb6, e18, e21]
    go_simp
    exact hK.out _ _ (.slice (some ⟨w'.heap.size, 0, none⟩) 2 2) (by simp only [fillA, fillT, List.foldl_cons, List.foldl_nil, Act.put, nb4, nb5, nb6, nb1, nb2, nb3, e18, e21]) ⟨_, z24, z25, rfl, hb.size, blk_new _ _ _, Fr.below h18_0 (below1 w' _), Fr.below h21_0 (below1 w' _)⟩ (fun h => absurd h (by decide)) (below1 w' _)
   ·
    refine StepM.of rfl (fun f w' hb hp K hK => ?_)
    obtain ⟨B15x, e15, km15⟩ : ∃ B15x : Nat, f 38 = .slice (some ⟨B15x, 0, none⟩) 2 2 ∧ MatAt w' (.slice (some ⟨B15x, 0, none⟩) 2 2) qa qb qn qa := hp 15 (by decide)
    obtain ⟨Br6_22, z24q22, z25q22, e22, g22, k22, h22_0, h22_1⟩ : ∃ (Br6_22 : Nat) (z24q22 z25q22 : R3), f 45 = .slice (some ⟨Br6_22, 0, none⟩) 2 2 ∧ w21.heap.size ≤ Br6_22 ∧ w'.heap[Br6_22]? = some (.cells #[.bool z24q22.b, .slice z24q22.a z24q22.n z24q22.c, .slice z24q22.d z24q22.m z24q22.e, .bool z25q22.b, .slice z25q22.a z25q22.n z25q22.c, .slice z25q22.d z25q22.m z25q22.e] 37 (0, 0)) ∧ Fr false w' z24q22.val qx ∧ Fr false w' z25q22.val qy := hp 22 (by decide)
    have HSB := HS
    replace HS := Lib.hid (HS.out.below hb)
    replace HS := Lib.hid (HS.out.addQ h22_0)
    replace HS := Lib.hid (HS.out.addQ h22_1)
    simp only [fillA, fillT, List.foldl_cons, List.foldl_nil, Act.put, nb4, nb5, nb6, e15, e22]
    have hr22 := RowAt.of k22 h22_0 h22_1
    go_simp
    go_wp2_with (go_at_call 24; (with_reducible refine (solve_any qa qb qn qa qx qy 0 _ _ _ km15 hr22 (szR_mono Zqa.out (by omega)) (szR_mono Zqb.out (by omega)) (szR_mono Zqn.out (by omega)) (szR_mono Zqa.out (by omega)) (szR_mono Zqx.out (by omega)) (szR_mono Zqy.out (by omega)) HD0.out).mono ?_); rintro e wq ⟨zq, rfl, hrow, hbq⟩)
    exact hK.out _ _ (.tuple #[zq, .int .i64 0]) (by simp only [fillA, fillT, List.foldl_cons, List.foldl_nil, Act.put, nb4, nb5, nb6, nb1, nb2, nb3, e15, e22]) ⟨zq, rfl, hrow.mono hb.size⟩ (fun h => absurd h (by decide)) hbq
   ·
    refine EagerM.of rfl (fun f w' hb hp => ?_)
    obtain ⟨zz23, e23, r23⟩ : ∃ zz23 : Value, f 46 = .tuple #[zz23, .int .i64 0] ∧ RowAt w21.heap.size w' zz23 (det2 qx qb qy qa / det2 qa qb qn qa) (det2 qa qx qn qy / det2 qa qb qn qa) := hp 23 (by decide)
    refine ⟨.tuple #[zz23, .int .i64 0], ⟨zz23, rfl, r23⟩, by first | rfl | kernel_rfl, fun u => ?_⟩
    simp only [fillA, fillT, List.foldl_cons, List.foldl_nil, Act.put, nb4, nb5, nb6, e23]
    go_simp <;> with_reducible rfl
   ·
    refine EagerM.of rfl (fun f w' hb hp => ?_)
    obtain ⟨zz24, e24, r24⟩ : ∃ zz24 : Value, f 22 = .tuple #[zz24, .int .i64 0] ∧ RowAt w21.heap.size w' zz24 (det2 qx qb qy qa / det2 qa qb qn qa) (det2 qa qx qn qy / det2 qa qb qn qa) := hp 24 (by decide)
    refine ⟨zz24, ⟨zz24, rfl, r24⟩, by first | rfl | kernel_rfl, fun u => ?_⟩
    simp only [fillA, fillT, List.foldl_cons, List.foldl_nil, Act.put, nb4, nb5, nb6, e24]
    go_simp <;> with_reducible rfl
   ·
    refine EagerM.of rfl (fun f w' hb hp => ?_)
    obtain ⟨zz24, e24, r24⟩ : ∃ zz24 : Value, f 22 = .tuple #[zz24, .int .i64 0] ∧ RowAt w21.heap.size w' zz24 (det2 qx qb qy qa / det2 qa qb qn qa) (det2 qa qx qn qy / det2 qa qb qn qa) := hp 24 (by decide)
    refine ⟨.int .i64 0, rfl, by first | rfl | kernel_rfl, fun u => ?_⟩
    simp only [fillA, fillT, List.foldl_cons, List.foldl_nil, Act.put, nb4, nb5, nb6, e24]
    go_simp <;> with_reducible rfl
   ·
    refine EagerM.of rfl (fun f w' hb hp => ?_)
    obtain ⟨zz25, e25, r25⟩ : ∃ zz25 : Value, f 47 = zz25 ∧ RowAt w21.heap.size w' zz25 (det2 qx qb qy qa / det2 qa qb qn qa) (det2 qa qx qn qy / det2 qa qb qn qa) := hp 25 (by decide)
    refine ⟨zz25, ⟨zz25, rfl, r25⟩, by first | rfl | kernel_rfl, fun u => ?_⟩
    simp only [fillA, fillT, List.foldl_cons, List.foldl_nil, Act.put, nb4, nb5, nb6, e25]
    go_simp <;> with_reducible rfl
   ·
    refine EagerM.of rfl (fun f w' hb hp => ?_)
    obtain e26 : f 48 = .int .i64 0 := hp 26 (by decide)
    refine ⟨.int .i64 0, rfl, by first | rfl | kernel_rfl, fun u => ?_⟩
    simp only [fillA, fillT, List.foldl_cons, List.foldl_nil, Act.put, nb4, nb5, nb6, e26]
    go_simp <;> with_reducible rfl
   ·
    intro f wr6 hb hp hd
    obtain ⟨Br6_6, e6, g6, k6⟩ : ∃ (Br6_6 : Nat), f 29 = .slice (some ⟨Br6_6, 0, none⟩) 2 2 ∧ w21.heap.size ≤ Br6_6 ∧ wr6.heap[Br6_6]? = some (.cells #[.bool z20.b, .slice z20.a z20.n z20.c, .slice z20.d z20.m z20.e, .bool z21.b, .slice z21.a z21.n z21.c, .slice z21.d z21.m z21.e] 37 (0, 0)) := hp 6 (by decide)
    obtain ⟨z22, e10, h10_0⟩ : ∃ z22 : R3, f 33 = z22.val ∧ Fr false wr6 z22.val qn := hp 10 (by decide)
    obtain ⟨z23, e13, h13_0⟩ : ∃ z23 : R3, f 36 = z23.val ∧ Fr false wr6 z23.val qa := hp 13 (by decide)
    obtain ⟨Br6_14, z22q14, z23q14, e14, g14, k14, h14_0, h14_1⟩ : ∃ (Br6_14 : Nat) (z22q14 z23q14 : R3), f 37 = .slice (some ⟨Br6_14, 0, none⟩) 2 2 ∧ w21.heap.size ≤ Br6_14 ∧ wr6.heap[Br6_14]? = some (.cells #[.bool z22q14.b, .slice z22q14.a z22q14.n z22q14.c, .slice z22q14.d z22q14.m z22q14.e, .bool z23q14.b, .slice z23q14.a z23q14.n z23q14.c, .slice z23q14.d z23q14.m z23q14.e] 37 (0, 0)) ∧ Fr false wr6 z22q14.val qn ∧ Fr false wr6 z23q14.val qa := hp 14 (by decide)
    obtain ⟨B15x, e15, km15⟩ : ∃ B15x : Nat, f 38 = .slice (some ⟨B15x, 0, none⟩) 2 2 ∧ MatAt wr6 (.slice (some ⟨B15x, 0, none⟩) 2 2) qa qb qn qa := hp 15 (by decide)
    obtain ⟨z24, e18, h18_0⟩ : ∃ z24 : R3, f 41 = z24.val ∧ Fr false wr6 z24.val qx := hp 18 (by decide)
    obtain ⟨z25, e21, h21_0⟩ : ∃ z25 : R3, f 44 = z25.val ∧ Fr false wr6 z25.val qy := hp 21 (by decide)
    obtain ⟨Br6_22, z24q22, z25q22, e22, g22, k22, h22_0, h22_1⟩ : ∃ (Br6_22 : Nat) (z24q22 z25q22 : R3), f 45 = .slice (some ⟨Br6_22, 0, none⟩) 2 2 ∧ w21.heap.size ≤ Br6_22 ∧ wr6.heap[Br6_22]? = some (.cells #[.bool z24q22.b, .slice z24q22.a z24q22.n z24q22.c, .slice z24q22.d z24q22.m z24q22.e, .bool z25q22.b, .slice z25q22.a z25q22.n z25q22.c, .slice z25q22.d z25q22.m z25q22.e] 37 (0, 0)) ∧ Fr false wr6 z24q22.val qx ∧ Fr false wr6 z25q22.val qy := hp 22 (by decide)
    obtain ⟨zz23, e23, r23⟩ : ∃ zz23 : Value, f 46 = .tuple #[zz23, .int .i64 0] ∧ RowAt w21.heap.size wr6 zz23 (det2 qx qb qy qa / det2 qa qb qn qa) (det2 qa qx qn qy / det2 qa qb qn qa) := hp 23 (by decide)
    obtain ⟨zz24, e24, r24⟩ : ∃ zz24 : Value, f 22 = .tuple #[zz24, .int .i64 0] ∧ RowAt w21.heap.size wr6 zz24 (det2 qx qb qy qa / det2 qa qb qn qa) (det2 qa qx qn qy / det2 qa qb qn qa) := hp 24 (by decide)
    obtain ⟨zz25, e25, r25⟩ : ∃ zz25 : Value, f 47 = zz25 ∧ RowAt w21.heap.size wr6 zz25 (det2 qx qb qy qa / det2 qa qb qn qa) (det2 qa qx qn qy / det2 qa qb qn qa) := hp 25 (by decide)
    obtain e26 : f 48 = .int .i64 0 := hp 26 (by decide)
    obtain ⟨zz27, e27, r27⟩ : ∃ zz27 : Value, f 8 = zz27 ∧ RowAt w21.heap.size wr6 zz27 (det2 qx qb qy qa / det2 qa qb qn qa) (det2 qa qx qn qy / det2 qa qb qn qa) := hp 27 (by decide)
    obtain e28 : f 9 = .int .i64 0 := hp 28 (by decide)
    replace hh := Sx.below hh hb
    have hlt := HS.out.lt
    replace HS := Lib.hid (HS.out.below hb)
    replace HS := Lib.hid (HS.out.addQ h10_0)
    replace HS := Lib.hid (HS.out.addQ h13_0)
    replace HS := Lib.hid (HS.out.addQ h14_0)
    replace HS := Lib.hid (HS.out.addQ h14_1)
    replace HS := Lib.hid (HS.out.addQ h18_0)
    replace HS := Lib.hid (HS.out.addQ h21_0)
    replace HS := Lib.hid (HS.out.addQ h22_0)
    replace HS := Lib.hid (HS.out.addQ h22_1)
    simp only [fillA, fillT, List.foldl_cons, List.foldl_nil, Act.put, nb4, nb5, nb6, e6, e10, e13, e14, e15, e18, e21, e22, e23, e24, e25, e26, e27, e28]
    clear hp hd hb hlt e6 e10 e13 e14 e15 e18 e21 e22 e23 e24 e25 e26 e27 e28
    refine wpAnyH_done (by kernel_rfl) ?_ _
    obtain ⟨RX, y0, y1, rfl, hge, hblk, hf0, hf1⟩ := r27
    have hge' : w21.heap.size ≤ RX := hge
    replace HS := Lib.hid (HS.out.addBox hblk (Nat.le_trans HSZB.out hge') (by rfl) (fun b hb => by have := HLTB.out b hb; omega))
    replace HS := Lib.hid ((HS.out.addQ hf0).addQ hf1)
    clear hge hge' hblk hf0 hf1 HLTB HSZB
    go_wp2_with fail
    refine wp_region_held_drew (S := (fun w' => Sx w w' [(RX, arr6 y0 y1, 37), (w.heap.size + 1, #[.int .i64 x, .int .i64 y], 25), (w.heap.size, #[.int .i64 a, .int .i64 b], 23)] [])) (by kernel_rfl) (((HS.out.drew).erase 2).erase 1) (fun hh => ?_)
    replace HS := Lib.hid HS.out.drew
    refine tkB (i := 0) (v := ?vk27) rfl ?hk27 ?rk27
    case hk27 => intro u hSu; go_simp <;> with_reducible rfl
    try simp only [nbs, Act.put]
    refine tkB (i := 1) (v := ?vk28) rfl ?hk28 ?rk28
    case hk28 => intro u hSu; go_simp <;> with_reducible rfl
    try simp only [nbs, Act.put]
    refine tkB (i := 2) (v := ?vk29) rfl ?hk29 ?rk29
    case hk29 => intro u hSu; (try dsimp only at hSu); obtain ⟨qb4c0, qb4c1, qb4c2, qb4c3, qb4c4, qb4c5, _⟩ := fac6 (x := y0) (y := y1) (hSu.at 0 _ _ _ rfl); clear hSu; go_simp <;> with_reducible rfl
    try simp only [nbs, Act.put]
    refine tkB (i := 3) (v := ?vk30) rfl ?hk30 ?rk30
    case hk30 => intro u hSu; go_simp <;> with_reducible rfl
    try simp only [nbs, Act.put]
    refine tkB (i := 4) (v := ?vk31) rfl ?hk31 ?rk31
    case hk31 => intro u hSu; go_simp <;> with_reducible rfl
    try simp only [nbs, Act.put]
    refine tkB (i := 5) (v := ?vk32) rfl ?hk32 ?rk32
    case hk32 => intro u hSu; (try dsimp only at hSu); obtain ⟨qb4c0, qb4c1, qb4c2, qb4c3, qb4c4, qb4c5, _⟩ := fac6 (x := y0) (y := y1) (hSu.at 0 _ _ _ rfl); clear hSu; go_simp <;> with_reducible rfl
    try simp only [nbs, Act.put]
    refine rdA (i := 6) rfl (fun K hK => ?_)
    generalize wr6.drew = Wd33 at *
    have b2e := (HS.out.at 2 _ _ _ rfl)
    have b2c0 := blk_cell b2e 0 (.bool false) rfl
    have b2c1 := blk_cell b2e 1 (.slice none 0 0) rfl
    have b2c2 := blk_cell b2e 2 (.slice none 0 0) rfl
    have b2f0 := blk_frozen b2e 0
    have b2f1 := blk_frozen b2e 1
    have b2f2 := blk_frozen b2e 2
    have b2l := blk_lt b2e
    clear b2e
    go_simp
    refine hK.out _ _ ((((((HS.out).st_R 2 r30 y0 rfl)).erase 2)).erase 1) (fun hh => ?_)
    clear hK K b2c0 b2c1 b2c2 b2f0 b2f1 b2f2 b2l
    try simp only [nbs, Act.put]
    generalize hW34 : (((Wd33).setCell _ _).setCell _ _).setCell _ _ = W34 at *
    replace HS := Lib.hid (((HS.out).st_R 2 r30 y0 rfl).to hW34 (by (try simp only [nb5, nb6]); rfl))
    clear hW34
    refine rdA (i := 7) rfl (fun K hK => ?_)
    have b3e := (HS.out.at 1 _ _ _ rfl)
    have b3c0 := blk_cell b3e 0 (.bool false) rfl
    have b3c1 := blk_cell b3e 1 (.slice none 0 0) rfl
    have b3c2 := blk_cell b3e 2 (.slice none 0 0) rfl
    have b3f0 := blk_frozen b3e 0
    have b3f1 := blk_frozen b3e 1
    have b3f2 := blk_frozen b3e 2
    have b3l := blk_lt b3e
    clear b3e
    go_simp
    refine hK.out _ _ ((((((HS.out).st_R 1 r30 y1 rfl)).erase 2)).erase 1) (fun hh => ?_)
    clear hK K b3c0 b3c1 b3c2 b3f0 b3f1 b3f2 b3l
    try simp only [nbs, Act.put]
    generalize hW35 : (((W34).setCell _ _).setCell _ _).setCell _ _ = W35 at *
    replace HS := Lib.hid (((HS.out).st_R 1 r30 y1 rfl).to hW35 (by (try simp only [nb5, nb6]); rfl))
    clear hW35
    refine tkB (i := 8) (v := ?vk36) rfl ?hk36 ?rk36
    case hk36 => intro u hSu; go_simp <;> with_reducible rfl
    try simp only [nbs, Act.put]
    refine wpAnyH_done (by kernel_rfl) ?_ _
    obtain ⟨b2c0, b2c1, b2c2, b2f0, b2f1, b2f2⟩ := fac3 (x := y0) (HS.out.at 2 _ _ _ rfl)
    have b2l := blk_lt (HS.out.at 2 _ _ _ rfl)
    obtain ⟨b3c0, b3c1, b3c2, b3f0, b3f1, b3f2⟩ := fac3 (x := y1) (HS.out.at 1 _ _ _ rfl)
    have b3l := blk_lt (HS.out.at 1 _ _ _ rfl)
    go_wp2_with fail
    clear b2c0 b2c1 b2c2 b2f0 b2f1 b2f2 b2l b3c0 b3c1 b3c2 b3f0 b3f1 b3f2 b3l
    have HT : Hid (backB (a, b) (x, y) = true) := by show _ = _; rw [HR.out, t2, t4] <;> rfl
    obtain ⟨b2c0, b2c1, b2c2, _⟩ := fac3 (x := y0) (HS.out.at 2 _ _ _ rfl)
    obtain ⟨b3c0, b3c1, b3c2, _⟩ := fac3 (x := y1) (HS.out.at 1 _ _ _ rfl)
    refine bodyPost_ret (v := .tuple #[y0.val, y1.val, .int .i64 0]) (by simp [results, Tryz.results7, go_sem, b2c0, b2c1, b2c2, b3c0, b3c1, b3c2]) rfl ⟨_, _, by rw [HT.out] <;> rfl, by rw [HT.out, HQX.out]; exact (HS.out.q 1 _ _ rfl), by rw [HT.out, HQY.out]; exact (HS.out.q 0 _ _ rfl), HS.out.bel⟩
  | false =>
   refine (rright_any (x, y) _).mono ?_
   rw [t4]
   rintro e w37 ⟨rfl, hb37⟩
   replace HS := Lib.hid (HS.out.below hb37)
   clear hb37
   go_wp2_with fail
   refine (qint0_any' _).mono ?_
   rintro e w38 ⟨v38, rfl, hv38, hb38⟩
   obtain ⟨z38, rfl⟩ := hv38.open3
   replace HS := Lib.hid (HS.out.below hb38)
   clear hb38
   replace HS := Lib.hid (HS.out.addQ hv38)
   clear hv38
   go_wp2_with fail
   refine (qint0_any' _).mono ?_
   rintro e w39 ⟨v39, rfl, hv39, hb39⟩
   obtain ⟨z39, rfl⟩ := hv39.open3
   replace HS := Lib.hid (HS.out.below hb39)
   clear hb39
   replace HS := Lib.hid (HS.out.addQ hv39)
   clear hv39
   have b2e := (HS.out.at 1 _ _ _ rfl)
   have b2c0 := blk_cell b2e 0 (.bool false) rfl
   have b2c1 := blk_cell b2e 1 (.slice none 0 0) rfl
   have b2c2 := blk_cell b2e 2 (.slice none 0 0) rfl
   have b2f0 := blk_frozen b2e 0
   have b2f1 := blk_frozen b2e 1
   have b2f2 := blk_frozen b2e 2
   have b2l := blk_lt b2e
   clear b2e
   have b3e := (HS.out.at 0 _ _ _ rfl)
   have b3c0 := blk_cell b3e 0 (.bool false) rfl
   have b3c1 := blk_cell b3e 1 (.slice none 0 0) rfl
   have b3c2 := blk_cell b3e 2 (.slice none 0 0) rfl
   have b3f0 := blk_frozen b3e 0
   have b3f1 := blk_frozen b3e 1
   have b3f2 := blk_frozen b3e 2
   have b3l := blk_lt b3e
   clear b3e
   go_wp2_with fail
   clear b2c0 b2c1 b2c2 b2f0 b2f1 b2f2 b2l b3c0 b3c1 b3c2 b3f0 b3f1 b3f2 b3l
   generalize hW40 : ((((((w39).setCell _ _).setCell _ _).setCell _ _).setCell _ _).setCell _ _).setCell _ _ = W40 at *
   replace HS := Lib.hid ((((HS.out).st_R 1 r30 z38 rfl).st_R 0 r30 z39 rfl).to hW40 (by (try simp only [nb5, nb6]); rfl))
   clear hW40
   have HT : Hid (backB (a, b) (x, y) = false) := by show _ = _; rw [HR.out, t2, t4] <;> rfl
   obtain ⟨b2c0, b2c1, b2c2, _⟩ := fac3 (x := z38) (HS.out.at 1 _ _ _ rfl)
   obtain ⟨b3c0, b3c1, b3c2, _⟩ := fac3 (x := z39) (HS.out.at 0 _ _ _ rfl)
   refine bodyPost_ret (v := .tuple #[z38.val, z39.val, .int .i64 1]) (by simp [results, Tryz.results7, go_sem, b2c0, b2c1, b2c2, b3c0, b3c1, b3c2]) rfl ⟨_, _, by rw [HT.out] <;> rfl, by rw [HT.out]; exact (HS.out.q 1 _ _ rfl), by rw [HT.out]; exact (HS.out.q 0 _ _ rfl), HS.out.bel⟩
 | false =>
  refine (direction_any a b _).mono ?_
  rw [show dirE (a, b) = 1 from by unfold dirE; rw [t2]; rfl]
  rintro e w41 ⟨rfl, hb41⟩
  replace HS := Lib.hid (HS.out.below hb41)
  clear hb41
  go_wp2_with fail
  refine (qint0_any' _).mono ?_
  rintro e w42 ⟨v42, rfl, hv42, hb42⟩
  obtain ⟨z42, rfl⟩ := hv42.open3
  replace HS := Lib.hid (HS.out.below hb42)
  clear hb42
  replace HS := Lib.hid (HS.out.addQ hv42)
  clear hv42
  go_wp2_with fail
  refine (qint0_any' _).mono ?_
  rintro e w43 ⟨v43, rfl, hv43, hb43⟩
  obtain ⟨z43, rfl⟩ := hv43.open3
  replace HS := Lib.hid (HS.out.below hb43)
  clear hb43
  replace HS := Lib.hid (HS.out.addQ hv43)
  clear hv43
  have b2e := (HS.out.at 1 _ _ _ rfl)
  have b2c0 := blk_cell b2e 0 (.bool false) rfl
  have b2c1 := blk_cell b2e 1 (.slice none 0 0) rfl
  have b2c2 := blk_cell b2e 2 (.slice none 0 0) rfl
  have b2f0 := blk_frozen b2e 0
  have b2f1 := blk_frozen b2e 1
  have b2f2 := blk_frozen b2e 2
  have b2l := blk_lt b2e
  clear b2e
  have b3e := (HS.out.at 0 _ _ _ rfl)
  have b3c0 := blk_cell b3e 0 (.bool false) rfl
  have b3c1 := blk_cell b3e 1 (.slice none 0 0) rfl
  have b3c2 := blk_cell b3e 2 (.slice none 0 0) rfl
  have b3f0 := blk_frozen b3e 0
  have b3f1 := blk_frozen b3e 1
  have b3f2 := blk_frozen b3e 2
  have b3l := blk_lt b3e
  clear b3e
  go_wp2_with fail
  clear b2c0 b2c1 b2c2 b2f0 b2f1 b2f2 b2l b3c0 b3c1 b3c2 b3f0 b3f1 b3f2 b3l
  generalize hW44 : ((((((w43).setCell _ _).setCell _ _).setCell _ _).setCell _ _).setCell _ _).setCell _ _ = W44 at *
  replace HS := Lib.hid ((((HS.out).st_R 1 r30 z42 rfl).st_R 0 r30 z43 rfl).to hW44 (by (try simp only [nb5, nb6]); rfl))
  clear hW44
  have HT : Hid (backB (a, b) (x, y) = false) := by show _ = _; rw [HR.out, t2] <;> rfl
  obtain ⟨b2c0, b2c1, b2c2, _⟩ := fac3 (x := z42) (HS.out.at 1 _ _ _ rfl)
  obtain ⟨b3c0, b3c1, b3c2, _⟩ := fac3 (x := z43) (HS.out.at 0 _ _ _ rfl)
  refine bodyPost_ret (v := .tuple #[z42.val, z43.val, .int .i64 1]) (by simp [results, Tryz.results7, go_sem, b2c0, b2c1, b2c2, b3c0, b3c1, b3c2]) rfl ⟨_, _, by rw [HT.out] <;> rfl, by rw [HT.out]; exact (HS.out.q 1 _ _ rfl), by rw [HT.out]; exact (HS.out.q 0 _ _ rfl), HS.out.bel⟩
end Go.Proofs.YtakempimcbofgaaGreat
