/- Part g of the lemmas and walks. -/
import Derived.Test.YtakempimcbofgaaGreatAf

namespace Go.Proofs.YtakempimcbofgaaGreat
open Go.RowKit

set_option maxRecDepth 100000 in
theorem neq_ptT (a b : Int) (w : World) : (binOp .neq 25 (.agg #[.int .i64 a, .int .i64 b]) (.agg #[.int .i64 a, .int .i64 b])).run Tryz.prog w = .ok (.bool false) w := by
 rw [run_neq_struct, run_equalIn_struct w 9999 25 _ _ (by kernel_rfl) (by kernel_rfl), pt_fields]
 have n0 : ("X" ≠ "_") := by decide
 have n1 : ("Y" ≠ "_") := by decide
 unfold Op.eqFields
 rw [if_pos n0]
 simp only [Sem.run_bind, (part2 _ _ _).1, eqInt, Result.andThen_ok, Sem.run_ite]
 simp only [beq_self_eq_true, if_true]
 unfold Op.eqFields
 rw [if_pos n1]
 simp only [Sem.run_bind, (part2 _ _ _).2, eqInt, Result.andThen_ok, Sem.run_ite]
 unfold Op.eqFields
 simp
theorem turn_ways (a b x y : Int) : (turnB (a, b) (x, y) = true ∧ backB (a, b) (x, y) = true) ∨ (turnB (a, b) (x, y) = false ∧ backB (a, b) (x, y) = true) ∨ (turnB (a, b) (x, y) = false ∧ backB (a, b) (x, y) = false) := by
 cases h : turnB (a, b) (x, y) with
 | true =>
  refine .inl ⟨rfl, ?_⟩
  unfold turnB at h
  simp only [Bool.and_eq_true] at h
  obtain ⟨hd, h1, h2⟩ := h
  have r1 := inL_range h1
  have r2 := inL_range h2
  unfold backB ptOk far
  rw [hd]
  simp only [inL, Bool.true_and, Bool.and_eq_true, decide_eq_true_eq]
  omega
 | false =>
  cases h2 : backB (a, b) (x, y) with
  | true => exact .inr (.inl ⟨rfl, rfl⟩)
  | false => exact .inr (.inr ⟨rfl, rfl⟩)
theorem back_ranges {a b x y : Int} (h : backB (a, b) (x, y) = true) : (szR ((a * x : Int) : Rat) 1 ∧ szR ((b * y : Int) : Rat) 1) ∧ (szR ((b * x : Int) : Rat) 1 ∧ szR ((a * y : Int) : Rat) 1) ∧ szR ((a * a + b * b : Int) : Rat) 1 ∧ ((a * a + b * b : Int) : Rat).num.natAbs ≠ 0 := by
 unfold backB at h
 simp only [Bool.and_eq_true] at h
 have hdr := dir_range h.1
 have hsq := dir_sq h.1
 have r34 := ptOk_range h.2
 unfold far at r34
 unfold sqI at hsq
 dsimp only at hdr r34 hsq
 have m1 := mul_absT hdr.1 r34.1
 have m2 := mul_absT hdr.2 r34.2
 have m3 := mul_absT hdr.2 r34.1
 have m4 := mul_absT hdr.1 r34.2
 have m5 := mul_absT hdr.1 hdr.1
 have m6 := mul_absT hdr.2 hdr.2
 refine ⟨⟨i64_szR _ (by omega) (by omega) 1 (by omega), i64_szR _ (by omega) (by omega) 1 (by omega)⟩, ⟨i64_szR _ (by omega) (by omega) 1 (by omega), i64_szR _ (by omega) (by omega) 1 (by omega)⟩, i64_szR _ (by omega) (by omega) 1 (by omega), ?_⟩
 rw [Rat.num_intCast]
 omega
theorem backX_sz (a b x y : Int) : szR (cond (backB (a, b) (x, y)) (backX (a, b) (x, y)) 0) 100 := by
 cases h : backB (a, b) (x, y) with
 | false => exact szR_mono nul_szR (by omega)
 | true =>
  obtain ⟨r1, r2, r3, r4⟩ := back_ranges h
  show szR (((a * x - b * y : Int) : Rat) / ((a * a + b * b : Int) : Rat)) 100
  rw [Rat.intCast_sub]
  exact szR_mono (szR_div (szR_sub r1.1 r1.2) r3 r4) (by omega)
theorem backY_sz (a b x y : Int) : szR (cond (backB (a, b) (x, y)) (backY (a, b) (x, y)) 0) 100 := by
 cases h : backB (a, b) (x, y) with
 | false => exact szR_mono nul_szR (by omega)
 | true =>
  obtain ⟨r1, r2, r3, r4⟩ := back_ranges h
  show szR (((b * x + a * y : Int) : Rat) / ((a * a + b * b : Int) : Rat)) 100
  rw [Rat.intCast_add]
  exact szR_mono (szR_div (szR_add r2.1 r2.2) r3 r4) (by omega)
set_option maxRecDepth 100000 in
set_option maxHeartbeats 8000000 in
theorem layupTurns_any (a b x y : Int) (w : World) (hx : -9223372036854775808 ≤ x ∧ x ≤ 9223372036854775807) (hy : -9223372036854775808 ≤ y ∧ y ≤ 9223372036854775807) : Calls Tryz.prog 3 #[.agg #[.int .i64 a, .int .i64 b], .agg #[.int .i64 x, .int .i64 y]] w (RetBool true w) := by
 have HTU := Lib.hid (turned_any a b x y)
 have HRT := Lib.hid (rturned_any a b x y)
 have HBK := Lib.hid (back_any a b x y)
 have HRB := Lib.hid (rback_any a b x y)
 have SBX : Hid (szR (cond (backB (a, b) (x, y)) (backX (a, b) (x, y)) 0) 100) := backX_sz a b x y
 have SBY : Hid (szR (cond (backB (a, b) (x, y)) (backY (a, b) (x, y)) 0) 100) := backY_sz a b x y
 have h3 : (turnB (a, b) (x, y) = true ∧ backB (a, b) (x, y) = true) ∨ (turnB (a, b) (x, y) = false ∧ backB (a, b) (x, y) = true) ∨ (turnB (a, b) (x, y) = false ∧ backB (a, b) (x, y) = false) := turn_ways a b x y
 have HS := Lib.hid (Sx.init w)
 have HBT : Hid (turnB (a, b) (x, y) = true → ∀ W, Calls Tryz.prog 6 #[.agg #[.int .i64 a, .int .i64 b], .agg #[.int .i64 (turnI (a, b) (x, y)).1, .int .i64 (turnI (a, b) (x, y)).2]] W (RetBkP true ((x : Int) : Rat) ((y : Int) : Rat) W)) := fun h W => by
  have hb := turn_ok h
  have hd : dirB (a, b) = true := by unfold turnB at h; simp only [Bool.and_eq_true] at h; exact h.1
  have e := back_any a b (turnI (a, b) (x, y)).1 (turnI (a, b) (x, y)).2 W
  have e1 := back_turnX (d := (a, b)) (p := (x, y)) hd
  have e2 := back_turnY (d := (a, b)) (p := (x, y)) hd
  rw [show ((turnI (a, b) (x, y)).1, (turnI (a, b) (x, y)).2) = turnI (a, b) (x, y) from rfl, hb, e1, e2] at e
  exact e
 have HIX := Lib.hid (fun W => int_any x W hx.1 hx.2)
 have HIY := Lib.hid (fun W => int_any y W hy.1 hy.2)
 rcases h3 with ⟨h1, h2⟩ | ⟨h1, h2⟩ | ⟨h1, h2⟩
 ·
  rw [h1] at HTU HRT HBT
  rw [h2] at HBK HRB SBX SBY
  dsimp only [cond] at SBX SBY
  replace HBT := Lib.hid (HBT.out rfl)
  generalize turnI (a, b) (x, y) = tp at *
  obtain ⟨tx, ty⟩ := tp
  try dsimp only at HBT
  generalize backX (a, b) (x, y) = qx at *
  generalize backY (a, b) (x, y) = qy at *
  generalize ((x : Int) : Rat) = ix at *
  generalize ((y : Int) : Rat) = iy at *
  clear h1 h2 hx hy
  go_enter Tryz.func3, Tryz.ntmps3
  go_wp2_with fail
  generalize hW1 : ((w).alloc (.cells _ _)).alloc (.cells _ _) = W1 at *
  replace HS := Lib.hid ((((HS.out).alloc (B := w.heap.size) rfl (by rfl)).alloc (B := w.heap.size + 1) (by simp) (by rfl)).to hW1 (by (try simp only [nb5, nb6]); rfl))
  clear hW1
  refine (HTU.out _).mono ?_
  rintro e w2 ⟨rfl, hb2⟩
  replace HS := Lib.hid (HS.out.below hb2)
  clear hb2
  have b0e := (HS.out.at 1 _ _ _ rfl)
  have b0c0 := blk_cell b0e 0 (.int .i64 a) rfl
  have b0c1 := blk_cell b0e 1 (.int .i64 b) rfl
  have b0f0 := blk_frozen b0e 0
  have b0f1 := blk_frozen b0e 1
  have b0l := blk_lt b0e
  clear b0e
  have b1e := (HS.out.at 0 _ _ _ rfl)
  have b1c0 := blk_cell b1e 0 (.int .i64 x) rfl
  have b1c1 := blk_cell b1e 1 (.int .i64 y) rfl
  have b1f0 := blk_frozen b1e 0
  have b1f1 := blk_frozen b1e 1
  have b1l := blk_lt b1e
  clear b1e
  go_wp2_with fail
  clear b0c0 b0c1 b0f0 b0f1 b0l b1c0 b1c1 b1f0 b1f1 b1l
  generalize hW3 : (w2).alloc (.cells _ _) = W3 at *
  replace HS := Lib.hid (((HS.out).alloc (B := w2.heap.size) rfl (by rfl)).to hW3 (by (try simp only [nb5, nb6]); rfl))
  clear hW3
  refine (HRT.out _).mono ?_
  rintro e w4 ⟨rfl, hb4⟩
  replace HS := Lib.hid (HS.out.below hb4)
  clear hb4
  have b0e := (HS.out.at 2 _ _ _ rfl)
  have b0c0 := blk_cell b0e 0 (.int .i64 a) rfl
  have b0c1 := blk_cell b0e 1 (.int .i64 b) rfl
  have b0f0 := blk_frozen b0e 0
  have b0f1 := blk_frozen b0e 1
  have b0l := blk_lt b0e
  clear b0e
  have b1e := (HS.out.at 1 _ _ _ rfl)
  have b1c0 := blk_cell b1e 0 (.int .i64 x) rfl
  have b1c1 := blk_cell b1e 1 (.int .i64 y) rfl
  have b1f0 := blk_frozen b1e 0
  have b1f1 := blk_frozen b1e 1
  have b1l := blk_lt b1e
  clear b1e
  go_wp2_with fail
  clear b0c0 b0c1 b0f0 b0f1 b0l b1c0 b1c1 b1f0 b1f1 b1l
  generalize hW5 : (w4).alloc (.cells _ _) = W5 at *
  replace HS := Lib.hid (((HS.out).alloc (B := w4.heap.size) rfl (by rfl)).to hW5 (by (try simp only [nb5, nb6]); rfl))
  clear hW5
  refine (HBK.out _).mono ?_
  rintro e w6 ⟨u6, v6, rfl, hu6, hv6, hb6⟩
  obtain ⟨zu6, rfl⟩ := hu6.open3
  obtain ⟨zv6, rfl⟩ := hv6.open3
  replace HS := Lib.hid (HS.out.below hb6)
  clear hb6
  replace HS := Lib.hid (HS.out.addP hu6)
  clear hu6
  replace HS := Lib.hid (HS.out.addP hv6)
  clear hv6
  have b0e := (HS.out.at 3 _ _ _ rfl)
  have b0c0 := blk_cell b0e 0 (.int .i64 a) rfl
  have b0c1 := blk_cell b0e 1 (.int .i64 b) rfl
  have b0f0 := blk_frozen b0e 0
  have b0f1 := blk_frozen b0e 1
  have b0l := blk_lt b0e
  clear b0e
  have b1e := (HS.out.at 2 _ _ _ rfl)
  have b1c0 := blk_cell b1e 0 (.int .i64 x) rfl
  have b1c1 := blk_cell b1e 1 (.int .i64 y) rfl
  have b1f0 := blk_frozen b1e 0
  have b1f1 := blk_frozen b1e 1
  have b1l := blk_lt b1e
  clear b1e
  go_wp2_with fail
  clear b0c0 b0c1 b0f0 b0f1 b0l b1c0 b1c1 b1f0 b1f1 b1l
  generalize hW7 : ((w6).alloc (.cells _ _)).alloc (.cells _ _) = W7 at *
  replace HS := Lib.hid ((((HS.out).alloc (B := w6.heap.size) rfl (by rfl)).alloc (B := w6.heap.size + 1) (by simp) (by rfl)).to hW7 (by (try simp only [nb5, nb6]); rfl))
  clear hW7
  refine (HRB.out _).mono ?_
  rintro e w8 ⟨u8, v8, rfl, hu8, hv8, hb8⟩
  obtain ⟨zu8, rfl⟩ := hu8.open3
  obtain ⟨zv8, rfl⟩ := hv8.open3
  replace HS := Lib.hid (HS.out.below hb8)
  clear hb8
  replace HS := Lib.hid (HS.out.addQ hu8)
  clear hu8
  replace HS := Lib.hid (HS.out.addQ hv8)
  clear hv8
  go_wp2_with fail
  generalize hW9 : ((w8).alloc (.cells _ _)).alloc (.cells _ _) = W9 at *
  replace HS := Lib.hid ((((HS.out).alloc (B := w8.heap.size) rfl (by rfl)).alloc (B := w8.heap.size + 1) (by simp) (by rfl)).to hW9 (by (try simp only [nb5, nb6]); rfl))
  clear hW9
  refine (awake03_any _).mono ?_
  rintro e w10 ⟨rfl, hb10⟩
  replace HS := Lib.hid (HS.out.below hb10)
  clear hb10
  have hneq := neq_ptT tx ty
  have b2e := (HS.out.at 5 _ _ _ rfl)
  have b2c0 := blk_cell b2e 0 (.int .i64 tx) rfl
  have b2c1 := blk_cell b2e 1 (.int .i64 ty) rfl
  have b2f0 := blk_frozen b2e 0
  have b2f1 := blk_frozen b2e 1
  have b2l := blk_lt b2e
  clear b2e
  have b3e := (HS.out.at 4 _ _ _ rfl)
  have b3c0 := blk_cell b3e 0 (.int .i64 tx) rfl
  have b3c1 := blk_cell b3e 1 (.int .i64 ty) rfl
  have b3f0 := blk_frozen b3e 0
  have b3f1 := blk_frozen b3e 1
  have b3l := blk_lt b3e
  clear b3e
  obtain ⟨b4c0, b4c1, b4c2, b4f0, b4f1, b4f2⟩ := fac3 (x := zu6) (HS.out.at 3 _ _ _ rfl)
  have b4l := blk_lt (HS.out.at 3 _ _ _ rfl)
  obtain ⟨b6c0, b6c1, b6c2, b6f0, b6f1, b6f2⟩ := fac3 (x := zu8) (HS.out.at 1 _ _ _ rfl)
  have b6l := blk_lt (HS.out.at 1 _ _ _ rfl)
  go_wp2_with fail
  clear hneq b2c0 b2c1 b2f0 b2f1 b2l b3c0 b3c1 b3f0 b3f1 b3l b4c0 b4c1 b4c2 b4f0 b4f1 b4f2 b4l b6c0 b6c1 b6c2 b6f0 b6f1 b6f2 b6l
  refine (lis_any qx _ _ _ (HS.out.p 3 _ _ rfl) (HS.out.q 1 _ _ rfl) (szR_mono SBX.out (by omega))).mono ?_
  rintro e w11 ⟨rfl, hb11⟩
  replace HS := Lib.hid (HS.out.below hb11)
  clear hb11
  obtain ⟨b5c0, b5c1, b5c2, b5f0, b5f1, b5f2⟩ := fac3 (x := zv6) (HS.out.at 2 _ _ _ rfl)
  have b5l := blk_lt (HS.out.at 2 _ _ _ rfl)
  obtain ⟨b7c0, b7c1, b7c2, b7f0, b7f1, b7f2⟩ := fac3 (x := zv8) (HS.out.at 0 _ _ _ rfl)
  have b7l := blk_lt (HS.out.at 0 _ _ _ rfl)
  go_wp2_with fail
  clear b5c0 b5c1 b5c2 b5f0 b5f1 b5f2 b5l b7c0 b7c1 b7c2 b7f0 b7f1 b7f2 b7l
  refine (lis_any qy _ _ _ (HS.out.p 2 _ _ rfl) (HS.out.q 0 _ _ rfl) (szR_mono SBY.out (by omega))).mono ?_
  rintro e w12 ⟨rfl, hb12⟩
  replace HS := Lib.hid (HS.out.below hb12)
  clear hb12
  have b0e := (HS.out.at 7 _ _ _ rfl)
  have b0c0 := blk_cell b0e 0 (.int .i64 a) rfl
  have b0c1 := blk_cell b0e 1 (.int .i64 b) rfl
  have b0f0 := blk_frozen b0e 0
  have b0f1 := blk_frozen b0e 1
  have b0l := blk_lt b0e
  clear b0e
  have b2e := (HS.out.at 5 _ _ _ rfl)
  have b2c0 := blk_cell b2e 0 (.int .i64 tx) rfl
  have b2c1 := blk_cell b2e 1 (.int .i64 ty) rfl
  have b2f0 := blk_frozen b2e 0
  have b2f1 := blk_frozen b2e 1
  have b2l := blk_lt b2e
  clear b2e
  go_wp2_with fail
  clear b0c0 b0c1 b0f0 b0f1 b0l b2c0 b2c1 b2f0 b2f1 b2l
  refine (HBT.out _).mono ?_
  rintro e w13 ⟨u13, v13, rfl, hu13, hv13, hb13⟩
  obtain ⟨zu13, rfl⟩ := hu13.open3
  obtain ⟨zv13, rfl⟩ := hv13.open3
  replace HS := Lib.hid (HS.out.below hb13)
  clear hb13
  replace HS := Lib.hid (HS.out.addP hu13)
  clear hu13
  replace HS := Lib.hid (HS.out.addP hv13)
  clear hv13
  obtain ⟨b4c0, b4c1, b4c2, b4f0, b4f1, b4f2⟩ := fac3 (x := zu6) (HS.out.at 3 _ _ _ rfl)
  have b4l := blk_lt (HS.out.at 3 _ _ _ rfl)
  obtain ⟨b5c0, b5c1, b5c2, b5f0, b5f1, b5f2⟩ := fac3 (x := zv6) (HS.out.at 2 _ _ _ rfl)
  have b5l := blk_lt (HS.out.at 2 _ _ _ rfl)
  go_wp2_with fail
  clear b4c0 b4c1 b4c2 b4f0 b4f1 b4f2 b4l b5c0 b5c1 b5c2 b5f0 b5f1 b5f2 b5l
  generalize hW14 : ((((((w13).setCell _ _).setCell _ _).setCell _ _).setCell _ _).setCell _ _).setCell _ _ = W14 at *
  replace HS := Lib.hid ((((HS.out).st_R 3 zu6 zu13 rfl).st_R 2 zv6 zv13 rfl).to hW14 (by (try simp only [nb5, nb6]); rfl))
  clear hW14
  refine wp_region_held_drew (S := (fun w' => Sx w w' [(w8.heap.size + 1, zv8.arr, 37), (w8.heap.size, zu8.arr, 37), (w6.heap.size + 1, zv13.arr, 32), (w6.heap.size, zu13.arr, 32), (w4.heap.size, #[.int .i64 tx, .int .i64 ty], 25), (w2.heap.size, #[.int .i64 tx, .int .i64 ty], 25), (w.heap.size + 1, #[.int .i64 x, .int .i64 y], 25), (w.heap.size, #[.int .i64 a, .int .i64 b], 23)] [])) (by kernel_rfl) ((HS.out.drew).bare) (fun hh => ?_)
  replace HS := Lib.hid HS.out.drew
  refine tkB (i := 0) (v := ?vk16) rfl ?hk16 ?rk16
  case hk16 => intro u hSu; go_simp <;> with_reducible rfl
  try simp only [nbs, Act.put]
  refine tkB (i := 1) (v := ?vk17) rfl ?hk17 ?rk17
  case hk17 => intro u hSu; go_simp <;> with_reducible rfl
  try simp only [nbs, Act.put]
  refine tkB (i := 2) (v := ?vk18) rfl ?hk18 ?rk18
  case hk18 => intro u hSu; go_simp <;> with_reducible rfl
  try simp only [nbs, Act.put]
  refine tkB (i := 3) (v := ?vk19) rfl ?hk19 ?rk19
  case hk19 => intro u hSu; (try dsimp only at hSu); obtain ⟨qb4c0, qb4c1, qb4c2, _⟩ := fac3 (x := zu13) (hSu.at 3 _ _ _ rfl); clear hSu; go_simp <;> with_reducible rfl
  try simp only [nbs, Act.put]
  refine tkB (i := 4) (v := ?vk20) rfl ?hk20 ?rk20
  case hk20 => intro u hSu; go_simp <;> with_reducible rfl
  try simp only [nbs, Act.put]
  refine tkB (i := 5) (v := ?vk21) rfl ?hk21 ?rk21
  case hk21 => intro u hSu; (try dsimp only at hSu); have qb1e := (hSu.at 6 _ _ _ rfl); have qb1c0 := blk_cell qb1e 0 (.int .i64 x) rfl; have qb1c1 := blk_cell qb1e 1 (.int .i64 y) rfl; clear qb1e; clear hSu; go_simp <;> with_reducible rfl
  try simp only [nbs, Act.put]
  refine rdA (i := 6) rfl (fun K hK => ?_)
  go_simp
  go_wp2_with (go_at_call 11; (with_reducible refine (HIX.out _).mono ?_); rintro e w22 ⟨v22, rfl, hv22, hb22⟩; obtain ⟨z22, rfl⟩ := hv22.open3)
  refine hK.out _ _ (Sx.below hh hb22) (fun hh => ?_)
  clear hK K
  try simp only [nbs, Act.put]
  replace HS := Lib.hid (HS.out.below hb22)
  clear hb22
  replace HS := Lib.hid (HS.out.addP hv22)
  clear hv22
  refine rdA (i := 7) rfl (fun K hK => ?_)
  go_simp
  have a24 := HS.out.p 2 _ _ rfl
  have a25 := HS.out.p 0 _ _ rfl
  go_wp2_with (go_at_call 10; (with_reducible refine (same_any ix ix _ _ _ a24 a25).mono ?_); rw [decide_eq_true rfl]; rintro e w23 ⟨rfl, hb23⟩)
  refine hK.out _ _ (Sx.below hh hb23) (fun hh => ?_)
  clear hK K
  try simp only [nbs, Act.put]
  replace HS := Lib.hid (HS.out.below hb23)
  clear hb23 a24 a25
  refine tkB (i := 8) (v := ?vk26) rfl ?hk26 ?rk26
  case hk26 => intro u hSu; go_simp <;> with_reducible rfl
  try simp only [nbs, Act.put]
  refine tkB (i := 9) (v := ?vk27) rfl ?hk27 ?rk27
  case hk27 => intro u hSu; go_simp <;> with_reducible rfl
  try simp only [nbs, Act.put]
  refine tkB (i := 10) (v := ?vk28) rfl ?hk28 ?rk28
  case hk28 => intro u hSu; (try dsimp only at hSu); obtain ⟨qb5c0, qb5c1, qb5c2, _⟩ := fac3 (x := zv13) (hSu.at 2 _ _ _ rfl); clear hSu; go_simp <;> with_reducible rfl
  try simp only [nbs, Act.put]
  refine tkB (i := 11) (v := ?vk29) rfl ?hk29 ?rk29
  case hk29 => intro u hSu; go_simp <;> with_reducible rfl
  try simp only [nbs, Act.put]
  refine tkB (i := 12) (v := ?vk30) rfl ?hk30 ?rk30
  case hk30 => intro u hSu; (try dsimp only at hSu); have qb1e := (hSu.at 6 _ _ _ rfl); have qb1c0 := blk_cell qb1e 0 (.int .i64 x) rfl; have qb1c1 := blk_cell qb1e 1 (.int .i64 y) rfl; clear qb1e; clear hSu; go_simp <;> with_reducible rfl
  try simp only [nbs, Act.put]
  refine rdA (i := 13) rfl (fun K hK => ?_)
  go_simp
  go_wp2_with (go_at_call 11; (with_reducible refine (HIY.out _).mono ?_); rintro e w31 ⟨v31, rfl, hv31, hb31⟩; obtain ⟨z31, rfl⟩ := hv31.open3)
  refine hK.out _ _ (Sx.below hh hb31) (fun hh => ?_)
  clear hK K
  try simp only [nbs, Act.put]
  replace HS := Lib.hid (HS.out.below hb31)
  clear hb31
  replace HS := Lib.hid (HS.out.addP hv31)
  clear hv31
  refine rdA (i := 14) rfl (fun K hK => ?_)
  go_simp
  have a33 := HS.out.p 2 _ _ rfl
  have a34 := HS.out.p 0 _ _ rfl
  go_wp2_with (go_at_call 10; (with_reducible refine (same_any iy iy _ _ _ a33 a34).mono ?_); rw [decide_eq_true rfl]; rintro e w32 ⟨rfl, hb32⟩)
  refine hK.out _ _ (Sx.below hh hb32) (fun hh => ?_)
  clear hK K
  try simp only [nbs, Act.put]
  replace HS := Lib.hid (HS.out.below hb32)
  clear hb32 a33 a34
  refine tkB (i := 15) (v := ?vk35) rfl ?hk35 ?rk35
  case hk35 => intro u hSu; go_simp <;> with_reducible rfl
  try simp only [nbs, Act.put]
  refine tkB (i := 16) (v := ?vk36) rfl ?hk36 ?rk36
  case hk36 => intro u hSu; go_simp <;> with_reducible rfl
  try simp only [nbs, Act.put]
  refine wpAnyH_done (by kernel_rfl) ?_ _
  go_wp2_with fail
  go_ret
  exact ⟨rfl, HS.out.bel⟩
 ·
  rw [h1] at HTU HRT HBT
  rw [h2] at HBK HRB SBX SBY
  dsimp only [cond] at SBX SBY
  clear HBT
  generalize turnI (a, b) (x, y) = tp at *
  obtain ⟨tx, ty⟩ := tp
  try dsimp only at HBT
  generalize backX (a, b) (x, y) = qx at *
  generalize backY (a, b) (x, y) = qy at *
  generalize ((x : Int) : Rat) = ix at *
  generalize ((y : Int) : Rat) = iy at *
  clear h1 h2 hx hy
  go_enter Tryz.func3, Tryz.ntmps3
  go_wp2_with fail
  generalize hW37 : ((w).alloc (.cells _ _)).alloc (.cells _ _) = W37 at *
  replace HS := Lib.hid ((((HS.out).alloc (B := w.heap.size) rfl (by rfl)).alloc (B := w.heap.size + 1) (by simp) (by rfl)).to hW37 (by (try simp only [nb5, nb6]); rfl))
  clear hW37
  refine (HTU.out _).mono ?_
  rintro e w38 ⟨rfl, hb38⟩
  replace HS := Lib.hid (HS.out.below hb38)
  clear hb38
  have b0e := (HS.out.at 1 _ _ _ rfl)
  have b0c0 := blk_cell b0e 0 (.int .i64 a) rfl
  have b0c1 := blk_cell b0e 1 (.int .i64 b) rfl
  have b0f0 := blk_frozen b0e 0
  have b0f1 := blk_frozen b0e 1
  have b0l := blk_lt b0e
  clear b0e
  have b1e := (HS.out.at 0 _ _ _ rfl)
  have b1c0 := blk_cell b1e 0 (.int .i64 x) rfl
  have b1c1 := blk_cell b1e 1 (.int .i64 y) rfl
  have b1f0 := blk_frozen b1e 0
  have b1f1 := blk_frozen b1e 1
  have b1l := blk_lt b1e
  clear b1e
  go_wp2_with fail
  clear b0c0 b0c1 b0f0 b0f1 b0l b1c0 b1c1 b1f0 b1f1 b1l
  generalize hW39 : (w38).alloc (.cells _ _) = W39 at *
  replace HS := Lib.hid (((HS.out).alloc (B := w38.heap.size) rfl (by rfl)).to hW39 (by (try simp only [nb5, nb6]); rfl))
  clear hW39
  refine (HRT.out _).mono ?_
  rintro e w40 ⟨rfl, hb40⟩
  replace HS := Lib.hid (HS.out.below hb40)
  clear hb40
  have b0e := (HS.out.at 2 _ _ _ rfl)
  have b0c0 := blk_cell b0e 0 (.int .i64 a) rfl
  have b0c1 := blk_cell b0e 1 (.int .i64 b) rfl
  have b0f0 := blk_frozen b0e 0
  have b0f1 := blk_frozen b0e 1
  have b0l := blk_lt b0e
  clear b0e
  have b1e := (HS.out.at 1 _ _ _ rfl)
  have b1c0 := blk_cell b1e 0 (.int .i64 x) rfl
  have b1c1 := blk_cell b1e 1 (.int .i64 y) rfl
  have b1f0 := blk_frozen b1e 0
  have b1f1 := blk_frozen b1e 1
  have b1l := blk_lt b1e
  clear b1e
  go_wp2_with fail
  clear b0c0 b0c1 b0f0 b0f1 b0l b1c0 b1c1 b1f0 b1f1 b1l
  generalize hW41 : (w40).alloc (.cells _ _) = W41 at *
  replace HS := Lib.hid (((HS.out).alloc (B := w40.heap.size) rfl (by rfl)).to hW41 (by (try simp only [nb5, nb6]); rfl))
  clear hW41
  refine (HBK.out _).mono ?_
  rintro e w42 ⟨u42, v42, rfl, hu42, hv42, hb42⟩
  obtain ⟨zu42, rfl⟩ := hu42.open3
  obtain ⟨zv42, rfl⟩ := hv42.open3
  replace HS := Lib.hid (HS.out.below hb42)
  clear hb42
  replace HS := Lib.hid (HS.out.addP hu42)
  clear hu42
  replace HS := Lib.hid (HS.out.addP hv42)
  clear hv42
  have b0e := (HS.out.at 3 _ _ _ rfl)
  have b0c0 := blk_cell b0e 0 (.int .i64 a) rfl
  have b0c1 := blk_cell b0e 1 (.int .i64 b) rfl
  have b0f0 := blk_frozen b0e 0
  have b0f1 := blk_frozen b0e 1
  have b0l := blk_lt b0e
  clear b0e
  have b1e := (HS.out.at 2 _ _ _ rfl)
  have b1c0 := blk_cell b1e 0 (.int .i64 x) rfl
  have b1c1 := blk_cell b1e 1 (.int .i64 y) rfl
  have b1f0 := blk_frozen b1e 0
  have b1f1 := blk_frozen b1e 1
  have b1l := blk_lt b1e
  clear b1e
  go_wp2_with fail
  clear b0c0 b0c1 b0f0 b0f1 b0l b1c0 b1c1 b1f0 b1f1 b1l
  generalize hW43 : ((w42).alloc (.cells _ _)).alloc (.cells _ _) = W43 at *
  replace HS := Lib.hid ((((HS.out).alloc (B := w42.heap.size) rfl (by rfl)).alloc (B := w42.heap.size + 1) (by simp) (by rfl)).to hW43 (by (try simp only [nb5, nb6]); rfl))
  clear hW43
  refine (HRB.out _).mono ?_
  rintro e w44 ⟨u44, v44, rfl, hu44, hv44, hb44⟩
  obtain ⟨zu44, rfl⟩ := hu44.open3
  obtain ⟨zv44, rfl⟩ := hv44.open3
  replace HS := Lib.hid (HS.out.below hb44)
  clear hb44
  replace HS := Lib.hid (HS.out.addQ hu44)
  clear hu44
  replace HS := Lib.hid (HS.out.addQ hv44)
  clear hv44
  go_wp2_with fail
  generalize hW45 : ((w44).alloc (.cells _ _)).alloc (.cells _ _) = W45 at *
  replace HS := Lib.hid ((((HS.out).alloc (B := w44.heap.size) rfl (by rfl)).alloc (B := w44.heap.size + 1) (by simp) (by rfl)).to hW45 (by (try simp only [nb5, nb6]); rfl))
  clear hW45
  refine (awake03_any _).mono ?_
  rintro e w46 ⟨rfl, hb46⟩
  replace HS := Lib.hid (HS.out.below hb46)
  clear hb46
  have hneq := neq_ptT 0 0
  have b2e := (HS.out.at 5 _ _ _ rfl)
  have b2c0 := blk_cell b2e 0 (.int .i64 0) rfl
  have b2c1 := blk_cell b2e 1 (.int .i64 0) rfl
  have b2f0 := blk_frozen b2e 0
  have b2f1 := blk_frozen b2e 1
  have b2l := blk_lt b2e
  clear b2e
  have b3e := (HS.out.at 4 _ _ _ rfl)
  have b3c0 := blk_cell b3e 0 (.int .i64 0) rfl
  have b3c1 := blk_cell b3e 1 (.int .i64 0) rfl
  have b3f0 := blk_frozen b3e 0
  have b3f1 := blk_frozen b3e 1
  have b3l := blk_lt b3e
  clear b3e
  obtain ⟨b4c0, b4c1, b4c2, b4f0, b4f1, b4f2⟩ := fac3 (x := zu42) (HS.out.at 3 _ _ _ rfl)
  have b4l := blk_lt (HS.out.at 3 _ _ _ rfl)
  obtain ⟨b6c0, b6c1, b6c2, b6f0, b6f1, b6f2⟩ := fac3 (x := zu44) (HS.out.at 1 _ _ _ rfl)
  have b6l := blk_lt (HS.out.at 1 _ _ _ rfl)
  go_wp2_with fail
  clear hneq b2c0 b2c1 b2f0 b2f1 b2l b3c0 b3c1 b3f0 b3f1 b3l b4c0 b4c1 b4c2 b4f0 b4f1 b4f2 b4l b6c0 b6c1 b6c2 b6f0 b6f1 b6f2 b6l
  refine (lis_any qx _ _ _ (HS.out.p 3 _ _ rfl) (HS.out.q 1 _ _ rfl) (szR_mono SBX.out (by omega))).mono ?_
  rintro e w47 ⟨rfl, hb47⟩
  replace HS := Lib.hid (HS.out.below hb47)
  clear hb47
  obtain ⟨b5c0, b5c1, b5c2, b5f0, b5f1, b5f2⟩ := fac3 (x := zv42) (HS.out.at 2 _ _ _ rfl)
  have b5l := blk_lt (HS.out.at 2 _ _ _ rfl)
  obtain ⟨b7c0, b7c1, b7c2, b7f0, b7f1, b7f2⟩ := fac3 (x := zv44) (HS.out.at 0 _ _ _ rfl)
  have b7l := blk_lt (HS.out.at 0 _ _ _ rfl)
  go_wp2_with fail
  clear b5c0 b5c1 b5c2 b5f0 b5f1 b5f2 b5l b7c0 b7c1 b7c2 b7f0 b7f1 b7f2 b7l
  refine (lis_any qy _ _ _ (HS.out.p 2 _ _ rfl) (HS.out.q 0 _ _ rfl) (szR_mono SBY.out (by omega))).mono ?_
  rintro e w48 ⟨rfl, hb48⟩
  replace HS := Lib.hid (HS.out.below hb48)
  clear hb48
  go_wp2_with fail
  go_ret
  exact ⟨rfl, HS.out.bel⟩
 ·
  rw [h1] at HTU HRT HBT
  rw [h2] at HBK HRB SBX SBY
  dsimp only [cond] at SBX SBY
  clear HBT
  generalize turnI (a, b) (x, y) = tp at *
  obtain ⟨tx, ty⟩ := tp
  try dsimp only at HBT
  generalize backX (a, b) (x, y) = qx at *
  generalize backY (a, b) (x, y) = qy at *
  generalize ((x : Int) : Rat) = ix at *
  generalize ((y : Int) : Rat) = iy at *
  clear h1 h2 hx hy
  go_enter Tryz.func3, Tryz.ntmps3
  go_wp2_with fail
  generalize hW49 : ((w).alloc (.cells _ _)).alloc (.cells _ _) = W49 at *
  replace HS := Lib.hid ((((HS.out).alloc (B := w.heap.size) rfl (by rfl)).alloc (B := w.heap.size + 1) (by simp) (by rfl)).to hW49 (by (try simp only [nb5, nb6]); rfl))
  clear hW49
  refine (HTU.out _).mono ?_
  rintro e w50 ⟨rfl, hb50⟩
  replace HS := Lib.hid (HS.out.below hb50)
  clear hb50
  have b0e := (HS.out.at 1 _ _ _ rfl)
  have b0c0 := blk_cell b0e 0 (.int .i64 a) rfl
  have b0c1 := blk_cell b0e 1 (.int .i64 b) rfl
  have b0f0 := blk_frozen b0e 0
  have b0f1 := blk_frozen b0e 1
  have b0l := blk_lt b0e
  clear b0e
  have b1e := (HS.out.at 0 _ _ _ rfl)
  have b1c0 := blk_cell b1e 0 (.int .i64 x) rfl
  have b1c1 := blk_cell b1e 1 (.int .i64 y) rfl
  have b1f0 := blk_frozen b1e 0
  have b1f1 := blk_frozen b1e 1
  have b1l := blk_lt b1e
  clear b1e
  go_wp2_with fail
  clear b0c0 b0c1 b0f0 b0f1 b0l b1c0 b1c1 b1f0 b1f1 b1l
  generalize hW51 : (w50).alloc (.cells _ _) = W51 at *
  replace HS := Lib.hid (((HS.out).alloc (B := w50.heap.size) rfl (by rfl)).to hW51 (by (try simp only [nb5, nb6]); rfl))
  clear hW51
  refine (HRT.out _).mono ?_
  rintro e w52 ⟨rfl, hb52⟩
  replace HS := Lib.hid (HS.out.below hb52)
  clear hb52
  have b0e := (HS.out.at 2 _ _ _ rfl)
  have b0c0 := blk_cell b0e 0 (.int .i64 a) rfl
  have b0c1 := blk_cell b0e 1 (.int .i64 b) rfl
  have b0f0 := blk_frozen b0e 0
  have b0f1 := blk_frozen b0e 1
  have b0l := blk_lt b0e
  clear b0e
  have b1e := (HS.out.at 1 _ _ _ rfl)
  have b1c0 := blk_cell b1e 0 (.int .i64 x) rfl
  have b1c1 := blk_cell b1e 1 (.int .i64 y) rfl
  have b1f0 := blk_frozen b1e 0
  have b1f1 := blk_frozen b1e 1
  have b1l := blk_lt b1e
  clear b1e
  go_wp2_with fail
  clear b0c0 b0c1 b0f0 b0f1 b0l b1c0 b1c1 b1f0 b1f1 b1l
  generalize hW53 : (w52).alloc (.cells _ _) = W53 at *
  replace HS := Lib.hid (((HS.out).alloc (B := w52.heap.size) rfl (by rfl)).to hW53 (by (try simp only [nb5, nb6]); rfl))
  clear hW53
  refine (HBK.out _).mono ?_
  rintro e w54 ⟨u54, v54, rfl, hu54, hv54, hb54⟩
  obtain ⟨zu54, rfl⟩ := hu54.open3
  obtain ⟨zv54, rfl⟩ := hv54.open3
  replace HS := Lib.hid (HS.out.below hb54)
  clear hb54
  replace HS := Lib.hid (HS.out.addP hu54)
  clear hu54
  replace HS := Lib.hid (HS.out.addP hv54)
  clear hv54
  have b0e := (HS.out.at 3 _ _ _ rfl)
  have b0c0 := blk_cell b0e 0 (.int .i64 a) rfl
  have b0c1 := blk_cell b0e 1 (.int .i64 b) rfl
  have b0f0 := blk_frozen b0e 0
  have b0f1 := blk_frozen b0e 1
  have b0l := blk_lt b0e
  clear b0e
  have b1e := (HS.out.at 2 _ _ _ rfl)
  have b1c0 := blk_cell b1e 0 (.int .i64 x) rfl
  have b1c1 := blk_cell b1e 1 (.int .i64 y) rfl
  have b1f0 := blk_frozen b1e 0
  have b1f1 := blk_frozen b1e 1
  have b1l := blk_lt b1e
  clear b1e
  go_wp2_with fail
  clear b0c0 b0c1 b0f0 b0f1 b0l b1c0 b1c1 b1f0 b1f1 b1l
  generalize hW55 : ((w54).alloc (.cells _ _)).alloc (.cells _ _) = W55 at *
  replace HS := Lib.hid ((((HS.out).alloc (B := w54.heap.size) rfl (by rfl)).alloc (B := w54.heap.size + 1) (by simp) (by rfl)).to hW55 (by (try simp only [nb5, nb6]); rfl))
  clear hW55
  refine (HRB.out _).mono ?_
  rintro e w56 ⟨u56, v56, rfl, hu56, hv56, hb56⟩
  obtain ⟨zu56, rfl⟩ := hu56.open3
  obtain ⟨zv56, rfl⟩ := hv56.open3
  replace HS := Lib.hid (HS.out.below hb56)
  clear hb56
  replace HS := Lib.hid (HS.out.addQ hu56)
  clear hu56
  replace HS := Lib.hid (HS.out.addQ hv56)
  clear hv56
  go_wp2_with fail
  generalize hW57 : ((w56).alloc (.cells _ _)).alloc (.cells _ _) = W57 at *
  replace HS := Lib.hid ((((HS.out).alloc (B := w56.heap.size) rfl (by rfl)).alloc (B := w56.heap.size + 1) (by simp) (by rfl)).to hW57 (by (try simp only [nb5, nb6]); rfl))
  clear hW57
  refine (awake03_any _).mono ?_
  rintro e w58 ⟨rfl, hb58⟩
  replace HS := Lib.hid (HS.out.below hb58)
  clear hb58
  have hneq := neq_ptT 0 0
  have b2e := (HS.out.at 5 _ _ _ rfl)
  have b2c0 := blk_cell b2e 0 (.int .i64 0) rfl
  have b2c1 := blk_cell b2e 1 (.int .i64 0) rfl
  have b2f0 := blk_frozen b2e 0
  have b2f1 := blk_frozen b2e 1
  have b2l := blk_lt b2e
  clear b2e
  have b3e := (HS.out.at 4 _ _ _ rfl)
  have b3c0 := blk_cell b3e 0 (.int .i64 0) rfl
  have b3c1 := blk_cell b3e 1 (.int .i64 0) rfl
  have b3f0 := blk_frozen b3e 0
  have b3f1 := blk_frozen b3e 1
  have b3l := blk_lt b3e
  clear b3e
  obtain ⟨b4c0, b4c1, b4c2, b4f0, b4f1, b4f2⟩ := fac3 (x := zu54) (HS.out.at 3 _ _ _ rfl)
  have b4l := blk_lt (HS.out.at 3 _ _ _ rfl)
  obtain ⟨b6c0, b6c1, b6c2, b6f0, b6f1, b6f2⟩ := fac3 (x := zu56) (HS.out.at 1 _ _ _ rfl)
  have b6l := blk_lt (HS.out.at 1 _ _ _ rfl)
  go_wp2_with fail
  clear hneq b2c0 b2c1 b2f0 b2f1 b2l b3c0 b3c1 b3f0 b3f1 b3l b4c0 b4c1 b4c2 b4f0 b4f1 b4f2 b4l b6c0 b6c1 b6c2 b6f0 b6f1 b6f2 b6l
  refine (lis_any 0 _ _ _ (HS.out.p 3 _ _ rfl) (HS.out.q 1 _ _ rfl) (szR_mono nul_szR (by omega))).mono ?_
  rintro e w59 ⟨rfl, hb59⟩
  replace HS := Lib.hid (HS.out.below hb59)
  clear hb59
  obtain ⟨b5c0, b5c1, b5c2, b5f0, b5f1, b5f2⟩ := fac3 (x := zv54) (HS.out.at 2 _ _ _ rfl)
  have b5l := blk_lt (HS.out.at 2 _ _ _ rfl)
  obtain ⟨b7c0, b7c1, b7c2, b7f0, b7f1, b7f2⟩ := fac3 (x := zv56) (HS.out.at 0 _ _ _ rfl)
  have b7l := blk_lt (HS.out.at 0 _ _ _ rfl)
  go_wp2_with fail
  clear b5c0 b5c1 b5c2 b5f0 b5f1 b5f2 b5l b7c0 b7c1 b7c2 b7f0 b7f1 b7f2 b7l
  refine (lis_any 0 _ _ _ (HS.out.p 2 _ _ rfl) (HS.out.q 0 _ _ rfl) (szR_mono nul_szR (by omega))).mono ?_
  rintro e w60 ⟨rfl, hb60⟩
  replace HS := Lib.hid (HS.out.below hb60)
  clear hb60
  go_wp2_with fail
  go_ret
  exact ⟨rfl, HS.out.bel⟩
end Go.Proofs.YtakempimcbofgaaGreat
